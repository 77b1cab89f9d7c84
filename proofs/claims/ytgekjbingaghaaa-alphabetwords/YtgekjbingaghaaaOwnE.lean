/- A value semantics of the model's programs, sound against it, and functions read off the given program with the proofs that it runs so; no condition. -/
import Derived.Test.YtgekjbingaghaaaOwnD
import Derived.Test.YtgekjbingaghaaaOwnC
import Derived.Sort.AssemblyPlain
set_option linter.all false
set_option linter.unnecessarySimpa false
set_option linter.unusedVariables false
set_option linter.unusedSimpArgs false
/- part JW25 -/
/- scansion/scansionlaw09.few runs as it is read off. -/
namespace Go.Val
set_option linter.unusedVariables false
set_option linter.unusedSimpArgs false
set_option maxRecDepth 20000
open Go.Proofs
theorem scansionlaw09_few_runs (l : List (List TRange)) {h : Heap} {a : Bool} (e : scansionlaw09_few l = some a) :
    Runs CT 25 [.cv (.val (.sl (List.map (eL eRange) l)))] h fun o h' => o = [.cv (.val (.bool a))] ∧ h' = h := by
  refine Runs.start Try.f25 _ Try.func25 rfl (by rw [Try.ntmps25]; simp) (by rfl) (by rfl) (fun hwf hu => ?_)
  obtain ⟨D, hD, hr⟩ : ∃ D : Bool → Prop, (∀ z, D z → z = a) ∧ Holds (scansionlaw09_few l) D := ⟨fun z => z = a, fun _ h => h, Holds.intro e rfl⟩
  dsimp only [scansionlaw09_few] at hr
  change wpCode _ _ _ _ _ ⟨[(0, .cv (.val (.sl (List.map (eL eRange) l))))], h.on []⟩
  refine w_seq ?_
  refine A_region ?_
  refine w_n ?_
  refine w_seq ?_
  refine A_region ?_
  refine w_n ?_
  refine w_seq ?_
  refine w_seq ?_
  refine A_region ?_
  refine w_n ?_
  refine w_K (D := D) (fun xX : Int => ⟨[(3, .cv (.val (.int .i64 xX)))], h.on []⟩) (fun xX : Int => scansionlaw09_few.k1 xX) (fun xX s' hr ht => ?_) ?_
  · obtain ⟨n, rfl⟩ : ∃ z, z = xX := ⟨xX, rfl⟩
    dsimp only [scansionlaw09_few.k1] at hr ht
    refine (w_nT ht ?_)
    refine w_seq ?_
    refine A_region ?_
    refine w_n ?_
    refine w_ret ?_
    obtain rfl := hD _ hr
    exact (A_endR (A_cut (os' := []) (sl := [(2, .cv (.val (.bool (decide (n ≤ (1200 : Int))))))]) hwf) ⟨rfl, on_nil hwf⟩)
  · refine w_block ?_
    refine w_Loop (fun xX : (Int × Int) => ⟨[(0, .cv (.val (.sl (List.map (eL eRange) l)))), (3, .cv (.val (.int .i64 xX.1))), (4, .cv (.val (.int .i64 xX.2)))], h.on []⟩) hr (A_cut hwf) (fun W1 xX hr => ?_)
    obtain ⟨n1, i⟩ := xX
    dsimp only [scansionlaw09_few.b1] at hr
    refine w_seq ?_
    refine w_seq ?_
    refine A_region ?_
    refine w_n ?_
    refine A_condH hr (fun cF1 hr => ?_) (fun cF1 hr => ?_)
    · refine w_skip ?_
      refine w_n ?_
      refine w_seq ?_
      refine w_block ?_
      refine w_seq ?_
      obtain ⟨v, vF6, hr⟩ := hr.bind
      refine w_joinR (sj := ⟨[(0, .cv (.val (.sl (List.map (eL eRange) l)))), (3, .cv (.val (.int .i64 n1))), (4, .cv (.val (.int .i64 i))), (20, .cv (.val (.bool v)))], h.on []⟩) (A_ops ?_) ?_
      · have hr := Holds.intro (D := fun z => z = v) vF6 rfl
        refine A_upto 3 ?_
        rcases hr.ite with ⟨cF2, hr⟩ | ⟨cF2, hr⟩
        · refine A_ops_end ?_
          obtain rfl : _ = v := hr
          exact w_k (A_cut hwf)
        · obtain ⟨xs, nF3, eF4, gF5, hr⟩ := hr.idx
          refine A_ops_end ?_
          obtain rfl : _ = v := hr
          exact w_k (A_cut hwf)
      refine A_condH hr (fun cF7 hr => ?_) (fun cF7 hr => ?_)
      · refine w_seq ?_
        refine A_region ?_
        refine w_n ?_
        refine w_ret ?_
        obtain rfl := hD _ hr
        exact (w_tr (w_br (w_tr (w_tr (w_br (w_tr (w_tr (A_endR (A_cut (os' := []) (sl := [(2, .cv (.val (.bool false)))]) hwf) ⟨rfl, on_nil hwf⟩))))))))
      · refine w_skip ?_
        refine w_n ?_
        obtain ⟨xs1, nF8, eF9, gF10, hr⟩ := hr.idx
        refine A_region ?_
        refine (w_bn (w_n ?_))
        refine A_region ?_
        exact (w_k ⟨((IntKind.i64.wrap (n1 + (xs1.length : Int))), (IntKind.i64.wrap (i + (1 : Int)))), hr, (A_cut hwf)⟩)
    · refine w_exit ?_
      exact (w_te (w_te (w_bx (w_k ⟨n1, (hr).map, (A_cut hwf)⟩))))
end Go.Val

/- part JW118 -/
/- scansion/scansionref02.rising runs as it is read off. -/
namespace Go.Val
set_option linter.unusedVariables false
set_option linter.unusedSimpArgs false
set_option maxRecDepth 20000
open Go.Proofs
theorem scansionref02_rising_runs (l : List Int) (n : Int) {h : Heap} {a : List Int} (e : scansionref02_rising l n = some a) :
    Runs CT 118 [.cv (.val (.sl (List.map eI l))), .cv (.val (.int .i64 n))] h fun o h' => o = [.cv (.val (.sl (List.map eI a)))] ∧ h' = h := by
  refine Runs.start Try.f118 _ Try.func118 rfl (by rw [Try.ntmps118]; simp) (by rfl) (by rfl) (fun hwf hu => ?_)
  obtain ⟨D, hD, hr⟩ : ∃ D : List Int → Prop, (∀ z, D z → z = a) ∧ Holds (scansionref02_rising l n) D := ⟨fun z => z = a, fun _ h => h, Holds.intro e rfl⟩
  dsimp only [scansionref02_rising] at hr
  change wpCode _ _ _ _ _ ⟨[(0, .cv (.val (.sl (List.map eI l)))), (1, .cv (.val (.int .i64 n)))], h.on []⟩
  refine w_seq ?_
  refine A_region ?_
  refine w_n ?_
  refine w_seq ?_
  refine A_region ?_
  refine w_n ?_
  refine w_seq ?_
  refine w_K (D := D) (fun xX : Int => ⟨[(0, .cv (.val (.sl (List.map eI l)))), (1, .cv (.val (.int .i64 n))), (5, .cv (.val (.int .i64 xX)))], h.on []⟩) (fun xX : Int => scansionref02_rising.k1 l n xX) (fun xX s' hr ht => ?_) ?_
  · obtain ⟨at_, rfl⟩ : ∃ z, z = xX := ⟨xX, rfl⟩
    dsimp only [scansionref02_rising.k1] at hr ht
    refine (w_nT ht ?_)
    refine w_seq ?_
    obtain ⟨v, vF5, hr⟩ := hr.bind
    refine w_joinR (sj := ⟨[(0, .cv (.val (.sl (List.map eI l)))), (1, .cv (.val (.int .i64 n))), (5, .cv (.val (.int .i64 at_))), (32, .cv (.val (.bool v)))], h.on []⟩) (A_ops ?_) ?_
    · have hr := Holds.intro (D := fun z => z = v) vF5 rfl
      refine A_upto 5 ?_
      rcases hr.ite with ⟨cF1, hr⟩ | ⟨cF1, hr⟩
      · obtain ⟨n1, nF2, eF3, gF4, hr⟩ := hr.idx
        refine A_ops_end ?_
        obtain rfl : _ = v := hr
        exact w_k (A_cut hwf)
      · refine A_ops_end ?_
        obtain rfl : _ = v := hr
        exact w_k (A_cut hwf)
    refine A_condH hr (fun cF6 hr => ?_) (fun cF6 hr => ?_)
    · refine w_seq ?_
      refine A_region ?_
      refine w_n ?_
      refine w_ret ?_
      obtain rfl := hD _ hr
      exact (w_tr (A_endR (A_cut (os' := []) (sl := [(4, .cv (.val (.sl (List.map eI l))))]) hwf) ⟨rfl, on_nil hwf⟩))
    · refine w_skip ?_
      refine w_n ?_
      refine w_seq ?_
      obtain ⟨nF7, nF8, hr⟩ := hr.cutH
      obtain ⟨nF9, hr⟩ := hr.room
      refine A_region ?_
      refine w_n ?_
      refine w_seq ?_
      obtain ⟨nF10, hr⟩ := hr.room
      refine A_region ?_
      refine w_n ?_
      refine w_seq ?_
      obtain ⟨nF11, nF12, hr⟩ := hr.cutL
      obtain ⟨nF13, hr⟩ := hr.room
      refine A_region ?_
      refine w_n ?_
      refine w_ret ?_
      obtain rfl := hD _ hr
      exact (A_endR (.fix _ _ (.slot 4) 3 _ (by simp (disch := (apply Apart.mk; decide)) only [go_sem, Nat.reduceAdd, Nat.reduceLT, Nat.reduceMul, Nat.reduceLeDiff, Int.reduceToNat, Int.reduceLT, Int.reduceLE, cF6]; rfl) (A_cut (os' := []) (sl := [(4, .cv (.val (.sl (List.map eI (((List.take (Int.toNat at_) l) ++ ([n])) ++ (List.drop (Int.toNat at_) l))))))]) hwf)) ⟨rfl, on_nil hwf⟩)
  · refine w_block ?_
    refine w_Loop (fun xX : Int => ⟨[(0, .cv (.val (.sl (List.map eI l)))), (1, .cv (.val (.int .i64 n))), (5, .cv (.val (.int .i64 xX)))], h.on []⟩) hr (A_cut hwf) (fun W1 xX hr => ?_)
    obtain ⟨at_1, rfl⟩ : ∃ z, z = xX := ⟨xX, rfl⟩
    dsimp only [scansionref02_rising.b1] at hr
    refine w_seq ?_
    obtain ⟨v1, vF18, hr⟩ := hr.bind
    refine w_joinR (sj := ⟨[(0, .cv (.val (.sl (List.map eI l)))), (1, .cv (.val (.int .i64 n))), (5, .cv (.val (.int .i64 at_1))), (18, .cv (.val (.bool v1)))], h.on []⟩) (A_ops ?_) ?_
    · have hr := Holds.intro (D := fun z => z = v1) vF18 rfl
      refine A_upto 5 ?_
      rcases hr.ite with ⟨cF14, hr⟩ | ⟨cF14, hr⟩
      · obtain ⟨n2, nF15, eF16, gF17, hr⟩ := hr.idx
        refine A_ops_end ?_
        obtain rfl : _ = v1 := hr
        exact w_k (A_cut hwf)
      · refine A_ops_end ?_
        obtain rfl : _ = v1 := hr
        exact w_k (A_cut hwf)
    refine A_condH hr (fun cF19 hr => ?_) (fun cF19 hr => ?_)
    · refine w_skip ?_
      refine w_n ?_
      refine w_block ?_
      refine A_region ?_
      exact (w_bn (w_k ⟨(IntKind.i64.wrap (at_1 + (1 : Int))), hr, (A_cut hwf)⟩))
    · refine w_exit ?_
      exact (w_te (w_te (w_bx (w_k ⟨at_1, (hr).map, (A_cut hwf)⟩))))
end Go.Val

/- part JW88 -/
/- scansion/scansionref02.edges runs as it is read off. -/
namespace Go.Val
set_option linter.unusedVariables false
set_option linter.unusedSimpArgs false
set_option maxRecDepth 20000
open Go.Proofs
theorem scansionref02_edges_runs (a_ : List TRange) (b : List TRange) {h : Heap} {a : List Int} (e : scansionref02_edges a_ b = some a) :
    Runs CT 88 [.cv (.val (.sl (List.map eRange a_))), .cv (.val (.sl (List.map eRange b)))] h fun o h' => o = [.cv (.val (.sl (List.map eI a)))] ∧ h' = h := by
  refine Runs.start Try.f88 _ Try.func88 rfl (by rw [Try.ntmps88]; simp) (by rfl) (by rfl) (fun hwf hu => ?_)
  obtain ⟨D, hD, hr⟩ : ∃ D : List Int → Prop, (∀ z, D z → z = a) ∧ Holds (scansionref02_edges a_ b) D := ⟨fun z => z = a, fun _ h => h, Holds.intro e rfl⟩
  dsimp only [scansionref02_edges] at hr
  change wpCode _ _ _ _ _ ⟨[(0, .cv (.val (.sl (List.map eRange a_)))), (1, .cv (.val (.sl (List.map eRange b))))], h.on []⟩
  refine w_seq ?_
  refine A_region ?_
  refine w_n ?_
  refine w_seq ?_
  refine A_region ?_
  refine w_n ?_
  refine w_seq ?_
  obtain ⟨nF1, hr⟩ := hr.room
  obtain ⟨nF2, hr⟩ := hr.room
  refine A_region ?_
  refine w_n ?_
  refine w_seq ?_
  refine w_seq ?_
  refine A_region ?_
  refine w_n ?_
  refine w_K (D := D) (fun xX : List Int => ⟨[(5, .cv (.val (.sl (List.map eI xX))))], h.on []⟩) (fun xX : List Int => scansionref02_edges.k1 xX) (fun xX s' hr ht => ?_) ?_
  · obtain ⟨out, rfl⟩ : ∃ z, z = xX := ⟨xX, rfl⟩
    dsimp only [scansionref02_edges.k1] at hr ht
    refine (w_nT ht ?_)
    refine w_seq ?_
    refine A_region ?_
    refine w_n ?_
    refine w_ret ?_
    obtain rfl := hD _ hr
    exact (A_endR (A_cut (os' := []) (sl := [(4, .cv (.val (.sl (List.map eI out))))]) hwf) ⟨rfl, on_nil hwf⟩)
  · refine w_block ?_
    refine w_Loop (fun xX : (List Int × Int) => ⟨[(5, .cv (.val (.sl (List.map eI xX.1)))), (6, .cv (.row 80 (List.map eRange (a_ ++ b)))), (7, .cv (.val (.int .i64 xX.2)))], h.on []⟩) hr (.fix _ _ (.slot 5) 3 _ (by simp (disch := (apply Apart.mk; decide)) only [go_sem, Nat.reduceAdd, Nat.reduceLT, Nat.reduceMul, Nat.reduceLeDiff, Int.reduceToNat, Int.reduceLT, Int.reduceLE]; rfl) (A_cut hwf)) (fun W1 xX hr => ?_)
    obtain ⟨out1, i⟩ := xX
    dsimp only [scansionref02_edges.b1] at hr
    refine w_seq ?_
    refine w_seq ?_
    refine A_region ?_
    refine w_n ?_
    refine A_condH hr (fun cF3 hr => ?_) (fun cF3 hr => ?_)
    · refine w_skip ?_
      refine w_n ?_
      refine w_seq ?_
      refine w_K (D := (Aft W1 D)) (fun xX : List Int => ⟨[(5, .cv (.val (.sl (List.map eI xX)))), (6, .cv (.row 80 (List.map eRange (a_ ++ b)))), (7, .cv (.val (.int .i64 i)))], h.on []⟩) (fun xX : List Int => scansionref02_edges.k2 i xX) (fun xX s' hr ht => ?_) ?_
      · obtain ⟨out2, rfl⟩ : ∃ z, z = xX := ⟨xX, rfl⟩
        dsimp only [scansionref02_edges.k2] at hr ht
        refine (w_nT ht ?_)
        refine A_region ?_
        exact (w_k ⟨(out2, (IntKind.i64.wrap (i + (1 : Int)))), hr, (A_cut hwf)⟩)
      · refine w_block ?_
        refine w_seq ?_
        refine A_ops ?_
        (obtain ⟨x, nF4, eF5, gF6, hr⟩ := hr.idx; replace eF5 := congrArg (Option.map eRange) eF5; rw [← List.getElem?_map, List.map_append] at eF5; simp only [Option.map_some, List.map_append, List.length_append, eRange] at nF4 eF5 gF6)
        refine A_upto 6 ?_
        obtain ⟨r, eF7, hr⟩ := hr.bind
        refine A_call (out := ?o_eF7) (hp := ?p_eF7) ?c_eF7 ?d_eF7 ?_
        case c_eF7 => exact scansionref02_rising_runs out1 x.Low eF7
        case d_eF7 => rfl
        refine A_ops_end ?_
        refine w_n ?_
        refine w_seq ?_
        refine A_region ?_
        refine w_n ?_
        refine A_condH hr (fun cF8 hr => ?_) (fun cF8 hr => ?_)
        · refine A_ops ?_
          refine A_upto 7 ?_
          obtain ⟨r1, eF9, hr⟩ := hr.bind
          refine A_call (out := ?o_eF9) (hp := ?p_eF9) ?c_eF9 ?d_eF9 ?_
          case c_eF9 => exact scansionref02_rising_runs r (IntKind.i64.wrap (x.High + (1 : Int))) eF9
          case d_eF9 => rfl
          refine A_ops_end ?_
          exact (w_bn (w_k ⟨r1, hr, (A_cut hwf)⟩))
        · refine w_skip ?_
          exact (w_bn (w_k ⟨r, hr, (A_cut hwf)⟩))
    · refine w_exit ?_
      exact (w_te (w_te (w_bx (w_k ⟨out1, (hr).map, (A_cut hwf)⟩))))
end Go.Val

/- part JW28 -/
/- scansion/scansionref02.Has runs as it is read off. -/
namespace Go.Val
set_option linter.unusedVariables false
set_option linter.unusedSimpArgs false
set_option maxRecDepth 20000
open Go.Proofs
theorem scansionref02_Has_runs (a_ : List TRange) (r : Int) {h : Heap} {a : Bool} (e : scansionref02_Has a_ r = some a) :
    Runs CT 28 [.cv (.val (.sl (List.map eRange a_))), .cv (.val (.int .i64 r))] h fun o h' => o = [.cv (.val (.bool a))] ∧ h' = h := by
  refine Runs.start Try.f28 _ Try.func28 rfl (by rw [Try.ntmps28]; simp) (by rfl) (by rfl) (fun hwf hu => ?_)
  obtain ⟨D, hD, hr⟩ : ∃ D : Bool → Prop, (∀ z, D z → z = a) ∧ Holds (scansionref02_Has a_ r) D := ⟨fun z => z = a, fun _ h => h, Holds.intro e rfl⟩
  dsimp only [scansionref02_Has] at hr
  change wpCode _ _ _ _ _ ⟨[(0, .cv (.val (.sl (List.map eRange a_)))), (1, .cv (.val (.int .i64 r)))], h.on []⟩
  refine w_seq ?_
  refine A_region ?_
  refine w_n ?_
  refine w_seq ?_
  refine w_seq ?_
  refine A_region ?_
  refine w_n ?_
  refine w_K (D := D) (fun xX : Unit => ⟨[], h.on []⟩) (fun xX : Unit => scansionref02_Has.k1) (fun xX s' hr ht => ?_) ?_
  · dsimp only [scansionref02_Has.k1] at hr ht
    refine (w_nT ht ?_)
    refine w_seq ?_
    refine A_region ?_
    refine w_n ?_
    refine w_ret ?_
    obtain rfl := hD _ hr
    exact (A_endR (A_cut (os' := []) (sl := [(4, .cv (.val (.bool false)))]) hwf) ⟨rfl, on_nil hwf⟩)
  · refine w_block ?_
    refine w_Loop (fun xX : Int => ⟨[(0, .cv (.val (.sl (List.map eRange a_)))), (1, .cv (.val (.int .i64 r))), (5, .cv (.val (.int .i64 xX)))], h.on []⟩) hr (A_cut hwf) (fun W1 xX hr => ?_)
    obtain ⟨i, rfl⟩ : ∃ z, z = xX := ⟨xX, rfl⟩
    dsimp only [scansionref02_Has.b1] at hr
    refine w_seq ?_
    refine w_seq ?_
    refine A_region ?_
    refine w_n ?_
    refine A_condH hr (fun cF1 hr => ?_) (fun cF1 hr => ?_)
    · refine w_skip ?_
      refine w_n ?_
      refine w_seq ?_
      refine w_block ?_
      obtain ⟨v, vF6, hr⟩ := hr.bind
      refine w_joinR (sj := ⟨[(0, .cv (.val (.sl (List.map eRange a_)))), (1, .cv (.val (.int .i64 r))), (5, .cv (.val (.int .i64 i))), (27, .cv (.val (.bool v)))], h.on []⟩) (A_ops ?_) ?_
      · have hr := Holds.intro (D := fun z => z = v) vF6 rfl
        obtain ⟨x, nF2, eF3, gF4, hr⟩ := hr.idx
        refine A_upto 8 ?_
        rcases hr.ite with ⟨cF5, hr⟩ | ⟨cF5, hr⟩
        · refine A_ops_end ?_
          obtain rfl : _ = v := hr
          exact w_k (A_cut hwf)
        · refine A_ops_end ?_
          obtain rfl : _ = v := hr
          exact w_k (A_cut hwf)
      refine A_condH hr (fun cF7 hr => ?_) (fun cF7 hr => ?_)
      · refine w_seq ?_
        refine A_region ?_
        refine w_n ?_
        refine w_ret ?_
        obtain rfl := hD _ hr
        exact (w_br (w_tr (w_tr (w_br (w_tr (w_tr (A_endR (A_cut (os' := []) (sl := [(4, .cv (.val (.bool true)))]) hwf) ⟨rfl, on_nil hwf⟩)))))))
      · refine w_skip ?_
        refine (w_bn (w_n ?_))
        refine A_region ?_
        exact (w_k ⟨(IntKind.i64.wrap (i + (1 : Int))), hr, (A_cut hwf)⟩)
    · refine w_exit ?_
      exact (w_te (w_te (w_bx (w_k ⟨(), (hr).map, (A_cut hwf)⟩))))
end Go.Val

/- part JW89 -/
/- scansion/scansionref02.with runs as it is read off. -/
namespace Go.Val
set_option linter.unusedVariables false
set_option linter.unusedSimpArgs false
set_option maxRecDepth 20000
open Go.Proofs
theorem scansionref02_with_runs (l : List TRange) (low : Int) (high : Int) {h : Heap} {a : List TRange} (e : scansionref02_with l low high = some a) :
    Runs CT 89 [.cv (.row 80 (List.map eRange l)), .cv (.val (.int .i64 low)), .cv (.val (.int .i64 high))] h fun o h' => o = [.cv (.row 80 (List.map eRange a))] ∧ h' = h := by
  refine Runs.start Try.f89 _ Try.func89 rfl (by rw [Try.ntmps89]; simp) (by rfl) (by rfl) (fun hwf hu => ?_)
  obtain ⟨D, hD, hr⟩ : ∃ D : List TRange → Prop, (∀ z, D z → z = a) ∧ Holds (scansionref02_with l low high) D := ⟨fun z => z = a, fun _ h => h, Holds.intro e rfl⟩
  dsimp only [scansionref02_with] at hr
  change wpCode _ _ _ _ _ ⟨[(0, .cv (.row 80 (List.map eRange l))), (1, .cv (.val (.int .i64 low))), (2, .cv (.val (.int .i64 high)))], h.on []⟩
  refine w_seq ?_
  refine A_region ?_
  refine w_n ?_
  refine w_seq ?_
  refine A_region ?_
  refine w_n ?_
  refine w_seq ?_
  obtain ⟨v, vF5, hr⟩ := hr.bind
  refine w_joinR (sj := ⟨[(0, .cv (.row 80 (List.map eRange l))), (1, .cv (.val (.int .i64 low))), (2, .cv (.val (.int .i64 high))), (7, .cv (.val (.int .i64 (l.length : Int)))), (22, .cv (.val (.bool v)))], h.on []⟩) (A_ops ?_) ?_
  · have hr := Holds.intro (D := fun z => z = v) vF5 rfl
    refine A_upto 3 ?_
    rcases hr.ite with ⟨cF1, hr⟩ | ⟨cF1, hr⟩
    · obtain ⟨x, nF2, eF3, gF4, hr⟩ := hr.idx
      refine A_ops_end ?_
      obtain rfl : _ = v := hr
      exact w_k (A_cut hwf)
    · refine A_ops_end ?_
      obtain rfl : _ = v := hr
      exact w_k (A_cut hwf)
  refine A_condH hr (fun cF6 hr => ?_) (fun cF6 hr => ?_)
  · refine w_seq ?_
    obtain ⟨x1, nF7, eF8, gF9, hr⟩ := hr.idx
    refine A_region ?_
    refine w_n ?_
    refine w_seq ?_
    refine A_region ?_
    refine w_n ?_
    refine w_ret ?_
    obtain rfl := hD _ hr
    exact (w_tr (A_endR (A_cut (os' := []) (sl := [(6, .cv (.row 80 (List.map eRange (List.set l (Int.toNat (IntKind.i64.wrap ((l.length : Int) - (1 : Int)))) (TRange.mk x1.Low high)))))]) hwf) ⟨rfl, on_nil hwf⟩))
  · refine w_skip ?_
    refine w_n ?_
    refine w_seq ?_
    obtain ⟨nF10, hr⟩ := hr.room
    refine A_region ?_
    refine w_n ?_
    refine w_ret ?_
    obtain rfl := hD _ hr
    exact (A_endR (A_cut (os' := []) (sl := [(6, .cv (.row 80 (List.map eRange (l ++ ([(TRange.mk low high)])))))]) hwf) ⟨rfl, on_nil hwf⟩)
end Go.Val

/- part JW59 -/
/- scansion/scansionref02.pick runs as it is read off. -/
namespace Go.Val
set_option linter.unusedVariables false
set_option linter.unusedSimpArgs false
set_option maxRecDepth 20000
open Go.Proofs
theorem scansionref02_pick_runs (a_ : List TRange) (b : List TRange) (kind : Int) {h : Heap} {a : List TRange} (e : scansionref02_pick a_ b kind = some a) :
    Runs CT 59 [.cv (.val (.sl (List.map eRange a_))), .cv (.val (.sl (List.map eRange b))), .cv (.val (.int .i64 kind))] h fun o h' => o = [.cv (.val (.sl (List.map eRange a)))] ∧ h' = h := by
  refine Runs.start Try.f59 _ Try.func59 rfl (by rw [Try.ntmps59]; simp) (by rfl) (by rfl) (fun hwf hu => ?_)
  obtain ⟨D, hD, hr⟩ : ∃ D : List TRange → Prop, (∀ z, D z → z = a) ∧ Holds (scansionref02_pick a_ b kind) D := ⟨fun z => z = a, fun _ h => h, Holds.intro e rfl⟩
  dsimp only [scansionref02_pick] at hr
  change wpCode _ _ _ _ _ ⟨[(0, .cv (.val (.sl (List.map eRange a_)))), (1, .cv (.val (.sl (List.map eRange b)))), (2, .cv (.val (.int .i64 kind)))], h.on []⟩
  refine w_seq ?_
  refine A_region ?_
  refine w_n ?_
  refine w_seq ?_
  refine A_ops ?_
  refine A_upto 2 ?_
  obtain ⟨r, eF1, hr⟩ := hr.bind
  refine A_call (out := ?o_eF1) (hp := ?p_eF1) ?c_eF1 ?d_eF1 ?_
  case c_eF1 => exact scansionref02_edges_runs a_ b eF1
  case d_eF1 => rfl
  refine A_ops_end ?_
  refine w_n ?_
  refine w_seq ?_
  refine A_region ?_
  refine w_n ?_
  refine w_seq ?_
  refine w_seq ?_
  refine A_region ?_
  refine w_n ?_
  refine w_K (D := D) (fun xX : List TRange => ⟨[(8, .cv (.row 80 (List.map eRange xX)))], h.on []⟩) (fun xX : List TRange => scansionref02_pick.k1 xX) (fun xX s' hr ht => ?_) ?_
  · obtain ⟨out, rfl⟩ : ∃ z, z = xX := ⟨xX, rfl⟩
    dsimp only [scansionref02_pick.k1] at hr ht
    refine (w_nT ht ?_)
    refine w_seq ?_
    refine A_region ?_
    refine w_n ?_
    refine w_ret ?_
    obtain rfl := hD _ hr
    exact (A_endR (.fix _ _ (.slot 6) 80 _ (by simp (disch := (apply Apart.mk; decide)) only [go_sem, Nat.reduceAdd, Nat.reduceLT, Nat.reduceMul, Nat.reduceLeDiff, Int.reduceToNat, Int.reduceLT, Int.reduceLE]; rfl) (A_cut (os' := []) (sl := [(6, .cv (.val (.sl (List.map eRange out))))]) hwf)) ⟨rfl, on_nil hwf⟩)
  · refine w_block ?_
    refine w_Loop (fun xX : (List TRange × Int) => ⟨[(0, .cv (.val (.sl (List.map eRange a_)))), (1, .cv (.val (.sl (List.map eRange b)))), (2, .cv (.val (.int .i64 kind))), (7, .cv (.val (.sl (List.map eI r)))), (8, .cv (.row 80 (List.map eRange xX.1))), (9, .cv (.val (.int .i64 xX.2)))], h.on []⟩) hr (A_cut hwf) (fun W1 xX hr => ?_)
    obtain ⟨out1, i⟩ := xX
    dsimp only [scansionref02_pick.b1] at hr
    refine w_seq ?_
    refine w_seq ?_
    refine A_region ?_
    refine w_n ?_
    refine A_condH hr (fun cF2 hr => ?_) (fun cF2 hr => ?_)
    · refine w_skip ?_
      refine w_n ?_
      refine w_seq ?_
      refine w_K (D := (Aft W1 D)) (fun xX : List TRange => ⟨[(0, .cv (.val (.sl (List.map eRange a_)))), (1, .cv (.val (.sl (List.map eRange b)))), (2, .cv (.val (.int .i64 kind))), (7, .cv (.val (.sl (List.map eI r)))), (8, .cv (.row 80 (List.map eRange xX))), (9, .cv (.val (.int .i64 i)))], h.on []⟩) (fun xX : List TRange => scansionref02_pick.k2 i xX) (fun xX s' hr ht => ?_) ?_
      · obtain ⟨out2, rfl⟩ : ∃ z, z = xX := ⟨xX, rfl⟩
        dsimp only [scansionref02_pick.k2] at hr ht
        refine (w_nT ht ?_)
        refine A_region ?_
        exact (w_k ⟨(out2, (IntKind.i64.wrap (i + (1 : Int)))), hr, (A_cut hwf)⟩)
      · refine w_block ?_
        refine w_seq ?_
        refine A_region ?_
        refine w_n ?_
        refine w_seq ?_
        refine w_seq ?_
        refine A_region ?_
        refine w_n ?_
        refine w_K (D := (Aft W1 D)) (fun xX : Int => ⟨[(0, .cv (.val (.sl (List.map eRange a_)))), (1, .cv (.val (.sl (List.map eRange b)))), (2, .cv (.val (.int .i64 kind))), (7, .cv (.val (.sl (List.map eI r)))), (8, .cv (.row 80 (List.map eRange out1))), (9, .cv (.val (.int .i64 i))), (10, .cv (.val (.int .i64 xX)))], h.on []⟩) (fun xX : Int => scansionref02_pick.k3 a_ b kind r out1 i xX) (fun xX s' hr ht => ?_) ?_
        · obtain ⟨high, rfl⟩ : ∃ z, z = xX := ⟨xX, rfl⟩
          dsimp only [scansionref02_pick.k3] at hr ht
          refine (w_nT ht ?_)
          refine w_seq ?_
          refine A_ops ?_
          obtain ⟨n, nF3, eF4, gF5, hr⟩ := hr.idx
          refine A_upto 5 ?_
          obtain ⟨r1, eF6, hr⟩ := hr.bind
          refine A_call (out := ?o_eF6) (hp := ?p_eF6) ?c_eF6 ?d_eF6 ?_
          case c_eF6 => exact scansionref02_Has_runs a_ n eF6
          case d_eF6 => rfl
          refine A_ops_end ?_
          refine w_n ?_
          refine w_seq ?_
          refine A_ops ?_
          refine A_upto 5 ?_
          obtain ⟨r2, eF7, hr⟩ := hr.bind
          refine A_call (out := ?o_eF7) (hp := ?p_eF7) ?c_eF7 ?d_eF7 ?_
          case c_eF7 => exact scansionref02_Has_runs b n eF7
          case d_eF7 => rfl
          refine A_ops_end ?_
          refine w_n ?_
          refine w_joinR (sj := ⟨[(0, .cv (.val (.sl (List.map eRange a_)))), (1, .cv (.val (.sl (List.map eRange b)))), (2, .cv (.val (.int .i64 kind))), (7, .cv (.val (.sl (List.map eI r)))), (8, .cv (.row 80 (List.map eRange out1))), (9, .cv (.val (.int .i64 i))), (10, .cv (.val (.int .i64 high))), (11, .cv (.val (.bool r1))), (12, .cv (.val (.bool r2))), (13, .cv (.val (.bool (r1 || r2))))], h.on []⟩) (A_ops ?_) ?_
          · refine A_upto 2 ?_
            rcases Bool.eq_false_or_eq_true r1 with cF8 | cF8
            · refine A_ops_end ?_
              exact w_k (A_cut hwf)
            · refine A_ops_end ?_
              exact w_k (A_cut hwf)
          refine w_seq ?_
          refine w_seq ?_
          refine A_region ?_
          refine w_n ?_
          refine w_K (D := (Aft W1 D)) (fun xX : Bool => ⟨[(0, .cv (.val (.sl (List.map eRange a_)))), (1, .cv (.val (.sl (List.map eRange b)))), (2, .cv (.val (.int .i64 kind))), (7, .cv (.val (.sl (List.map eI r)))), (8, .cv (.row 80 (List.map eRange out1))), (9, .cv (.val (.int .i64 i))), (10, .cv (.val (.int .i64 high))), (13, .cv (.val (.bool xX)))], h.on []⟩) (fun xX : Bool => scansionref02_pick.k4 out1 i high n xX) (fun xX s' hr ht => ?_) ?_
          · obtain ⟨is1, rfl⟩ : ∃ z, z = xX := ⟨xX, rfl⟩
            dsimp only [scansionref02_pick.k4] at hr ht
            refine (w_nT ht ?_)
            refine w_seq ?_
            refine A_region ?_
            refine w_n ?_
            refine A_condH hr (fun cF9 hr => ?_) (fun cF9 hr => ?_)
            · refine A_ops ?_
              refine A_upto 6 ?_
              obtain ⟨r3, eF10, hr⟩ := hr.bind
              refine A_call (out := ?o_eF10) (hp := ?p_eF10) ?c_eF10 ?d_eF10 ?_
              case c_eF10 => exact scansionref02_with_runs out1 n high eF10
              case d_eF10 => rfl
              refine A_ops_end ?_
              exact (w_bn (w_k ⟨r3, hr, (A_cut hwf)⟩))
            · refine w_skip ?_
              exact (w_bn (w_k ⟨out1, hr, (A_cut hwf)⟩))
          · refine w_block ?_
            refine w_seq ?_
            refine A_region ?_
            refine w_n ?_
            refine A_condH hr (fun cF11 hr => ?_) (fun cF11 hr => ?_)
            · refine A_ops ?_
              refine A_upto 2 ?_
              rcases hr.ite with ⟨cF12, hr⟩ | ⟨cF12, hr⟩
              · refine A_ops_end ?_
                exact (w_bn (w_k ⟨r2, hr, (A_cut hwf)⟩))
              · refine A_ops_end ?_
                exact (w_bn (w_k ⟨false, hr, (A_cut hwf)⟩))
            · refine w_seq ?_
              refine A_region ?_
              refine w_n ?_
              refine A_condH hr (fun cF13 hr => ?_) (fun cF13 hr => ?_)
              · refine A_ops ?_
                refine A_upto 2 ?_
                rcases hr.ite with ⟨cF14, hr⟩ | ⟨cF14, hr⟩
                · refine A_ops_end ?_
                  exact (w_bn (w_k ⟨(!r2), hr, (A_cut hwf)⟩))
                · refine A_ops_end ?_
                  exact (w_bn (w_k ⟨false, hr, (A_cut hwf)⟩))
              · refine w_seq ?_
                refine A_region ?_
                refine w_n ?_
                refine A_condH hr (fun cF15 hr => ?_) (fun cF15 hr => ?_)
                · refine A_ops ?_
                  refine A_upto 3 ?_
                  rcases hr.ite with ⟨cF16, hr⟩ | ⟨cF16, hr⟩
                  · refine A_ops_end ?_
                    exact (w_bn (w_k ⟨(!r2), hr, (A_cut hwf)⟩))
                  · refine A_ops_end ?_
                    exact (w_bn (w_k ⟨false, hr, (A_cut hwf)⟩))
                · refine w_skip ?_
                  exact (w_bn (w_k ⟨(r1 || r2), hr, (A_cut hwf)⟩))
        · refine A_condH hr (fun cF17 hr => ?_) (fun cF17 hr => ?_)
          · obtain ⟨n1, nF18, eF19, gF20, hr⟩ := hr.idx
            refine A_region ?_
            exact (w_k ⟨(IntKind.i64.wrap (n1 - (1 : Int))), hr, (A_cut hwf)⟩)
          · refine w_skip ?_
            exact (w_k ⟨(1114111 : Int), hr, (A_cut hwf)⟩)
    · refine w_exit ?_
      exact (w_te (w_te (w_bx (w_k ⟨out1, (hr).map, (A_cut hwf)⟩))))
end Go.Val

/- part JW21 -/
/- scansion/scansionref02.Make runs as it is read off. -/
namespace Go.Val
set_option linter.unusedVariables false
set_option linter.unusedSimpArgs false
set_option maxRecDepth 20000
open Go.Proofs
theorem scansionref02_Make_runs (l : List TRange) {h : Heap} {a : (List TRange × Int)} (e : scansionref02_Make l = some a) :
    Runs CT 21 [.cv (.val (.sl (List.map eRange l)))] h fun o h' => o = [.cv (.val (.sl (List.map eRange a.1))), .cv (.val (.int .i64 a.2))] ∧ h' = h := by
  refine Runs.start Try.f21 _ Try.func21 rfl (by rw [Try.ntmps21]; simp) (by rfl) (by rfl) (fun hwf hu => ?_)
  obtain ⟨D, hD, hr⟩ : ∃ D : (List TRange × Int) → Prop, (∀ z, D z → z = a) ∧ Holds (scansionref02_Make l) D := ⟨fun z => z = a, fun _ h => h, Holds.intro e rfl⟩
  dsimp only [scansionref02_Make] at hr
  change wpCode _ _ _ _ _ ⟨[(0, .cv (.val (.sl (List.map eRange l))))], h.on []⟩
  refine w_seq ?_
  refine A_region ?_
  refine w_n ?_
  refine w_seq ?_
  refine w_seq ?_
  refine A_region ?_
  refine w_n ?_
  refine w_K (D := D) (fun xX : Unit => ⟨[(0, .cv (.val (.sl (List.map eRange l))))], h.on []⟩) (fun xX : Unit => scansionref02_Make.k1 l) (fun xX s' hr ht => ?_) ?_
  · dsimp only [scansionref02_Make.k1] at hr ht
    refine (w_nT ht ?_)
    refine w_seq ?_
    refine A_ops ?_
    refine A_upto 1 ?_
    obtain ⟨r, eF1, hr⟩ := hr.bind
    refine A_call (out := ?o_eF1) (hp := ?p_eF1) ?c_eF1 ?d_eF1 ?_
    case c_eF1 => exact scansionref02_pick_runs l [] (0 : Int) eF1
    case d_eF1 => rfl
    refine A_ops_end ?_
    refine w_n ?_
    refine w_ret ?_
    obtain rfl := hD _ hr
    exact (A_endR (A_cut (os' := []) (sl := [(2, .cv (.val (.sl (List.map eRange r)))), (3, .cv (.val (.int .i64 (0 : Int))))]) hwf) ⟨rfl, on_nil hwf⟩)
  · refine w_block ?_
    refine w_Loop (fun xX : Int => ⟨[(0, .cv (.val (.sl (List.map eRange l)))), (4, .cv (.val (.int .i64 xX)))], h.on []⟩) hr (A_cut hwf) (fun W1 xX hr => ?_)
    obtain ⟨i, rfl⟩ : ∃ z, z = xX := ⟨xX, rfl⟩
    dsimp only [scansionref02_Make.b1] at hr
    refine w_seq ?_
    refine w_seq ?_
    refine A_region ?_
    refine w_n ?_
    refine A_condH hr (fun cF2 hr => ?_) (fun cF2 hr => ?_)
    · refine w_skip ?_
      refine w_n ?_
      refine w_seq ?_
      refine w_block ?_
      obtain ⟨v, vF8, hr⟩ := hr.bind
      refine w_joinR (sj := ⟨[(0, .cv (.val (.sl (List.map eRange l)))), (4, .cv (.val (.int .i64 i))), (37, .cv (.val (.bool v)))], h.on []⟩) (w_drawn [0, 1, 2, 3, 4, 5, 6, 7, 8, 9, 10, 11, 12, 13, 14, 15, 16, 17, 18, 19, 20, 21, 22, 23, 24, 25, 26] (by rfl) ?_) ?_
      · have hr := Holds.intro (D := fun z => z = v) vF8 rfl
        obtain ⟨x, nF3, eF4, gF5, hr⟩ := hr.idx
        refine p_run (l := [0, 1, 2, 3, 4, 5, 6]) (pend' := [6, 5, 4, 3, 2, 1, 0]) (by simp (disch := (apply Apart.mk; decide)) only [go_sem, Nat.reduceAdd, Nat.reduceLT, Nat.reduceMul, Nat.reduceLeDiff, Int.reduceToNat, Int.reduceLT, Int.reduceLE, nF3, eF4, gF5]; rfl) rfl ?_
        rcases hr.ite with ⟨cF6, hr⟩ | ⟨cF6, hr⟩
        · refine p_run (l := [7, 8, 9, 10, 11, 12, 13, 14, 15, 16, 17, 18, 19, 20, 21, 22, 23, 24, 25, 26]) (pend' := [26, 25, 24, 23, 22, 21, 20, 19, 18, 17, 16, 15, 14, 13, 12, 11, 10, 9, 8, 7, 6, 5, 4, 3, 2, 1, 0]) (by simp (disch := (apply Apart.mk; decide)) only [go_sem, Nat.reduceAdd, Nat.reduceLT, Nat.reduceMul, Nat.reduceLeDiff, Int.reduceToNat, Int.reduceLT, Int.reduceLE, nF3, eF4, gF5, cF6]; rfl) rfl ?_
          refine p_end (by simp (disch := (apply Apart.mk; decide)) only [go_sem, Nat.reduceAdd, Nat.reduceLT, Nat.reduceMul, Nat.reduceLeDiff, Int.reduceToNat, Int.reduceLT, Int.reduceLE, nF3, eF4, gF5, cF6]) ?_
          obtain rfl : _ = v := hr
          exact w_k (A_cut hwf)
        · refine p_run (l := [7, 8, 9, 10, 11, 12, 13, 14]) (pend' := [14, 13, 12, 11, 10, 9, 8, 7, 6, 5, 4, 3, 2, 1, 0]) (by simp (disch := (apply Apart.mk; decide)) only [go_sem, Nat.reduceAdd, Nat.reduceLT, Nat.reduceMul, Nat.reduceLeDiff, Int.reduceToNat, Int.reduceLT, Int.reduceLE, nF3, eF4, gF5, cF6]; rfl) rfl ?_
          rcases hr.ite with ⟨cF7, hr⟩ | ⟨cF7, hr⟩
          · refine p_run (l := [15, 16, 17, 18, 19, 20, 21, 22, 23, 24, 25, 26]) (pend' := [26, 25, 24, 23, 22, 21, 20, 19, 18, 17, 16, 15, 14, 13, 12, 11, 10, 9, 8, 7, 6, 5, 4, 3, 2, 1, 0]) (by simp (disch := (apply Apart.mk; decide)) only [go_sem, Nat.reduceAdd, Nat.reduceLT, Nat.reduceMul, Nat.reduceLeDiff, Int.reduceToNat, Int.reduceLT, Int.reduceLE, nF3, eF4, gF5, cF6, cF7]; rfl) rfl ?_
            refine p_end (by simp (disch := (apply Apart.mk; decide)) only [go_sem, Nat.reduceAdd, Nat.reduceLT, Nat.reduceMul, Nat.reduceLeDiff, Int.reduceToNat, Int.reduceLT, Int.reduceLE, nF3, eF4, gF5, cF6, nF3, eF4, gF5, cF7]) ?_
            obtain rfl : _ = v := hr
            exact w_k (A_cut hwf)
          · refine p_run (l := [15, 16, 17, 18, 19, 20, 21, 22, 23, 24, 25, 26]) (pend' := [26, 25, 24, 23, 22, 21, 20, 19, 18, 17, 16, 15, 14, 13, 12, 11, 10, 9, 8, 7, 6, 5, 4, 3, 2, 1, 0]) (by simp (disch := (apply Apart.mk; decide)) only [go_sem, Nat.reduceAdd, Nat.reduceLT, Nat.reduceMul, Nat.reduceLeDiff, Int.reduceToNat, Int.reduceLT, Int.reduceLE, nF3, eF4, gF5, cF6, cF7]; rfl) rfl ?_
            refine p_end (by simp (disch := (apply Apart.mk; decide)) only [go_sem, Nat.reduceAdd, Nat.reduceLT, Nat.reduceMul, Nat.reduceLeDiff, Int.reduceToNat, Int.reduceLT, Int.reduceLE, nF3, eF4, gF5, cF6, nF3, eF4, gF5, cF7, nF3, eF4, gF5, nF3, eF4, gF5]) ?_
            obtain rfl : _ = v := hr
            exact w_k (A_cut hwf)
      refine A_condH hr (fun cF9 hr => ?_) (fun cF9 hr => ?_)
      · refine w_seq ?_
        refine A_region ?_
        refine w_n ?_
        refine w_ret ?_
        obtain rfl := hD _ hr
        exact (w_br (w_tr (w_tr (w_br (w_tr (w_tr (A_endR (A_cut (os' := []) (sl := [(2, .cv (.val (.sl (List.map eRange ([] : List TRange))))), (3, .cv (.val (.int .i64 (1 : Int))))]) hwf) ⟨rfl, on_nil hwf⟩)))))))
      · refine w_skip ?_
        refine (w_bn (w_n ?_))
        refine A_region ?_
        exact (w_k ⟨(IntKind.i64.wrap (i + (1 : Int))), hr, (A_cut hwf)⟩)
    · refine w_exit ?_
      exact (w_te (w_te (w_bx (w_k ⟨(), (hr).map, (A_cut hwf)⟩))))
end Go.Val

/- part JW26 -/
/- scansion/scansionlaw09.sets runs as it is read off. -/
namespace Go.Val
set_option linter.unusedVariables false
set_option linter.unusedSimpArgs false
set_option maxRecDepth 20000
open Go.Proofs
theorem scansionlaw09_sets_runs (l : List (List TRange)) {h : Heap} {a : List (List TRange)} (e : scansionlaw09_sets l = some a) :
    Runs CT 26 [.cv (.val (.sl (List.map (eL eRange) l)))] h fun o h' => o = [.cv (.val (.sl (List.map (eL eRange) a)))] ∧ h' = h := by
  refine Runs.start Try.f26 _ Try.func26 rfl (by rw [Try.ntmps26]; simp) (by rfl) (by rfl) (fun hwf hu => ?_)
  obtain ⟨D, hD, hr⟩ : ∃ D : List (List TRange) → Prop, (∀ z, D z → z = a) ∧ Holds (scansionlaw09_sets l) D := ⟨fun z => z = a, fun _ h => h, Holds.intro e rfl⟩
  dsimp only [scansionlaw09_sets] at hr
  change wpCode _ _ _ _ _ ⟨[(0, .cv (.val (.sl (List.map (eL eRange) l))))], h.on []⟩
  refine w_seq ?_
  refine A_region ?_
  refine w_n ?_
  refine w_seq ?_
  refine A_region ?_
  refine w_n ?_
  refine w_seq ?_
  refine w_seq ?_
  refine A_region ?_
  refine w_n ?_
  refine w_K (D := D) (fun xX : List (List TRange) => ⟨[(3, .cv (.row 31 (List.map (eL eRange) xX)))], h.on []⟩) (fun xX : List (List TRange) => scansionlaw09_sets.k1 xX) (fun xX s' hr ht => ?_) ?_
  · obtain ⟨out, rfl⟩ : ∃ z, z = xX := ⟨xX, rfl⟩
    dsimp only [scansionlaw09_sets.k1] at hr ht
    refine (w_nT ht ?_)
    refine w_seq ?_
    refine A_region ?_
    refine w_n ?_
    refine w_ret ?_
    obtain rfl := hD _ hr
    exact (A_endR (.fix _ _ (.slot 2) 31 _ (by simp (disch := (apply Apart.mk; decide)) only [go_sem, Nat.reduceAdd, Nat.reduceLT, Nat.reduceMul, Nat.reduceLeDiff, Int.reduceToNat, Int.reduceLT, Int.reduceLE]; rfl) (A_cut (os' := []) (sl := [(2, .cv (.val (.sl (List.map (eL eRange) out))))]) hwf)) ⟨rfl, on_nil hwf⟩)
  · refine w_block ?_
    refine w_Loop (fun xX : (List (List TRange) × Int) => ⟨[(0, .cv (.val (.sl (List.map (eL eRange) l)))), (3, .cv (.row 31 (List.map (eL eRange) xX.1))), (4, .cv (.val (.int .i64 xX.2)))], h.on []⟩) hr (A_cut hwf) (fun W1 xX hr => ?_)
    obtain ⟨out1, i⟩ := xX
    dsimp only [scansionlaw09_sets.b1] at hr
    refine w_seq ?_
    refine w_seq ?_
    refine A_region ?_
    refine w_n ?_
    refine A_condH hr (fun cF1 hr => ?_) (fun cF1 hr => ?_)
    · refine w_skip ?_
      refine w_n ?_
      refine w_seq ?_
      refine w_block ?_
      refine w_seq ?_
      refine A_ops ?_
      obtain ⟨xs, nF2, eF3, gF4, hr⟩ := hr.idx
      refine A_upto 4 ?_
      obtain ⟨r, eF5, hr⟩ := hr.bind
      refine A_call (out := ?o_eF5) (hp := ?p_eF5) ?c_eF5 ?d_eF5 ?_
      case c_eF5 => exact scansionref02_Make_runs xs eF5
      case d_eF5 => rfl
      refine A_ops_end ?_
      refine w_n ?_
      obtain ⟨nF6, hr⟩ := hr.room
      refine A_region ?_
      refine (w_bn (w_n ?_))
      refine A_region ?_
      exact (w_k ⟨((out1 ++ ([r.1])), (IntKind.i64.wrap (i + (1 : Int)))), hr, (A_cut hwf)⟩)
    · refine w_exit ?_
      exact (w_te (w_te (w_bx (w_k ⟨out1, (hr).map, (A_cut hwf)⟩))))
end Go.Val

/- part JW18 -/
/- scansion/scansionref02.Same runs as it is read off. -/
namespace Go.Val
set_option linter.unusedVariables false
set_option linter.unusedSimpArgs false
set_option maxRecDepth 20000
open Go.Proofs
theorem scansionref02_Same_runs (a_ : List TRange) (b : List TRange) {h : Heap} {a : Bool} (e : scansionref02_Same a_ b = some a) :
    Runs CT 18 [.cv (.val (.sl (List.map eRange a_))), .cv (.val (.sl (List.map eRange b)))] h fun o h' => o = [.cv (.val (.bool a))] ∧ h' = h := by
  refine Runs.start Try.f18 _ Try.func18 rfl (by rw [Try.ntmps18]; simp) (by rfl) (by rfl) (fun hwf hu => ?_)
  obtain ⟨D, hD, hr⟩ : ∃ D : Bool → Prop, (∀ z, D z → z = a) ∧ Holds (scansionref02_Same a_ b) D := ⟨fun z => z = a, fun _ h => h, Holds.intro e rfl⟩
  dsimp only [scansionref02_Same] at hr
  change wpCode _ _ _ _ _ ⟨[(0, .cv (.val (.sl (List.map eRange a_)))), (1, .cv (.val (.sl (List.map eRange b))))], h.on []⟩
  refine w_seq ?_
  refine A_region ?_
  refine w_n ?_
  refine w_seq ?_
  refine w_seq ?_
  refine A_region ?_
  refine w_n ?_
  refine A_condH hr (fun cF1 hr => ?_) (fun cF1 hr => ?_)
  · refine w_seq ?_
    refine A_region ?_
    refine w_n ?_
    refine w_ret ?_
    obtain rfl := hD _ hr
    exact (w_tr (A_endR (A_cut (os' := []) (sl := [(4, .cv (.val (.bool false)))]) hwf) ⟨rfl, on_nil hwf⟩))
  · refine w_skip ?_
    refine w_n ?_
    refine w_seq ?_
    refine w_seq ?_
    refine A_region ?_
    refine w_n ?_
    refine w_K (D := D) (fun xX : Unit => ⟨[], h.on []⟩) (fun xX : Unit => scansionref02_Same.k1) (fun xX s' hr ht => ?_) ?_
    · dsimp only [scansionref02_Same.k1] at hr ht
      refine (w_nT ht ?_)
      refine w_seq ?_
      refine A_region ?_
      refine w_n ?_
      refine w_ret ?_
      obtain rfl := hD _ hr
      exact (A_endR (A_cut (os' := []) (sl := [(4, .cv (.val (.bool true)))]) hwf) ⟨rfl, on_nil hwf⟩)
    · refine w_block ?_
      refine w_Loop (fun xX : Int => ⟨[(0, .cv (.val (.sl (List.map eRange a_)))), (1, .cv (.val (.sl (List.map eRange b)))), (5, .cv (.val (.int .i64 xX)))], h.on []⟩) hr (A_cut hwf) (fun W1 xX hr => ?_)
      obtain ⟨i, rfl⟩ : ∃ z, z = xX := ⟨xX, rfl⟩
      dsimp only [scansionref02_Same.b1] at hr
      refine w_seq ?_
      refine w_seq ?_
      refine A_region ?_
      refine w_n ?_
      refine A_condH hr (fun cF2 hr => ?_) (fun cF2 hr => ?_)
      · refine w_skip ?_
        refine w_n ?_
        refine w_seq ?_
        refine w_block ?_
        refine w_seq ?_
        refine w_drawn [0, 1, 2, 3, 4, 5, 6, 7, 8] (by rfl) ?_
        obtain ⟨x, nF3, eF4, gF5, hr⟩ := hr.idx
        obtain ⟨x1, nF6, eF7, gF8, hr⟩ := hr.idx
        refine p_run (l := [0, 1, 2, 3, 4, 5, 6, 7, 8]) (pend' := [8, 7, 6, 5, 4, 3, 2, 1, 0]) (by simp (disch := (apply Apart.mk; decide)) only [go_sem, Nat.reduceAdd, Nat.reduceLT, Nat.reduceMul, Nat.reduceLeDiff, Int.reduceToNat, Int.reduceLT, Int.reduceLE, nF3, eF4, gF5, nF6, eF7, gF8]; rfl) rfl ?_
        refine p_end (by simp (disch := (apply Apart.mk; decide)) only [go_sem, Nat.reduceAdd, Nat.reduceLT, Nat.reduceMul, Nat.reduceLeDiff, Int.reduceToNat, Int.reduceLT, Int.reduceLE, nF3, eF4, gF5, nF6, eF7, gF8]) ?_
        refine w_n ?_
        refine A_condH hr (fun cF9 hr => ?_) (fun cF9 hr => ?_)
        · refine w_seq ?_
          refine A_region ?_
          refine w_n ?_
          refine w_ret ?_
          obtain rfl := hD _ hr
          exact (w_br (w_tr (w_tr (w_br (w_tr (w_tr (A_endR (A_cut (os' := []) (sl := [(4, .cv (.val (.bool false)))]) hwf) ⟨rfl, on_nil hwf⟩)))))))
        · refine w_skip ?_
          refine (w_bn (w_n ?_))
          refine A_region ?_
          exact (w_k ⟨(IntKind.i64.wrap (i + (1 : Int))), hr, (A_cut hwf)⟩)
      · refine w_exit ?_
        exact (w_te (w_te (w_bx (w_k ⟨(), (hr).map, (A_cut hwf)⟩))))
end Go.Val

/- part JW104 -/
/- scansion/scansionref09.rising runs as it is read off. -/
namespace Go.Val
set_option linter.unusedVariables false
set_option linter.unusedSimpArgs false
set_option maxRecDepth 20000
open Go.Proofs
theorem scansionref09_rising_runs (l : List Int) (n : Int) {h : Heap} {a : List Int} (e : scansionref09_rising l n = some a) :
    Runs CT 104 [.cv (.val (.sl (List.map eI l))), .cv (.val (.int .i64 n))] h fun o h' => o = [.cv (.val (.sl (List.map eI a)))] ∧ h' = h := by
  refine Runs.start Try.f104 _ Try.func104 rfl (by rw [Try.ntmps104]; simp) (by rfl) (by rfl) (fun hwf hu => ?_)
  obtain ⟨D, hD, hr⟩ : ∃ D : List Int → Prop, (∀ z, D z → z = a) ∧ Holds (scansionref09_rising l n) D := ⟨fun z => z = a, fun _ h => h, Holds.intro e rfl⟩
  dsimp only [scansionref09_rising] at hr
  change wpCode _ _ _ _ _ ⟨[(0, .cv (.val (.sl (List.map eI l)))), (1, .cv (.val (.int .i64 n)))], h.on []⟩
  refine w_seq ?_
  refine A_region ?_
  refine w_n ?_
  refine w_seq ?_
  refine A_region ?_
  refine w_n ?_
  refine w_seq ?_
  refine w_K (D := D) (fun xX : Int => ⟨[(0, .cv (.val (.sl (List.map eI l)))), (1, .cv (.val (.int .i64 n))), (5, .cv (.val (.int .i64 xX)))], h.on []⟩) (fun xX : Int => scansionref09_rising.k1 l n xX) (fun xX s' hr ht => ?_) ?_
  · obtain ⟨at_, rfl⟩ : ∃ z, z = xX := ⟨xX, rfl⟩
    dsimp only [scansionref09_rising.k1] at hr ht
    refine (w_nT ht ?_)
    refine w_seq ?_
    obtain ⟨v, vF5, hr⟩ := hr.bind
    refine w_joinR (sj := ⟨[(0, .cv (.val (.sl (List.map eI l)))), (1, .cv (.val (.int .i64 n))), (5, .cv (.val (.int .i64 at_))), (32, .cv (.val (.bool v)))], h.on []⟩) (A_ops ?_) ?_
    · have hr := Holds.intro (D := fun z => z = v) vF5 rfl
      refine A_upto 5 ?_
      rcases hr.ite with ⟨cF1, hr⟩ | ⟨cF1, hr⟩
      · obtain ⟨n1, nF2, eF3, gF4, hr⟩ := hr.idx
        refine A_ops_end ?_
        obtain rfl : _ = v := hr
        exact w_k (A_cut hwf)
      · refine A_ops_end ?_
        obtain rfl : _ = v := hr
        exact w_k (A_cut hwf)
    refine A_condH hr (fun cF6 hr => ?_) (fun cF6 hr => ?_)
    · refine w_seq ?_
      refine A_region ?_
      refine w_n ?_
      refine w_ret ?_
      obtain rfl := hD _ hr
      exact (w_tr (A_endR (A_cut (os' := []) (sl := [(4, .cv (.val (.sl (List.map eI l))))]) hwf) ⟨rfl, on_nil hwf⟩))
    · refine w_skip ?_
      refine w_n ?_
      refine w_seq ?_
      obtain ⟨nF7, nF8, hr⟩ := hr.cutH
      obtain ⟨nF9, hr⟩ := hr.room
      refine A_region ?_
      refine w_n ?_
      refine w_seq ?_
      obtain ⟨nF10, hr⟩ := hr.room
      refine A_region ?_
      refine w_n ?_
      refine w_seq ?_
      obtain ⟨nF11, nF12, hr⟩ := hr.cutL
      obtain ⟨nF13, hr⟩ := hr.room
      refine A_region ?_
      refine w_n ?_
      refine w_ret ?_
      obtain rfl := hD _ hr
      exact (A_endR (.fix _ _ (.slot 4) 3 _ (by simp (disch := (apply Apart.mk; decide)) only [go_sem, Nat.reduceAdd, Nat.reduceLT, Nat.reduceMul, Nat.reduceLeDiff, Int.reduceToNat, Int.reduceLT, Int.reduceLE, cF6]; rfl) (A_cut (os' := []) (sl := [(4, .cv (.val (.sl (List.map eI (((List.take (Int.toNat at_) l) ++ ([n])) ++ (List.drop (Int.toNat at_) l))))))]) hwf)) ⟨rfl, on_nil hwf⟩)
  · refine w_block ?_
    refine w_Loop (fun xX : Int => ⟨[(0, .cv (.val (.sl (List.map eI l)))), (1, .cv (.val (.int .i64 n))), (5, .cv (.val (.int .i64 xX)))], h.on []⟩) hr (A_cut hwf) (fun W1 xX hr => ?_)
    obtain ⟨at_1, rfl⟩ : ∃ z, z = xX := ⟨xX, rfl⟩
    dsimp only [scansionref09_rising.b1] at hr
    refine w_seq ?_
    obtain ⟨v1, vF18, hr⟩ := hr.bind
    refine w_joinR (sj := ⟨[(0, .cv (.val (.sl (List.map eI l)))), (1, .cv (.val (.int .i64 n))), (5, .cv (.val (.int .i64 at_1))), (18, .cv (.val (.bool v1)))], h.on []⟩) (A_ops ?_) ?_
    · have hr := Holds.intro (D := fun z => z = v1) vF18 rfl
      refine A_upto 5 ?_
      rcases hr.ite with ⟨cF14, hr⟩ | ⟨cF14, hr⟩
      · obtain ⟨n2, nF15, eF16, gF17, hr⟩ := hr.idx
        refine A_ops_end ?_
        obtain rfl : _ = v1 := hr
        exact w_k (A_cut hwf)
      · refine A_ops_end ?_
        obtain rfl : _ = v1 := hr
        exact w_k (A_cut hwf)
    refine A_condH hr (fun cF19 hr => ?_) (fun cF19 hr => ?_)
    · refine w_skip ?_
      refine w_n ?_
      refine w_block ?_
      refine A_region ?_
      exact (w_bn (w_k ⟨(IntKind.i64.wrap (at_1 + (1 : Int))), hr, (A_cut hwf)⟩))
    · refine w_exit ?_
      exact (w_te (w_te (w_bx (w_k ⟨at_1, (hr).map, (A_cut hwf)⟩))))
end Go.Val

/- part JW71 -/
/- scansion/scansionref09.edges runs as it is read off. -/
namespace Go.Val
set_option linter.unusedVariables false
set_option linter.unusedSimpArgs false
set_option maxRecDepth 20000
open Go.Proofs
theorem scansionref09_edges_runs (sets : List (List TRange)) {h : Heap} {a : List Int} (e : scansionref09_edges sets = some a) :
    Runs CT 71 [.cv (.val (.sl (List.map (eL eRange) sets)))] h fun o h' => o = [.cv (.val (.sl (List.map eI a)))] ∧ h' = h := by
  refine Runs.start Try.f71 _ Try.func71 rfl (by rw [Try.ntmps71]; simp) (by rfl) (by rfl) (fun hwf hu => ?_)
  obtain ⟨D, hD, hr⟩ : ∃ D : List Int → Prop, (∀ z, D z → z = a) ∧ Holds (scansionref09_edges sets) D := ⟨fun z => z = a, fun _ h => h, Holds.intro e rfl⟩
  dsimp only [scansionref09_edges] at hr
  change wpCode _ _ _ _ _ ⟨[(0, .cv (.val (.sl (List.map (eL eRange) sets))))], h.on []⟩
  refine w_seq ?_
  refine A_region ?_
  refine w_n ?_
  refine w_seq ?_
  refine A_region ?_
  refine w_n ?_
  refine w_seq ?_
  refine w_seq ?_
  refine A_region ?_
  refine w_n ?_
  refine w_K (D := D) (fun xX : List Int => ⟨[(3, .cv (.val (.sl (List.map eI xX))))], h.on []⟩) (fun xX : List Int => scansionref09_edges.k1 xX) (fun xX s' hr ht => ?_) ?_
  · obtain ⟨out, rfl⟩ : ∃ z, z = xX := ⟨xX, rfl⟩
    dsimp only [scansionref09_edges.k1] at hr ht
    refine (w_nT ht ?_)
    refine w_seq ?_
    refine A_region ?_
    refine w_n ?_
    refine w_ret ?_
    obtain rfl := hD _ hr
    exact (A_endR (A_cut (os' := []) (sl := [(2, .cv (.val (.sl (List.map eI out))))]) hwf) ⟨rfl, on_nil hwf⟩)
  · refine w_block ?_
    refine w_Loop (fun xX : (List Int × Int) => ⟨[(0, .cv (.val (.sl (List.map (eL eRange) sets)))), (3, .cv (.val (.sl (List.map eI xX.1)))), (4, .cv (.val (.int .i64 xX.2)))], h.on []⟩) hr (.fix _ _ (.slot 3) 3 _ (by simp (disch := (apply Apart.mk; decide)) only [go_sem, Nat.reduceAdd, Nat.reduceLT, Nat.reduceMul, Nat.reduceLeDiff, Int.reduceToNat, Int.reduceLT, Int.reduceLE]; rfl) (A_cut hwf)) (fun W1 xX hr => ?_)
    obtain ⟨out1, i⟩ := xX
    dsimp only [scansionref09_edges.b1] at hr
    refine w_seq ?_
    refine w_seq ?_
    refine A_region ?_
    refine w_n ?_
    refine A_condH hr (fun cF1 hr => ?_) (fun cF1 hr => ?_)
    · refine w_skip ?_
      refine w_n ?_
      refine w_seq ?_
      refine w_K (D := (Aft W1 D)) (fun xX : List Int => ⟨[(0, .cv (.val (.sl (List.map (eL eRange) sets)))), (3, .cv (.val (.sl (List.map eI xX)))), (4, .cv (.val (.int .i64 i)))], h.on []⟩) (fun xX : List Int => scansionref09_edges.k2 i xX) (fun xX s' hr ht => ?_) ?_
      · obtain ⟨out2, rfl⟩ : ∃ z, z = xX := ⟨xX, rfl⟩
        dsimp only [scansionref09_edges.k2] at hr ht
        refine (w_nT ht ?_)
        refine A_region ?_
        exact (w_k ⟨(out2, (IntKind.i64.wrap (i + (1 : Int)))), hr, (A_cut hwf)⟩)
      · refine w_block ?_
        refine w_seq ?_
        refine A_region ?_
        refine w_n ?_
        refine w_block ?_
        refine w_Loop (fun xX : (List Int × Int) => ⟨[(0, .cv (.val (.sl (List.map (eL eRange) sets)))), (3, .cv (.val (.sl (List.map eI xX.1)))), (4, .cv (.val (.int .i64 i))), (5, .cv (.val (.int .i64 xX.2)))], h.on []⟩) hr (A_cut hwf) (fun W2 xX hr => ?_)
        obtain ⟨out3, k⟩ := xX
        dsimp only [scansionref09_edges.b2] at hr
        refine w_seq ?_
        refine w_seq ?_
        obtain ⟨xs, nF2, eF3, gF4, hr⟩ := hr.idx
        refine A_region ?_
        refine w_n ?_
        refine A_condH hr (fun cF5 hr => ?_) (fun cF5 hr => ?_)
        · refine w_skip ?_
          refine w_n ?_
          refine w_seq ?_
          refine w_K (D := (Aft W2 (Aft W1 D))) (fun xX : List Int => ⟨[(0, .cv (.val (.sl (List.map (eL eRange) sets)))), (3, .cv (.val (.sl (List.map eI xX)))), (4, .cv (.val (.int .i64 i))), (5, .cv (.val (.int .i64 k)))], h.on []⟩) (fun xX : List Int => scansionref09_edges.k3 k xX) (fun xX s' hr ht => ?_) ?_
          · obtain ⟨out4, rfl⟩ : ∃ z, z = xX := ⟨xX, rfl⟩
            dsimp only [scansionref09_edges.k3] at hr ht
            refine (w_nT ht ?_)
            refine A_region ?_
            exact (w_k ⟨(out4, (IntKind.i64.wrap (k + (1 : Int)))), hr, (A_cut hwf)⟩)
          · refine w_block ?_
            refine w_seq ?_
            refine A_ops ?_
            obtain ⟨x, nF6, eF7, gF8, hr⟩ := hr.idx
            refine A_upto 9 ?_
            obtain ⟨r, eF9, hr⟩ := hr.bind
            refine A_call (out := ?o_eF9) (hp := ?p_eF9) ?c_eF9 ?d_eF9 ?_
            case c_eF9 => exact scansionref09_rising_runs out3 x.Low eF9
            case d_eF9 => rfl
            refine A_ops_end ?_
            refine w_n ?_
            refine w_seq ?_
            refine A_region ?_
            refine w_n ?_
            refine A_condH hr (fun cF10 hr => ?_) (fun cF10 hr => ?_)
            · refine A_ops ?_
              refine A_upto 10 ?_
              obtain ⟨r1, eF11, hr⟩ := hr.bind
              refine A_call (out := ?o_eF11) (hp := ?p_eF11) ?c_eF11 ?d_eF11 ?_
              case c_eF11 => exact scansionref09_rising_runs r (IntKind.i64.wrap (x.High + (1 : Int))) eF11
              case d_eF11 => rfl
              refine A_ops_end ?_
              exact (w_bn (w_k ⟨r1, hr, (A_cut hwf)⟩))
            · refine w_skip ?_
              exact (w_bn (w_k ⟨r, hr, (A_cut hwf)⟩))
        · refine w_exit ?_
          exact (w_te (w_te (w_bx (w_bn (w_k ⟨out3, (hr).map, (A_cut hwf)⟩)))))
    · refine w_exit ?_
      exact (w_te (w_te (w_bx (w_k ⟨out1, (hr).map, (A_cut hwf)⟩))))
end Go.Val

/- part JW72 -/
/- scansion/scansionref09.mask runs as it is read off. -/
namespace Go.Val
set_option linter.unusedVariables false
set_option linter.unusedSimpArgs false
set_option maxRecDepth 20000
open Go.Proofs
theorem scansionref09_mask_runs (sets : List (List TRange)) (r : Int) {h : Heap} {a : Int} (e : scansionref09_mask sets r = some a) :
    Runs CT 72 [.cv (.val (.sl (List.map (eL eRange) sets))), .cv (.val (.int .i64 r))] h fun o h' => o = [.cv (.val (.int .u64 a))] ∧ h' = h := by
  refine Runs.start Try.f72 _ Try.func72 rfl (by rw [Try.ntmps72]; simp) (by rfl) (by rfl) (fun hwf hu => ?_)
  obtain ⟨D, hD, hr⟩ : ∃ D : Int → Prop, (∀ z, D z → z = a) ∧ Holds (scansionref09_mask sets r) D := ⟨fun z => z = a, fun _ h => h, Holds.intro e rfl⟩
  dsimp only [scansionref09_mask] at hr
  change wpCode _ _ _ _ _ ⟨[(0, .cv (.val (.sl (List.map (eL eRange) sets)))), (1, .cv (.val (.int .i64 r)))], h.on []⟩
  refine w_seq ?_
  refine A_region ?_
  refine w_n ?_
  refine w_seq ?_
  refine A_region ?_
  refine w_n ?_
  refine w_seq ?_
  refine w_seq ?_
  refine A_region ?_
  refine w_n ?_
  refine w_K (D := D) (fun xX : Int => ⟨[(5, .cv (.val (.int .u64 xX)))], h.on []⟩) (fun xX : Int => scansionref09_mask.k1 xX) (fun xX s' hr ht => ?_) ?_
  · obtain ⟨m, rfl⟩ : ∃ z, z = xX := ⟨xX, rfl⟩
    dsimp only [scansionref09_mask.k1] at hr ht
    refine (w_nT ht ?_)
    refine w_seq ?_
    refine A_region ?_
    refine w_n ?_
    refine w_ret ?_
    obtain rfl := hD _ hr
    exact (A_endR (A_cut (os' := []) (sl := [(4, .cv (.val (.int .u64 m)))]) hwf) ⟨rfl, on_nil hwf⟩)
  · refine w_block ?_
    refine w_Loop (fun xX : (Int × Int) => ⟨[(0, .cv (.val (.sl (List.map (eL eRange) sets)))), (1, .cv (.val (.int .i64 r))), (5, .cv (.val (.int .u64 xX.1))), (6, .cv (.val (.int .i64 xX.2)))], h.on []⟩) hr (A_cut hwf) (fun W1 xX hr => ?_)
    obtain ⟨m1, i⟩ := xX
    dsimp only [scansionref09_mask.b1] at hr
    refine w_seq ?_
    refine w_seq ?_
    refine A_region ?_
    refine w_n ?_
    refine A_condH hr (fun cF1 hr => ?_) (fun cF1 hr => ?_)
    · refine w_skip ?_
      refine w_n ?_
      refine w_seq ?_
      refine w_K (D := (Aft W1 D)) (fun xX : Int => ⟨[(0, .cv (.val (.sl (List.map (eL eRange) sets)))), (1, .cv (.val (.int .i64 r))), (5, .cv (.val (.int .u64 xX))), (6, .cv (.val (.int .i64 i)))], h.on []⟩) (fun xX : Int => scansionref09_mask.k2 i xX) (fun xX s' hr ht => ?_) ?_
      · obtain ⟨m2, rfl⟩ : ∃ z, z = xX := ⟨xX, rfl⟩
        dsimp only [scansionref09_mask.k2] at hr ht
        refine (w_nT ht ?_)
        refine A_region ?_
        exact (w_k ⟨(m2, (IntKind.i64.wrap (i + (1 : Int)))), hr, (A_cut hwf)⟩)
      · refine w_block ?_
        refine w_seq ?_
        refine A_ops ?_
        obtain ⟨xs, nF2, eF3, gF4, hr⟩ := hr.idx
        refine A_upto 5 ?_
        obtain ⟨r1, eF5, hr⟩ := hr.bind
        refine A_call (out := ?o_eF5) (hp := ?p_eF5) ?c_eF5 ?d_eF5 ?_
        case c_eF5 => exact scansionref02_Has_runs xs r eF5
        case d_eF5 => rfl
        refine A_ops_end ?_
        refine w_n ?_
        refine w_seq ?_
        refine A_region ?_
        refine w_n ?_
        refine A_condH hr (fun cF6 hr => ?_) (fun cF6 hr => ?_)
        · obtain ⟨nF7, nF8, hr⟩ := hr.nat
          refine A_region ?_
          exact (w_bn (w_k ⟨(bOr .u64 m1 (shL .u64 (1 : Int) (IntKind.u64.wrap i))), hr, (A_cut hwf)⟩))
        · refine w_skip ?_
          exact (w_bn (w_k ⟨m1, hr, (A_cut hwf)⟩))
    · refine w_exit ?_
      exact (w_te (w_te (w_bx (w_k ⟨m1, (hr).map, (A_cut hwf)⟩))))
end Go.Val

/- part JW73 -/
/- (*scansion/scansionref09.Alphabet).find runs as it is read off. -/
namespace Go.Val
set_option linter.unusedVariables false
set_option linter.unusedSimpArgs false
set_option maxRecDepth 20000
open Go.Proofs
theorem scansionref09_Alphabet_find_runsR (a_ : Tscansionref09_Alphabet) (m : Int) (l0 : Nat) {h : Heap} (ha0 : h.at_ l0 = some (.cells [.val (.sl (List.map (eL eRange) a_.Sets)), .row 49 (List.map (eK .u64) a_.M), .row 3 (List.map eI a_.First)])) {a : Int} (e : scansionref09_Alphabet_find a_ m = some a) :
    Runs CT 73 [.cv (.val (.ptr (some (l0, 0)))), .cv (.val (.int .u64 m))] h fun o h' => o = [.cv (.val (.int .i64 a))] ∧ h' = h := by
  refine Runs.start Try.f73 _ Try.func73 rfl (by rw [Try.ntmps73]; simp) (by rfl) (by rfl) (fun hwf hu => ?_)
  have hl0 := (hwf _ _ ha0).1
  have kl0 := locF hl0
  obtain ⟨D, hD, hr⟩ : ∃ D : Int → Prop, (∀ z, D z → z = a) ∧ Holds (scansionref09_Alphabet_find a_ m) D := ⟨fun z => z = a, fun _ h => h, Holds.intro e rfl⟩
  dsimp only [scansionref09_Alphabet_find] at hr
  change wpCode _ _ _ _ _ ⟨[(0, .cv (.val (.ptr (some (l0, 0))))), (1, .cv (.val (.int .u64 m)))], h.on []⟩
  refine w_seq ?_
  refine A_region ?_
  refine w_n ?_
  refine w_seq ?_
  refine w_seq ?_
  refine A_region ?_
  refine w_n ?_
  refine w_K (D := D) (fun xX : Unit => ⟨[], h.on []⟩) (fun xX : Unit => scansionref09_Alphabet_find.k1) (fun xX s' hr ht => ?_) ?_
  · dsimp only [scansionref09_Alphabet_find.k1] at hr ht
    refine (w_nT ht ?_)
    refine w_seq ?_
    refine A_region ?_
    refine w_n ?_
    refine w_ret ?_
    obtain rfl := hD _ hr
    exact (A_endR (A_cut (os' := []) (sl := [(4, .cv (.val (.int .i64 (-1 : Int))))]) hwf) ⟨rfl, on_nil hwf⟩)
  · refine w_block ?_
    refine w_Loop (fun xX : Int => ⟨[(0, .cv (.val (.ptr (some (l0, 0))))), (1, .cv (.val (.int .u64 m))), (5, .cv (.val (.int .i64 xX)))], h.on []⟩) hr (A_cut hwf) (fun W1 xX hr => ?_)
    obtain ⟨i, rfl⟩ : ∃ z, z = xX := ⟨xX, rfl⟩
    dsimp only [scansionref09_Alphabet_find.b1] at hr
    refine w_seq ?_
    refine w_seq ?_
    refine A_region ?_
    refine w_n ?_
    refine A_condH hr (fun cF1 hr => ?_) (fun cF1 hr => ?_)
    · refine w_skip ?_
      refine w_n ?_
      refine w_seq ?_
      refine w_block ?_
      refine w_seq ?_
      obtain ⟨n, nF2, eF3, gF4, hr⟩ := hr.idx
      refine A_region ?_
      refine w_n ?_
      refine A_condH hr (fun cF5 hr => ?_) (fun cF5 hr => ?_)
      · refine w_seq ?_
        refine A_region ?_
        refine w_n ?_
        refine w_ret ?_
        obtain rfl := hD _ hr
        exact (w_br (w_tr (w_tr (w_br (w_tr (w_tr (A_endR (A_cut (os' := []) (sl := [(4, .cv (.val (.int .i64 i)))]) hwf) ⟨rfl, on_nil hwf⟩)))))))
      · refine w_skip ?_
        refine (w_bn (w_n ?_))
        refine A_region ?_
        exact (w_k ⟨(IntKind.i64.wrap (i + (1 : Int))), hr, (A_cut hwf)⟩)
    · refine w_exit ?_
      exact (w_te (w_te (w_bx (w_k ⟨(), (hr).map, (A_cut hwf)⟩))))
end Go.Val

/- part JW105 -/
/- scansion/scansionref03.touched runs as it is read off. -/
namespace Go.Val
set_option linter.unusedVariables false
set_option linter.unusedSimpArgs false
set_option maxRecDepth 20000
open Go.Proofs
theorem scansionref03_touched_runs (l : List TProp) (k : Int) {h : Heap} {a : List TProp} (e : scansionref03_touched l k = some a) :
    Runs CT 105 [.cv (.val (.sl (List.map eProp l))), .cv (.val (.int .i64 k))] h fun o h' => o = [.cv (.val (.sl (List.map eProp a)))] ∧ h' = h := by
  refine Runs.start Try.f105 _ Try.func105 rfl (by rw [Try.ntmps105]; simp) (by rfl) (by rfl) (fun hwf hu => ?_)
  obtain ⟨D, hD, hr⟩ : ∃ D : List TProp → Prop, (∀ z, D z → z = a) ∧ Holds (scansionref03_touched l k) D := ⟨fun z => z = a, fun _ h => h, Holds.intro e rfl⟩
  dsimp only [scansionref03_touched] at hr
  change wpCode _ _ _ _ _ ⟨[(0, .cv (.val (.sl (List.map eProp l)))), (1, .cv (.val (.int .i64 k)))], h.on []⟩
  refine w_seq ?_
  refine A_region ?_
  refine w_n ?_
  refine w_seq ?_
  refine A_region ?_
  refine w_n ?_
  refine w_seq ?_
  refine w_seq ?_
  refine A_region ?_
  refine w_n ?_
  refine w_K (D := D) (fun xX : List TProp => ⟨[(5, .cv (.row 102 (List.map eProp xX)))], h.on []⟩) (fun xX : List TProp => scansionref03_touched.k1 xX) (fun xX s' hr ht => ?_) ?_
  · obtain ⟨out, rfl⟩ : ∃ z, z = xX := ⟨xX, rfl⟩
    dsimp only [scansionref03_touched.k1] at hr ht
    refine (w_nT ht ?_)
    refine w_seq ?_
    refine A_region ?_
    refine w_n ?_
    refine w_ret ?_
    obtain rfl := hD _ hr
    exact (A_endR (.fix _ _ (.slot 4) 102 _ (by simp (disch := (apply Apart.mk; decide)) only [go_sem, Nat.reduceAdd, Nat.reduceLT, Nat.reduceMul, Nat.reduceLeDiff, Int.reduceToNat, Int.reduceLT, Int.reduceLE]; rfl) (A_cut (os' := []) (sl := [(4, .cv (.val (.sl (List.map eProp out))))]) hwf)) ⟨rfl, on_nil hwf⟩)
  · refine w_block ?_
    refine w_Loop (fun xX : (List TProp × Int) => ⟨[(0, .cv (.val (.sl (List.map eProp l)))), (1, .cv (.val (.int .i64 k))), (5, .cv (.row 102 (List.map eProp xX.1))), (6, .cv (.val (.int .i64 xX.2)))], h.on []⟩) hr (A_cut hwf) (fun W1 xX hr => ?_)
    obtain ⟨out1, i⟩ := xX
    dsimp only [scansionref03_touched.b1] at hr
    refine w_seq ?_
    refine w_seq ?_
    refine A_region ?_
    refine w_n ?_
    refine A_condH hr (fun cF1 hr => ?_) (fun cF1 hr => ?_)
    · refine w_skip ?_
      refine w_n ?_
      refine w_seq ?_
      refine w_K (D := (Aft W1 D)) (fun xX : List TProp => ⟨[(0, .cv (.val (.sl (List.map eProp l)))), (1, .cv (.val (.int .i64 k))), (5, .cv (.row 102 (List.map eProp xX))), (6, .cv (.val (.int .i64 i)))], h.on []⟩) (fun xX : List TProp => scansionref03_touched.k2 i xX) (fun xX s' hr ht => ?_) ?_
      · obtain ⟨out2, rfl⟩ : ∃ z, z = xX := ⟨xX, rfl⟩
        dsimp only [scansionref03_touched.k2] at hr ht
        refine (w_nT ht ?_)
        refine A_region ?_
        exact (w_k ⟨(out2, (IntKind.i64.wrap (i + (1 : Int)))), hr, (A_cut hwf)⟩)
      · refine w_block ?_
        obtain ⟨v, vF6, hr⟩ := hr.bind
        refine w_joinR (sj := ⟨[(0, .cv (.val (.sl (List.map eProp l)))), (1, .cv (.val (.int .i64 k))), (5, .cv (.row 102 (List.map eProp out1))), (6, .cv (.val (.int .i64 i))), (31, .cv (.val (.bool v)))], h.on []⟩) (A_ops ?_) ?_
        · have hr := Holds.intro (D := fun z => z = v) vF6 rfl
          obtain ⟨x, nF2, eF3, gF4, hr⟩ := hr.idx
          refine A_upto 9 ?_
          rcases hr.ite with ⟨cF5, hr⟩ | ⟨cF5, hr⟩
          · refine A_ops_end ?_
            obtain rfl : _ = v := hr
            exact w_k (A_cut hwf)
          · refine A_ops_end ?_
            obtain rfl : _ = v := hr
            exact w_k (A_cut hwf)
        refine A_condH hr (fun cF7 hr => ?_) (fun cF7 hr => ?_)
        · obtain ⟨x1, nF8, eF9, gF10, hr⟩ := hr.idx
          obtain ⟨nF11, hr⟩ := hr.room
          refine A_region ?_
          exact (w_bn (w_k ⟨(out1 ++ ([x1])), hr, (A_cut hwf)⟩))
        · refine w_skip ?_
          exact (w_bn (w_k ⟨out1, hr, (A_cut hwf)⟩))
    · refine w_exit ?_
      exact (w_te (w_te (w_bx (w_k ⟨out1, (hr).map, (A_cut hwf)⟩))))
end Go.Val

/- part JW106 -/
/- scansion/scansionref03.value runs as it is read off. -/
namespace Go.Val
set_option linter.unusedVariables false
set_option linter.unusedSimpArgs false
set_option maxRecDepth 20000
open Go.Proofs
theorem scansionref03_value_runs (l : List TProp) (r : Int) {h : Heap} {a : UInt8} (e : scansionref03_value l r = some a) :
    Runs CT 106 [.cv (.val (.sl (List.map eProp l))), .cv (.val (.int .i64 r))] h fun o h' => o = [.cv (.val (.int .u8 (a.toNat : Int)))] ∧ h' = h := by
  refine Runs.start Try.f106 _ Try.func106 rfl (by rw [Try.ntmps106]; simp) (by rfl) (by rfl) (fun hwf hu => ?_)
  obtain ⟨D, hD, hr⟩ : ∃ D : UInt8 → Prop, (∀ z, D z → z = a) ∧ Holds (scansionref03_value l r) D := ⟨fun z => z = a, fun _ h => h, Holds.intro e rfl⟩
  dsimp only [scansionref03_value] at hr
  change wpCode _ _ _ _ _ ⟨[(0, .cv (.val (.sl (List.map eProp l)))), (1, .cv (.val (.int .i64 r)))], h.on []⟩
  refine w_seq ?_
  refine A_region ?_
  refine w_n ?_
  refine w_seq ?_
  refine A_region ?_
  refine w_n ?_
  refine w_seq ?_
  refine w_seq ?_
  refine A_region ?_
  refine w_n ?_
  refine w_K (D := D) (fun xX : UInt8 => ⟨[(5, .cv (.val (.int .u8 (xX.toNat : Int))))], h.on []⟩) (fun xX : UInt8 => scansionref03_value.k1 xX) (fun xX s' hr ht => ?_) ?_
  · obtain ⟨v, rfl⟩ : ∃ z, z = xX := ⟨xX, rfl⟩
    dsimp only [scansionref03_value.k1] at hr ht
    refine (w_nT ht ?_)
    refine w_seq ?_
    refine A_region ?_
    refine w_n ?_
    refine w_ret ?_
    obtain rfl := hD _ hr
    exact (A_endR (A_cut (os' := []) (sl := [(4, .cv (.val (.int .u8 (v.toNat : Int))))]) hwf) ⟨rfl, on_nil hwf⟩)
  · refine w_block ?_
    refine w_Loop (fun xX : (UInt8 × Int) => ⟨[(0, .cv (.val (.sl (List.map eProp l)))), (1, .cv (.val (.int .i64 r))), (5, .cv (.val (.int .u8 (xX.1.toNat : Int)))), (6, .cv (.val (.int .i64 xX.2)))], h.on []⟩) hr (A_cut hwf) (fun W1 xX hr => ?_)
    obtain ⟨v1, i⟩ := xX
    dsimp only [scansionref03_value.b1] at hr
    refine w_seq ?_
    refine w_seq ?_
    refine A_region ?_
    refine w_n ?_
    refine A_condH hr (fun cF1 hr => ?_) (fun cF1 hr => ?_)
    · refine w_skip ?_
      refine w_n ?_
      refine w_seq ?_
      refine w_K (D := (Aft W1 D)) (fun xX : UInt8 => ⟨[(0, .cv (.val (.sl (List.map eProp l)))), (1, .cv (.val (.int .i64 r))), (5, .cv (.val (.int .u8 (xX.toNat : Int)))), (6, .cv (.val (.int .i64 i)))], h.on []⟩) (fun xX : UInt8 => scansionref03_value.k2 i xX) (fun xX s' hr ht => ?_) ?_
      · obtain ⟨v2, rfl⟩ : ∃ z, z = xX := ⟨xX, rfl⟩
        dsimp only [scansionref03_value.k2] at hr ht
        refine (w_nT ht ?_)
        refine A_region ?_
        exact (w_k ⟨(v2, (IntKind.i64.wrap (i + (1 : Int)))), hr, (A_cut hwf)⟩)
      · refine w_block ?_
        obtain ⟨v3, vF6, hr⟩ := hr.bind
        refine w_joinR (sj := ⟨[(0, .cv (.val (.sl (List.map eProp l)))), (1, .cv (.val (.int .i64 r))), (5, .cv (.val (.int .u8 (v1.toNat : Int)))), (6, .cv (.val (.int .i64 i))), (28, .cv (.val (.bool v3)))], h.on []⟩) (A_ops ?_) ?_
        · have hr := Holds.intro (D := fun z => z = v3) vF6 rfl
          obtain ⟨x, nF2, eF3, gF4, hr⟩ := hr.idx
          refine A_upto 8 ?_
          rcases hr.ite with ⟨cF5, hr⟩ | ⟨cF5, hr⟩
          · refine A_ops_end ?_
            obtain rfl : _ = v3 := hr
            exact w_k (A_cut hwf)
          · refine A_ops_end ?_
            obtain rfl : _ = v3 := hr
            exact w_k (A_cut hwf)
        refine A_condH hr (fun cF7 hr => ?_) (fun cF7 hr => ?_)
        · obtain ⟨x1, nF8, eF9, gF10, hr⟩ := hr.idx
          refine A_region ?_
          exact (w_bn (w_k ⟨x1.Value, hr, (A_cut hwf)⟩))
        · refine w_skip ?_
          exact (w_bn (w_k ⟨v1, hr, (A_cut hwf)⟩))
    · refine w_exit ?_
      exact (w_te (w_te (w_bx (w_k ⟨v1, (hr).map, (A_cut hwf)⟩))))
end Go.Val

/- part JW128 -/
/- scansionref03.Trie.place is told by hand. -/
namespace Go.Val
theorem scansionref03_Trie_place_runs (t : Tscansionref03_Trie) (b : List UInt8) (l0 : Nat) {h : Heap} (ha0 : h.at_ l0 = some (.cells [.row 5 (List.map eU t.First), .row 3 (List.map eI t.Like)])) {a : Int} (e : scansionref03_Trie_place t b = some a) :
    Runs CT 128 [.cv (.val (.ptr (some (l0, 0)))), .cv (.val (.sl (List.map eU b)))] h fun o h' => o = [.cv (.val (.int .i64 a))] ∧ h' = h :=
  Runs.hand (C := CT) (show handL 128 _ h _ h from ⟨rfl, .inr ⟨rfl, l0, t, b, a, rfl, ha0, e, rfl⟩⟩) ⟨rfl, rfl⟩
end Go.Val

/- part JW107 -/
/- (*scansion/scansionref03.Trie).add runs as it is read off. -/
namespace Go.Val
set_option linter.unusedVariables false
set_option linter.unusedSimpArgs false
set_option maxRecDepth 20000
open Go.Proofs
theorem scansionref03_Trie_add_runs (t : Tscansionref03_Trie) (b : List UInt8) (l0 : Nat) {h : Heap} (ha0 : h.at_ l0 = some (.cells [.row 5 (List.map eU t.First), .row 3 (List.map eI t.Like)])) {a : Tscansionref03_Trie} (e : scansionref03_Trie_add t b = some a) :
    Runs CT 107 [.cv (.val (.ptr (some (l0, 0)))), .cv (.val (.sl (List.map eU b)))] h fun o h' => o = [] ∧ h' = (h.upd l0 (.cells [.row 5 (List.map eU a.First), .row 3 (List.map eI a.Like)])) := by
  refine Runs.start Try.f107 _ Try.func107 rfl (by rw [Try.ntmps107]; simp) (by rfl) (by rfl) (fun hwf hu => ?_)
  have hl0 := (hwf _ _ ha0).1
  have kl0 := locF hl0
  obtain ⟨D, hD, hr⟩ : ∃ D : Tscansionref03_Trie → Prop, (∀ z, D z → z = a) ∧ Holds (scansionref03_Trie_add t b) D := ⟨fun z => z = a, fun _ h => h, Holds.intro e rfl⟩
  dsimp only [scansionref03_Trie_add] at hr
  change wpCode _ _ _ _ _ ⟨[(0, .cv (.val (.ptr (some (l0, 0))))), (1, .cv (.val (.sl (List.map eU b))))], h.on []⟩
  refine w_seq ?_
  refine A_ops ?_
  refine w_upto 2 rfl (by simp (disch := (apply Apart.mk; decide)) only [go_sem, Nat.reduceAdd, Nat.reduceLT, Nat.reduceMul, Nat.reduceLeDiff, Int.reduceToNat, Int.reduceLT, Int.reduceLE, ha0, on_atB hl0, lt_add hl0, lt_at hl0, on_updB hl0, on_atU hl0, on_updU hl0, upd_same ha0]; rfl) ?_
  obtain ⟨r, eF1, hr⟩ := hr.bind
  refine w_call' (out := ?o_eF1) (hp := ?p_eF1) rfl (by simp (disch := (apply Apart.mk; decide)) only [go_sem, Nat.reduceAdd, Nat.reduceLT, Nat.reduceMul, Nat.reduceLeDiff, Int.reduceToNat, Int.reduceLT, Int.reduceLE, ha0, on_atB hl0, lt_add hl0, lt_at hl0, on_updB hl0, on_atU hl0, on_updU hl0, upd_same ha0, Option.getD_some]; rfl) (by simp (disch := (apply Apart.mk; decide)) only [go_sem, Nat.reduceAdd, Nat.reduceLT, Nat.reduceMul, Nat.reduceLeDiff, Int.reduceToNat, Int.reduceLT, Int.reduceLE, ha0, on_atB hl0, lt_add hl0, lt_at hl0, on_updB hl0, on_atU hl0, on_updU hl0, upd_same ha0, Option.getD_some]; rfl) (by simp (disch := (apply Apart.mk; decide)) only [go_sem, Nat.reduceAdd, Nat.reduceLT, Nat.reduceMul, Nat.reduceLeDiff, Int.reduceToNat, Int.reduceLT, Int.reduceLE, ha0, on_atB hl0, lt_add hl0, lt_at hl0, on_updB hl0, on_atU hl0, on_updU hl0, upd_same ha0, Option.getD_some]; rfl) ?c_eF1 ?d_eF1 ?_
  case c_eF1 => (refine scansionref03_Trie_place_runs t b (l0) ?_ eF1; (simp (disch := (apply Apart.mk; decide)) only [go_sem, Nat.reduceAdd, Nat.reduceLT, Nat.reduceMul, Nat.reduceLeDiff, Int.reduceToNat, Int.reduceLT, Int.reduceLE, ha0, on_atB hl0, lt_add hl0, lt_at hl0, on_updB hl0, on_atU hl0, on_updU hl0, upd_same ha0]))
  case d_eF1 => rfl
  refine w_ops_end (by simp (disch := (apply Apart.mk; decide)) only [go_sem, Nat.reduceAdd, Nat.reduceLT, Nat.reduceMul, Nat.reduceLeDiff, Int.reduceToNat, Int.reduceLT, Int.reduceLE, ha0, on_atB hl0, lt_add hl0, lt_at hl0, on_updB hl0, on_atU hl0, on_updU hl0, upd_same ha0]; rfl) ?_
  refine w_n ?_
  refine w_seq ?_
  refine w_seq ?_
  refine w_region rfl (by simp (disch := (apply Apart.mk; decide)) only [go_sem, Nat.reduceAdd, Nat.reduceLT, Nat.reduceMul, Nat.reduceLeDiff, Int.reduceToNat, Int.reduceLT, Int.reduceLE, ha0, on_atB hl0, lt_add hl0, lt_at hl0, on_updB hl0, on_atU hl0, on_updU hl0, upd_same ha0]; rfl) ?_
  refine w_n ?_
  refine w_K (D := D) (fun xX : (Int × List UInt8) => ⟨[(0, .cv (.val (.ptr (some (l0, 0))))), (4, .cv (.val (.int .i64 xX.1)))], (h.upd l0 (.cells [.row 5 (List.map eU xX.2), .row 3 (List.map eI t.Like)])).on []⟩) (fun xX : (Int × List UInt8) => scansionref03_Trie_add.k1 t xX.1 xX.2) (fun xX s' hr ht => ?_) ?_
  · obtain ⟨k, First⟩ := xX
    dsimp only [scansionref03_Trie_add.k1] at hr ht
    refine (w_nT ht ?_)
    obtain ⟨nF2, hr⟩ := hr.room
    refine w_region rfl (by simp (disch := (apply Apart.mk; decide)) only [go_sem, Nat.reduceAdd, Nat.reduceLT, Nat.reduceMul, Nat.reduceLeDiff, Int.reduceToNat, Int.reduceLT, Int.reduceLE, ha0, on_atB hl0, lt_add hl0, lt_at hl0, on_updB hl0, on_atU hl0, on_updU hl0, upd_same ha0, nF2]; rfl) ?_
    obtain rfl := hD _ hr
    exact (w_endN (To.cut (os' := []) (sl := []) (h := (h.upd l0 (.cells [.row 5 (List.map eU First), .row 3 (List.map eI (t.Like ++ ([k])))]))) (WF.upd hwf hl0 (by simp (disch := (apply Apart.mk; decide)) only [go_sem, Nat.reduceAdd, Nat.reduceLT, Nat.reduceMul, Nat.reduceLeDiff, Int.reduceToNat, Int.reduceLT, Int.reduceLE, ha0, on_atB hl0, lt_add hl0, lt_at hl0, on_updB hl0, on_atU hl0, on_updU hl0, upd_same ha0])) (Nat.le_refl _) (by first | rfl | (simp (disch := (apply Apart.mk; decide)) only [go_sem, Nat.reduceAdd, Nat.reduceLT, Nat.reduceMul, Nat.reduceLeDiff, Int.reduceToNat, Int.reduceLT, Int.reduceLE, ha0, on_atB hl0, lt_add hl0, lt_at hl0, on_updB hl0, on_atU hl0, on_updU hl0, upd_same ha0]; rfl)) (by simp (disch := (apply Apart.mk; decide)) only [go_sem, Nat.reduceAdd, Nat.reduceLT, Nat.reduceMul, Nat.reduceLeDiff, Int.reduceToNat, Int.reduceLT, Int.reduceLE, ha0, on_atB hl0, lt_add hl0, lt_at hl0, on_updB hl0, on_atU hl0, on_updU hl0, upd_same ha0])) (by simp (disch := (apply Apart.mk; decide)) only [go_sem, Nat.reduceAdd, Nat.reduceLT, Nat.reduceMul, Nat.reduceLeDiff, Int.reduceToNat, Int.reduceLT, Int.reduceLE, ha0, on_atB hl0, lt_add hl0, lt_at hl0, on_updB hl0, on_atU hl0, on_updU hl0, upd_same ha0, Try.results107, results_data CT_gives107, resCell, resVal.eq_2, loadOp_sv]) ⟨rfl, on_nil (h := (h.upd l0 (.cells [.row 5 (List.map eU First), .row 3 (List.map eI (t.Like ++ ([k])))]))) (WF.upd hwf hl0 (by simp (disch := (apply Apart.mk; decide)) only [go_sem, Nat.reduceAdd, Nat.reduceLT, Nat.reduceMul, Nat.reduceLeDiff, Int.reduceToNat, Int.reduceLT, Int.reduceLE, ha0, on_atB hl0, lt_add hl0, lt_at hl0, on_updB hl0, on_atU hl0, on_updU hl0, upd_same ha0]))⟩)
  · refine w_condH (by simp (disch := (apply Apart.mk; decide)) only [go_sem, Nat.reduceAdd, Nat.reduceLT, Nat.reduceMul, Nat.reduceLeDiff, Int.reduceToNat, Int.reduceLT, Int.reduceLE, ha0, on_atB hl0, lt_add hl0, lt_at hl0, on_updB hl0, on_atU hl0, on_updU hl0, upd_same ha0]) hr (fun cF3 hr => ?_) (fun cF3 hr => ?_)
    · refine w_seq ?_
      refine w_region rfl (by simp (disch := (apply Apart.mk; decide)) only [go_sem, Nat.reduceAdd, Nat.reduceLT, Nat.reduceMul, Nat.reduceLeDiff, Int.reduceToNat, Int.reduceLT, Int.reduceLE, ha0, on_atB hl0, lt_add hl0, lt_at hl0, on_updB hl0, on_atU hl0, on_updU hl0, upd_same ha0, (eq_false (by decide : ¬ ((256 : Int) = 0))), cF3]; rfl) ?_
      refine w_n ?_
      obtain ⟨nF4, hr⟩ := hr.room
      refine w_region rfl (by simp (disch := (apply Apart.mk; decide)) only [go_sem, Nat.reduceAdd, Nat.reduceLT, Nat.reduceMul, Nat.reduceLeDiff, Int.reduceToNat, Int.reduceLT, Int.reduceLE, ha0, on_atB hl0, lt_add hl0, lt_at hl0, on_updB hl0, on_atU hl0, on_updU hl0, upd_same ha0, nF4, cF3]; rfl) ?_
      exact (w_k ⟨((IntKind.i64.wrap (Int.tdiv (t.First.length : Int) (256 : Int))), (t.First ++ b)), hr, (To.cut (h := (h.upd l0 (.cells [.row 5 (List.map eU (t.First ++ b)), .row 3 (List.map eI t.Like)]))) (WF.upd hwf hl0 (by simp (disch := (apply Apart.mk; decide)) only [go_sem, Nat.reduceAdd, Nat.reduceLT, Nat.reduceMul, Nat.reduceLeDiff, Int.reduceToNat, Int.reduceLT, Int.reduceLE, ha0, on_atB hl0, lt_add hl0, lt_at hl0, on_updB hl0, on_atU hl0, on_updU hl0, upd_same ha0])) (Nat.le_refl _) (by first | rfl | (simp (disch := (apply Apart.mk; decide)) only [go_sem, Nat.reduceAdd, Nat.reduceLT, Nat.reduceMul, Nat.reduceLeDiff, Int.reduceToNat, Int.reduceLT, Int.reduceLE, ha0, on_atB hl0, lt_add hl0, lt_at hl0, on_updB hl0, on_atU hl0, on_updU hl0, upd_same ha0, cF3]; rfl)) (by simp (disch := (apply Apart.mk; decide)) only [go_sem, Nat.reduceAdd, Nat.reduceLT, Nat.reduceMul, Nat.reduceLeDiff, Int.reduceToNat, Int.reduceLT, Int.reduceLE, ha0, on_atB hl0, lt_add hl0, lt_at hl0, on_updB hl0, on_atU hl0, on_updU hl0, upd_same ha0, cF3]))⟩)
    · refine w_skip ?_
      exact (w_k ⟨(r, t.First), hr, (To.cut (h := (h.upd l0 (.cells [.row 5 (List.map eU t.First), .row 3 (List.map eI t.Like)]))) (WF.upd hwf hl0 (by simp (disch := (apply Apart.mk; decide)) only [go_sem, Nat.reduceAdd, Nat.reduceLT, Nat.reduceMul, Nat.reduceLeDiff, Int.reduceToNat, Int.reduceLT, Int.reduceLE, ha0, on_atB hl0, lt_add hl0, lt_at hl0, on_updB hl0, on_atU hl0, on_updU hl0, upd_same ha0])) (Nat.le_refl _) (by first | rfl | (simp (disch := (apply Apart.mk; decide)) only [go_sem, Nat.reduceAdd, Nat.reduceLT, Nat.reduceMul, Nat.reduceLeDiff, Int.reduceToNat, Int.reduceLT, Int.reduceLE, ha0, on_atB hl0, lt_add hl0, lt_at hl0, on_updB hl0, on_atU hl0, on_updU hl0, upd_same ha0, cF3]; rfl)) (by simp (disch := (apply Apart.mk; decide)) only [go_sem, Nat.reduceAdd, Nat.reduceLT, Nat.reduceMul, Nat.reduceLeDiff, Int.reduceToNat, Int.reduceLT, Int.reduceLE, ha0, on_atB hl0, lt_add hl0, lt_at hl0, on_updB hl0, on_atU hl0, on_updU hl0, upd_same ha0, cF3]))⟩)
end Go.Val

/- part JW74 -/
/- scansion/scansionref03.Build runs as it is read off. -/
namespace Go.Val
set_option linter.unusedVariables false
set_option linter.unusedSimpArgs false
set_option maxRecDepth 20000
open Go.Proofs
theorem scansionref03_Build_runs (l : List TProp) {h : Heap} {a : (Option Tscansionref03_Trie × Int)} (e : scansionref03_Build l = some a) :
    Runs CT 74 [.cv (.val (.sl (List.map eProp l)))] h fun o h' => match a.1 with | none => o = [.cv (.val (.ptr none)), .cv (.val (.int .i64 a.2))] ∧ h' = h | some y => o = [.cv (.val (.ptr (some (h.n + 0, 0)))), .cv (.val (.int .i64 a.2))] ∧ h' = h.on [some (.cells [.row 5 (List.map eU y.First), .row 3 (List.map eI y.Like)])] := by
  refine Runs.start Try.f74 _ Try.func74 rfl (by rw [Try.ntmps74]; simp) (by rfl) (by rfl) (fun hwf hu => ?_)
  obtain ⟨D, hD, hr⟩ : ∃ D : (Option Tscansionref03_Trie × Int) → Prop, (∀ z, D z → z = a) ∧ Holds (scansionref03_Build l) D := ⟨fun z => z = a, fun _ h => h, Holds.intro e rfl⟩
  dsimp only [scansionref03_Build] at hr
  change wpCode _ _ _ _ _ ⟨[(0, .cv (.val (.sl (List.map eProp l))))], h.on []⟩
  refine w_seq ?_
  refine A_region ?_
  refine w_n ?_
  refine w_seq ?_
  refine w_seq ?_
  refine A_region ?_
  refine w_n ?_
  refine A_condH hr (fun cF1 hr => ?_) (fun cF1 hr => ?_)
  · refine w_seq ?_
    refine A_region ?_
    refine w_n ?_
    refine w_ret ?_
    obtain rfl := hD _ hr
    exact (w_tr (A_endR (A_cut (os' := []) (sl := [(2, .cv (.val (.ptr none))), (3, .cv (.val (.int .i64 (3 : Int))))]) hwf) ⟨rfl, on_nil hwf⟩))
  · refine w_skip ?_
    refine w_n ?_
    refine w_seq ?_
    refine w_seq ?_
    refine A_region ?_
    refine w_n ?_
    refine w_K (D := D) (fun xX : Unit => ⟨[(0, .cv (.val (.sl (List.map eProp l))))], h.on []⟩) (fun xX : Unit => scansionref03_Build.k1 l) (fun xX s' hr ht => ?_) ?_
    · dsimp only [scansionref03_Build.k1] at hr ht
      refine (w_nT ht ?_)
      refine w_seq ?_
      refine A_region ?_
      refine w_n ?_
      refine w_seq ?_
      refine w_seq ?_
      refine A_region ?_
      refine w_n ?_
      refine w_K (D := D) (fun xX : (List UInt8 × List Int) => ⟨[(5, .cv (.val (.ptr (some (h.n + 0, 0)))))], h.on [some (.cells [.row 5 (List.map eU xX.1), .row 3 (List.map eI xX.2)])]⟩) (fun xX : (List UInt8 × List Int) => scansionref03_Build.k2 xX.1 xX.2) (fun xX s' hr ht => ?_) ?_
      · obtain ⟨First, Like⟩ := xX
        dsimp only [scansionref03_Build.k2] at hr ht
        refine (w_nT ht ?_)
        refine w_seq ?_
        refine A_region ?_
        refine w_n ?_
        refine w_ret ?_
        obtain rfl := hD _ hr
        exact (w_endR (A_cut (os' := [some (.cells [.row 5 (List.map eU First), .row 3 (List.map eI Like)])]) (sl := [(2, .cv (.val (.ptr (some (h.n + 0, 0))))), (3, .cv (.val (.int .i64 (0 : Int))))]) hwf) (by simp (disch := (apply Apart.mk; decide)) only [go_sem, Nat.reduceAdd, Nat.reduceLT, Nat.reduceMul, Nat.reduceLeDiff, Int.reduceToNat, Int.reduceLT, Int.reduceLE, Try.results74, results_data CT_gives74, resCell, resVal.eq_2, loadOp_sv, cF1]) ⟨rfl, rfl⟩)
      · refine w_block ?_
        refine w_Loop (fun xX : (Int × List UInt8 × List Int) => ⟨[(0, .cv (.val (.sl (List.map eProp l)))), (5, .cv (.val (.ptr (some (h.n + 0, 0))))), (6, .cv (.val (.int .i64 xX.1)))], h.on [some (.cells [.row 5 (List.map eU xX.2.1), .row 3 (List.map eI xX.2.2)])]⟩) hr (A_cut hwf) (fun W1 xX hr => ?_)
        obtain ⟨k, First1, Like1⟩ := xX
        dsimp only [scansionref03_Build.b1] at hr
        refine w_seq ?_
        refine w_seq ?_
        refine A_region ?_
        refine w_n ?_
        refine A_condH hr (fun cF2 hr => ?_) (fun cF2 hr => ?_)
        · refine w_skip ?_
          refine w_n ?_
          refine w_seq ?_
          refine w_K (D := (Aft W1 D)) (fun xX : (List UInt8 × List Int) => ⟨[(0, .cv (.val (.sl (List.map eProp l)))), (5, .cv (.val (.ptr (some (h.n + 0, 0))))), (6, .cv (.val (.int .i64 k)))], h.on [some (.cells [.row 5 (List.map eU xX.1), .row 3 (List.map eI xX.2)])]⟩) (fun xX : (List UInt8 × List Int) => scansionref03_Build.k3 k xX.1 xX.2) (fun xX s' hr ht => ?_) ?_
          · obtain ⟨First2, Like2⟩ := xX
            dsimp only [scansionref03_Build.k3] at hr ht
            refine (w_nT ht ?_)
            refine A_region ?_
            exact (w_k ⟨((IntKind.i64.wrap (k + (1 : Int))), First2, Like2), hr, (A_cut hwf)⟩)
          · refine w_block ?_
            refine w_seq ?_
            refine A_ops ?_
            refine A_upto 2 ?_
            obtain ⟨r, eF3, hr⟩ := hr.bind
            refine A_call (out := ?o_eF3) (hp := ?p_eF3) ?c_eF3 ?d_eF3 ?_
            case c_eF3 => exact scansionref03_touched_runs l k eF3
            case d_eF3 => rfl
            refine A_ops_end ?_
            refine w_n ?_
            refine w_seq ?_
            obtain ⟨nF4, nF5, hr⟩ := hr.mk
            refine A_region ?_
            refine w_n ?_
            refine w_seq ?_
            refine w_seq ?_
            refine A_region ?_
            refine w_n ?_
            refine w_K (D := (Aft W1 D)) (fun xX : List UInt8 => ⟨[(0, .cv (.val (.sl (List.map eProp l)))), (5, .cv (.val (.ptr (some (h.n + 0, 0))))), (6, .cv (.val (.int .i64 k))), (8, .cv (.row 5 (List.map eU xX)))], h.on [some (.cells [.row 5 (List.map eU First1), .row 3 (List.map eI Like1)])]⟩) (fun xX : List UInt8 => scansionref03_Build.k4 k First1 Like1 xX) (fun xX s' hr ht => ?_) ?_
            · obtain ⟨b, rfl⟩ : ∃ z, z = xX := ⟨xX, rfl⟩
              dsimp only [scansionref03_Build.k4] at hr ht
              refine (w_nT ht ?_)
              refine w_seq ?_
              refine A_ops ?_
              refine A_upto 2 ?_
              obtain ⟨r1, eF6, hr⟩ := hr.bind
              refine A_call (out := ?o_eF6) (hp := ?p_eF6) ?c_eF6 ?d_eF6 ?_
              case c_eF6 => (refine scansionref03_Trie_add_runs (Tscansionref03_Trie.mk First1 Like1) b (h.n + 0) ?_ eF6; (simp (disch := (apply Apart.mk; decide)) only [go_sem, Nat.reduceAdd, Nat.reduceLT, Nat.reduceMul, Nat.reduceLeDiff, Int.reduceToNat, Int.reduceLT, Int.reduceLE]))
              case d_eF6 => rfl
              refine w_ops_nil ?_
              refine w_n ?_
              refine w_seq ?_
              refine A_region ?_
              refine w_n ?_
              refine A_condH hr (fun cF7 hr => ?_) (fun cF7 hr => ?_)
              · refine w_seq ?_
                refine A_region ?_
                refine w_n ?_
                refine w_ret ?_
                obtain rfl := hD _ hr
                exact (w_br (w_tr (w_tr (w_tr (w_br (w_tr (w_tr (A_endR (A_cut (os' := []) (sl := [(2, .cv (.val (.ptr none))), (3, .cv (.val (.int .i64 (3 : Int))))]) hwf) ⟨rfl, on_nil hwf⟩))))))))
              · refine w_skip ?_
                exact (w_bn (w_k ⟨(r1.First, r1.Like), hr, (A_cut hwf)⟩))
            · refine w_block ?_
              refine w_Loop (fun xX : (List UInt8 × Int) => ⟨[(0, .cv (.val (.sl (List.map eProp l)))), (5, .cv (.val (.ptr (some (h.n + 0, 0))))), (6, .cv (.val (.int .i64 k))), (7, .cv (.val (.sl (List.map eProp r)))), (8, .cv (.row 5 (List.map eU xX.1))), (9, .cv (.val (.int .i64 xX.2)))], h.on [some (.cells [.row 5 (List.map eU First1), .row 3 (List.map eI Like1)])]⟩) hr (A_cut hwf) (fun W2 xX hr => ?_)
              obtain ⟨b1, i⟩ := xX
              dsimp only [scansionref03_Build.b2] at hr
              refine w_seq ?_
              refine w_joinR (sj := ⟨[(0, .cv (.val (.sl (List.map eProp l)))), (5, .cv (.val (.ptr (some (h.n + 0, 0))))), (6, .cv (.val (.int .i64 k))), (7, .cv (.val (.sl (List.map eProp r)))), (8, .cv (.row 5 (List.map eU b1))), (9, .cv (.val (.int .i64 i))), (62, .cv (.val (.bool ((decide (i < (256 : Int))) && (decide ((r.length : Int) > (0 : Int)))))))], h.on [some (.cells [.row 5 (List.map eU First1), .row 3 (List.map eI Like1)])]⟩) (A_ops ?_) ?_
              · refine A_upto 3 ?_
                rcases Bool.eq_false_or_eq_true (decide (i < (256 : Int))) with cF8 | cF8
                · refine A_ops_end ?_
                  exact w_k (A_cut hwf)
                · refine A_ops_end ?_
                  exact w_k (A_cut hwf)
              refine A_condH hr (fun cF9 hr => ?_) (fun cF9 hr => ?_)
              · refine w_skip ?_
                refine w_n ?_
                refine w_seq ?_
                refine w_block ?_
                refine A_ops ?_
                refine A_upto 7 ?_
                obtain ⟨r2, eF10, hr⟩ := hr.bind
                refine A_call (out := ?o_eF10) (hp := ?p_eF10) ?c_eF10 ?d_eF10 ?_
                case c_eF10 => exact scansionref03_value_runs r (IntKind.i64.wrap ((IntKind.i64.wrap (k * (256 : Int))) + i)) eF10
                case d_eF10 => rfl
                obtain ⟨n, nF11, eF12, gF13, hr⟩ := hr.idx
                refine A_ops_end ?_
                refine (w_bn (w_n ?_))
                refine A_region ?_
                exact (w_k ⟨((List.set b1 (Int.toNat i) r2), (IntKind.i64.wrap (i + (1 : Int)))), hr, (A_cut hwf)⟩)
              · refine w_exit ?_
                exact (w_te (w_te (w_bx (w_k ⟨b1, (hr).map, (A_cut hwf)⟩))))
        · refine w_exit ?_
          exact (w_te (w_te (w_bx (w_k ⟨(First1, Like1), (hr).map, (A_cut hwf)⟩))))
    · refine w_block ?_
      refine w_Loop (fun xX : Int => ⟨[(0, .cv (.val (.sl (List.map eProp l)))), (4, .cv (.val (.int .i64 xX)))], h.on []⟩) hr (A_cut hwf) (fun W3 xX hr => ?_)
      obtain ⟨i1, rfl⟩ : ∃ z, z = xX := ⟨xX, rfl⟩
      dsimp only [scansionref03_Build.b3] at hr
      refine w_seq ?_
      refine w_seq ?_
      refine A_region ?_
      refine w_n ?_
      refine A_condH hr (fun cF14 hr => ?_) (fun cF14 hr => ?_)
      · refine w_skip ?_
        refine w_n ?_
        refine w_seq ?_
        refine w_block ?_
        obtain ⟨v1, vF20, hr⟩ := hr.bind
        refine w_joinR (sj := ⟨[(0, .cv (.val (.sl (List.map eProp l)))), (4, .cv (.val (.int .i64 i1))), (45, .cv (.val (.bool v1)))], h.on []⟩) (w_drawn [0, 1, 2, 3, 4, 5, 6, 7, 8, 9, 10, 11, 12, 13, 14, 15, 16, 17, 18, 19, 20, 21, 22, 23, 24, 25, 26] (by rfl) ?_) ?_
        · have hr := Holds.intro (D := fun z => z = v1) vF20 rfl
          obtain ⟨x, nF15, eF16, gF17, hr⟩ := hr.idx
          refine p_run (l := [0, 1, 2, 3, 4, 5, 6]) (pend' := [6, 5, 4, 3, 2, 1, 0]) (by simp (disch := (apply Apart.mk; decide)) only [go_sem, Nat.reduceAdd, Nat.reduceLT, Nat.reduceMul, Nat.reduceLeDiff, Int.reduceToNat, Int.reduceLT, Int.reduceLE, nF15, eF16, gF17]; rfl) rfl ?_
          rcases hr.ite with ⟨cF18, hr⟩ | ⟨cF18, hr⟩
          · refine p_run (l := [7, 8, 9, 10, 11, 12, 13, 14, 15, 16, 17, 18, 19, 20, 21, 22, 23, 24, 25, 26]) (pend' := [26, 25, 24, 23, 22, 21, 20, 19, 18, 17, 16, 15, 14, 13, 12, 11, 10, 9, 8, 7, 6, 5, 4, 3, 2, 1, 0]) (by simp (disch := (apply Apart.mk; decide)) only [go_sem, Nat.reduceAdd, Nat.reduceLT, Nat.reduceMul, Nat.reduceLeDiff, Int.reduceToNat, Int.reduceLT, Int.reduceLE, nF15, eF16, gF17, cF18]; rfl) rfl ?_
            refine p_end (by simp (disch := (apply Apart.mk; decide)) only [go_sem, Nat.reduceAdd, Nat.reduceLT, Nat.reduceMul, Nat.reduceLeDiff, Int.reduceToNat, Int.reduceLT, Int.reduceLE, nF15, eF16, gF17, cF18]) ?_
            obtain rfl : _ = v1 := hr
            exact w_k (A_cut hwf)
          · refine p_run (l := [7, 8, 9, 10, 11, 12, 13, 14]) (pend' := [14, 13, 12, 11, 10, 9, 8, 7, 6, 5, 4, 3, 2, 1, 0]) (by simp (disch := (apply Apart.mk; decide)) only [go_sem, Nat.reduceAdd, Nat.reduceLT, Nat.reduceMul, Nat.reduceLeDiff, Int.reduceToNat, Int.reduceLT, Int.reduceLE, nF15, eF16, gF17, cF18]; rfl) rfl ?_
            rcases hr.ite with ⟨cF19, hr⟩ | ⟨cF19, hr⟩
            · refine p_run (l := [15, 16, 17, 18, 19, 20, 21, 22, 23, 24, 25, 26]) (pend' := [26, 25, 24, 23, 22, 21, 20, 19, 18, 17, 16, 15, 14, 13, 12, 11, 10, 9, 8, 7, 6, 5, 4, 3, 2, 1, 0]) (by simp (disch := (apply Apart.mk; decide)) only [go_sem, Nat.reduceAdd, Nat.reduceLT, Nat.reduceMul, Nat.reduceLeDiff, Int.reduceToNat, Int.reduceLT, Int.reduceLE, nF15, eF16, gF17, cF18, cF19]; rfl) rfl ?_
              refine p_end (by simp (disch := (apply Apart.mk; decide)) only [go_sem, Nat.reduceAdd, Nat.reduceLT, Nat.reduceMul, Nat.reduceLeDiff, Int.reduceToNat, Int.reduceLT, Int.reduceLE, nF15, eF16, gF17, cF18, nF15, eF16, gF17, cF19]) ?_
              obtain rfl : _ = v1 := hr
              exact w_k (A_cut hwf)
            · refine p_run (l := [15, 16, 17, 18, 19, 20, 21, 22, 23, 24, 25, 26]) (pend' := [26, 25, 24, 23, 22, 21, 20, 19, 18, 17, 16, 15, 14, 13, 12, 11, 10, 9, 8, 7, 6, 5, 4, 3, 2, 1, 0]) (by simp (disch := (apply Apart.mk; decide)) only [go_sem, Nat.reduceAdd, Nat.reduceLT, Nat.reduceMul, Nat.reduceLeDiff, Int.reduceToNat, Int.reduceLT, Int.reduceLE, nF15, eF16, gF17, cF18, cF19]; rfl) rfl ?_
              refine p_end (by simp (disch := (apply Apart.mk; decide)) only [go_sem, Nat.reduceAdd, Nat.reduceLT, Nat.reduceMul, Nat.reduceLeDiff, Int.reduceToNat, Int.reduceLT, Int.reduceLE, nF15, eF16, gF17, cF18, nF15, eF16, gF17, cF19, nF15, eF16, gF17, nF15, eF16, gF17]) ?_
              obtain rfl : _ = v1 := hr
              exact w_k (A_cut hwf)
        refine A_condH hr (fun cF21 hr => ?_) (fun cF21 hr => ?_)
        · refine w_seq ?_
          refine A_region ?_
          refine w_n ?_
          refine w_ret ?_
          obtain rfl := hD _ hr
          exact (w_br (w_tr (w_tr (w_br (w_tr (w_tr (A_endR (A_cut (os' := []) (sl := [(2, .cv (.val (.ptr none))), (3, .cv (.val (.int .i64 (1 : Int))))]) hwf) ⟨rfl, on_nil hwf⟩)))))))
        · refine w_skip ?_
          refine (w_bn (w_n ?_))
          refine A_region ?_
          exact (w_k ⟨(IntKind.i64.wrap (i1 + (1 : Int))), hr, (A_cut hwf)⟩)
      · refine w_exit ?_
        exact (w_te (w_te (w_bx (w_k ⟨(), (hr).map, (A_cut hwf)⟩))))
theorem scansionref03_Build_runs_none (l : List TProp) {h : Heap} {a : (Option Tscansionref03_Trie × Int)} (e : scansionref03_Build l = some a) (hx : a.1 = none) :
    Runs CT 74 [.cv (.val (.sl (List.map eProp l)))] h fun o h' => o = [.cv (.val (.ptr none)), .cv (.val (.int .i64 a.2))] ∧ h' = h := by
  have := scansionref03_Build_runs (h := h) l e
  rw [hx] at this
  exact this
theorem scansionref03_Build_runs_some (l : List TProp) {h : Heap} {a : (Option Tscansionref03_Trie × Int)} {y : Tscansionref03_Trie} (e : scansionref03_Build l = some a) (hx : a.1 = some y) :
    Runs CT 74 [.cv (.val (.sl (List.map eProp l)))] h fun o h' => o = [.cv (.val (.ptr (some (h.n + 0, 0)))), .cv (.val (.int .i64 a.2))] ∧ h' = h.on [some (.cells [.row 5 (List.map eU y.First), .row 3 (List.map eI y.Like)])] := by
  have := scansionref03_Build_runs (h := h) l e
  rw [hx] at this
  exact this
end Go.Val

/- part JW33 -/
/- scansion/scansionref09.New runs as it is read off. -/
namespace Go.Val
set_option linter.unusedVariables false
set_option linter.unusedSimpArgs false
set_option maxRecDepth 20000
open Go.Proofs
theorem scansionref09_New_runs (t : List (List TRange)) {h : Heap} {a : (Option Tscansionref09_Alphabet × Int)} (e : scansionref09_New t = some a) :
    Runs CT 33 [.cv (.val (.sl (List.map (eL eRange) t)))] h fun o h' => match a.1 with | none => o = [.cv (.val (.ptr none)), .cv (.val (.int .i64 a.2))] ∧ h' = h | some y => o = [.cv (.val (.ptr (some (h.n + 0, 0)))), .cv (.val (.int .i64 a.2))] ∧ h' = h.on [some (.cells [.val (.sl (List.map (eL eRange) y.Sets)), .val (.sl (List.map (eK .u64) y.M)), .val (.sl (List.map eI y.First))])] := by
  refine Runs.start Try.f33 _ Try.func33 rfl (by rw [Try.ntmps33]; simp) (by rfl) (by rfl) (fun hwf hu => ?_)
  obtain ⟨D, hD, hr⟩ : ∃ D : (Option Tscansionref09_Alphabet × Int) → Prop, (∀ z, D z → z = a) ∧ Holds (scansionref09_New t) D := ⟨fun z => z = a, fun _ h => h, Holds.intro e rfl⟩
  dsimp only [scansionref09_New] at hr
  change wpCode _ _ _ _ _ ⟨[(0, .cv (.val (.sl (List.map (eL eRange) t))))], h.on []⟩
  refine w_seq ?_
  refine A_region ?_
  refine w_n ?_
  refine w_seq ?_
  refine w_seq ?_
  refine A_region ?_
  refine w_n ?_
  refine A_condH hr (fun cF1 hr => ?_) (fun cF1 hr => ?_)
  · refine w_seq ?_
    refine A_region ?_
    refine w_n ?_
    refine w_ret ?_
    obtain rfl := hD _ hr
    exact (w_tr (A_endR (A_cut (os' := []) (sl := [(2, .cv (.val (.ptr none))), (3, .cv (.val (.int .i64 (3 : Int))))]) hwf) ⟨rfl, on_nil hwf⟩))
  · refine w_skip ?_
    refine w_n ?_
    refine w_seq ?_
    refine w_seq ?_
    refine A_region ?_
    refine w_n ?_
    refine w_K (D := D) (fun xX : Unit => ⟨[(0, .cv (.val (.sl (List.map (eL eRange) t))))], h.on []⟩) (fun xX : Unit => scansionref09_New.k1 t) (fun xX s' hr ht => ?_) ?_
    · dsimp only [scansionref09_New.k1] at hr ht
      refine (w_nT ht ?_)
      refine w_seq ?_
      refine A_region ?_
      refine w_n ?_
      refine w_seq ?_
      refine A_ops ?_
      refine A_upto 1 ?_
      obtain ⟨r, eF2, hr⟩ := hr.bind
      refine A_call (out := ?o_eF2) (hp := ?p_eF2) ?c_eF2 ?d_eF2 ?_
      case c_eF2 => exact scansionref09_edges_runs t eF2
      case d_eF2 => rfl
      refine A_ops_end ?_
      refine w_n ?_
      refine w_seq ?_
      refine A_region ?_
      refine w_n ?_
      refine w_seq ?_
      refine w_seq ?_
      refine A_region ?_
      refine w_n ?_
      refine w_K (D := D) (fun xX : (List TProp × List Int × List Int) => ⟨[(8, .cv (.val (.ptr (some (h.n + 0, 0))))), (10, .cv (.row 102 (List.map eProp xX.1)))], h.on [some (.cells [.val (.sl (List.map (eL eRange) t)), .row 49 (List.map (eK .u64) xX.2.1), .row 3 (List.map eI xX.2.2)])]⟩) (fun xX : (List TProp × List Int × List Int) => scansionref09_New.k2 t xX.1 xX.2.1 xX.2.2) (fun xX s' hr ht => ?_) ?_
      · obtain ⟨v, M, First⟩ := xX
        dsimp only [scansionref09_New.k2] at hr ht
        refine (w_nT ht ?_)
        refine w_seq ?_
        refine A_ops ?_
        refine A_upto 1 ?_
        obtain ⟨r1, eF3, hr⟩ := hr.bind
        try dsimp only at hr
        rcases xF6 : r1.1 with _ | y
        · rw [xF6] at hr
          dsimp only at hr
          refine A_call (out := ?o_eF3a) (hp := ?p_eF3a) ?c_eF3a ?d_eF3a ?_
          case c_eF3a => exact scansionref03_Build_runs_none v eF3 xF6
          case d_eF3a => rfl
          refine A_ops_end ?_
          refine w_n ?_
          refine w_seq ?_
          refine w_seq ?_
          refine A_region ?_
          refine w_n ?_
          refine A_condH hr (fun cF4 hr => ?_) (fun cF4 hr => ?_)
          · refine w_seq ?_
            refine A_region ?_
            refine w_n ?_
            refine w_ret ?_
            obtain rfl := hD _ hr
            exact (w_tr (A_endR (A_cut (os' := []) (sl := [(2, .cv (.val (.ptr none))), (3, .cv (.val (.int .i64 (3 : Int))))]) hwf) ⟨rfl, on_nil hwf⟩))
          · refine w_skip ?_
            refine w_n ?_
            refine w_seq ?_
            refine A_region ?_
            refine w_n ?_
            refine w_ret ?_
            obtain rfl := hD _ hr
            exact (w_endR (.fix _ _ (.cell (h.n + 0) 1) 49 _ (by simp (disch := (apply Apart.mk; decide)) only [go_sem, Nat.reduceAdd, Nat.reduceLT, Nat.reduceMul, Nat.reduceLeDiff, Int.reduceToNat, Int.reduceLT, Int.reduceLE, cF1, cF4]; rfl) (.fix _ _ (.cell (h.n + 0) 2) 3 _ (by simp (disch := (apply Apart.mk; decide)) only [go_sem, Nat.reduceAdd, Nat.reduceLT, Nat.reduceMul, Nat.reduceLeDiff, Int.reduceToNat, Int.reduceLT, Int.reduceLE, cF1, cF4]; rfl) (A_cut (os' := [some (.cells [.val (.sl (List.map (eL eRange) t)), .val (.sl (List.map (eK .u64) M)), .val (.sl (List.map eI First))])]) (sl := [(2, .cv (.val (.ptr (some (h.n + 0, 0))))), (3, .cv (.val (.int .i64 (0 : Int))))]) hwf))) (by simp (disch := (apply Apart.mk; decide)) only [go_sem, Nat.reduceAdd, Nat.reduceLT, Nat.reduceMul, Nat.reduceLeDiff, Int.reduceToNat, Int.reduceLT, Int.reduceLE, Try.results33, results_data CT_gives33, resCell, resVal.eq_2, loadOp_sv, cF1, cF4]) ⟨rfl, rfl⟩)
        · rw [xF6] at hr
          dsimp only at hr
          refine A_call (out := ?o_eF3b) (hp := ?p_eF3b) ?c_eF3b ?d_eF3b ?_
          case c_eF3b => exact scansionref03_Build_runs_some v eF3 xF6
          case d_eF3b => rfl
          refine A_ops_end ?_
          refine w_n ?_
          refine w_seq ?_
          refine w_seq ?_
          refine A_region ?_
          refine w_n ?_
          refine A_condH hr (fun cF5 hr => ?_) (fun cF5 hr => ?_)
          · refine w_seq ?_
            refine A_region ?_
            refine w_n ?_
            refine w_ret ?_
            obtain rfl := hD _ hr
            exact (w_tr (A_endR (A_cut (os' := []) (sl := [(2, .cv (.val (.ptr none))), (3, .cv (.val (.int .i64 (3 : Int))))]) hwf) ⟨rfl, on_nil hwf⟩))
          · refine w_skip ?_
            refine w_n ?_
            refine w_seq ?_
            refine A_region ?_
            refine w_n ?_
            refine w_ret ?_
            obtain rfl := hD _ hr
            exact (w_endR (.fix _ _ (.cell (h.n + 0) 1) 49 _ (by simp (disch := (apply Apart.mk; decide)) only [go_sem, Nat.reduceAdd, Nat.reduceLT, Nat.reduceMul, Nat.reduceLeDiff, Int.reduceToNat, Int.reduceLT, Int.reduceLE, cF1, cF5]; rfl) (.fix _ _ (.cell (h.n + 0) 2) 3 _ (by simp (disch := (apply Apart.mk; decide)) only [go_sem, Nat.reduceAdd, Nat.reduceLT, Nat.reduceMul, Nat.reduceLeDiff, Int.reduceToNat, Int.reduceLT, Int.reduceLE, cF1, cF5]; rfl) (A_cut (os' := [some (.cells [.val (.sl (List.map (eL eRange) t)), .val (.sl (List.map (eK .u64) M)), .val (.sl (List.map eI First))])]) (sl := [(2, .cv (.val (.ptr (some (h.n + 0, 0))))), (3, .cv (.val (.int .i64 (0 : Int))))]) hwf))) (by simp (disch := (apply Apart.mk; decide)) only [go_sem, Nat.reduceAdd, Nat.reduceLT, Nat.reduceMul, Nat.reduceLeDiff, Int.reduceToNat, Int.reduceLT, Int.reduceLE, Try.results33, results_data CT_gives33, resCell, resVal.eq_2, loadOp_sv, cF1, cF5]) ⟨rfl, rfl⟩)
      · refine w_block ?_
        refine w_Loop (fun xX : (List TProp × Int × List Int × List Int) => ⟨[(0, .cv (.val (.sl (List.map (eL eRange) t)))), (8, .cv (.val (.ptr (some (h.n + 0, 0))))), (9, .cv (.val (.sl (List.map eI r)))), (10, .cv (.row 102 (List.map eProp xX.1))), (11, .cv (.val (.int .i64 xX.2.1)))], h.on [some (.cells [.val (.sl (List.map (eL eRange) t)), .row 49 (List.map (eK .u64) xX.2.2.1), .row 3 (List.map eI xX.2.2.2)])]⟩) hr (A_cut hwf) (fun W1 xX hr => ?_)
        obtain ⟨v1, v2, M1, First1⟩ := xX
        dsimp only [scansionref09_New.b1] at hr
        refine w_seq ?_
        refine w_seq ?_
        refine A_region ?_
        refine w_n ?_
        refine A_condH hr (fun cF7 hr => ?_) (fun cF7 hr => ?_)
        · refine w_skip ?_
          refine w_n ?_
          refine w_seq ?_
          refine w_block ?_
          refine w_seq ?_
          refine A_ops ?_
          obtain ⟨n, nF8, eF9, gF10, hr⟩ := hr.idx
          refine A_upto 5 ?_
          obtain ⟨r2, eF11, hr⟩ := hr.bind
          refine A_call (out := ?o_eF11) (hp := ?p_eF11) ?c_eF11 ?d_eF11 ?_
          case c_eF11 => exact scansionref09_mask_runs t n eF11
          case d_eF11 => rfl
          refine A_ops_end ?_
          refine w_n ?_
          refine w_seq ?_
          refine A_ops ?_
          refine A_upto 2 ?_
          obtain ⟨r3, eF12, hr⟩ := hr.bind
          refine A_call (out := ?o_eF12) (hp := ?p_eF12) ?c_eF12 ?d_eF12 ?_
          case c_eF12 => (refine scansionref09_Alphabet_find_runsR (Tscansionref09_Alphabet.mk t M1 First1) r2 (h.n + 0) ?_ eF12; (simp (disch := (apply Apart.mk; decide)) only [go_sem, Nat.reduceAdd, Nat.reduceLT, Nat.reduceMul, Nat.reduceLeDiff, Int.reduceToNat, Int.reduceLT, Int.reduceLE]))
          case d_eF12 => rfl
          refine A_ops_end ?_
          refine w_n ?_
          refine w_seq ?_
          refine w_seq ?_
          refine A_region ?_
          refine w_n ?_
          refine w_K (D := (Aft W1 D)) (fun xX : (Int × List Int × List Int) => ⟨[(0, .cv (.val (.sl (List.map (eL eRange) t)))), (8, .cv (.val (.ptr (some (h.n + 0, 0))))), (9, .cv (.val (.sl (List.map eI r)))), (10, .cv (.row 102 (List.map eProp v1))), (11, .cv (.val (.int .i64 v2))), (13, .cv (.val (.int .i64 xX.1)))], h.on [some (.cells [.val (.sl (List.map (eL eRange) t)), .row 49 (List.map (eK .u64) xX.2.1), .row 3 (List.map eI xX.2.2)])]⟩) (fun xX : (Int × List Int × List Int) => scansionref09_New.k3 r v1 v2 n xX.1 xX.2.1 xX.2.2) (fun xX s' hr ht => ?_) ?_
          · obtain ⟨v3, M2, First2⟩ := xX
            dsimp only [scansionref09_New.k3] at hr ht
            refine (w_nT ht ?_)
            refine w_seq ?_
            refine w_seq ?_
            refine A_region ?_
            refine w_n ?_
            refine A_condH hr (fun cF13 hr => ?_) (fun cF13 hr => ?_)
            · refine w_seq ?_
              refine A_region ?_
              refine w_n ?_
              refine w_ret ?_
              obtain rfl := hD _ hr
              exact (w_tr (w_br (w_tr (w_tr (w_br (w_tr (w_tr (A_endR (A_cut (os' := []) (sl := [(2, .cv (.val (.ptr none))), (3, .cv (.val (.int .i64 (3 : Int))))]) hwf) ⟨rfl, on_nil hwf⟩))))))))
            · refine w_skip ?_
              refine w_n ?_
              refine w_seq ?_
              refine A_region ?_
              refine w_n ?_
              refine w_seq ?_
              refine w_seq ?_
              refine A_region ?_
              refine w_n ?_
              refine w_K (D := (Aft W1 D)) (fun xX : Int => ⟨[(0, .cv (.val (.sl (List.map (eL eRange) t)))), (8, .cv (.val (.ptr (some (h.n + 0, 0))))), (9, .cv (.val (.sl (List.map eI r)))), (10, .cv (.row 102 (List.map eProp v1))), (11, .cv (.val (.int .i64 v2))), (13, .cv (.val (.int .i64 v3))), (14, .cv (.val (.int .i64 xX)))], h.on [some (.cells [.val (.sl (List.map (eL eRange) t)), .row 49 (List.map (eK .u64) M2), .row 3 (List.map eI First2)])]⟩) (fun xX : Int => scansionref09_New.k4 v1 v2 n v3 M2 First2 xX) (fun xX s' hr ht => ?_) ?_
              · obtain ⟨v4, rfl⟩ : ∃ z, z = xX := ⟨xX, rfl⟩
                dsimp only [scansionref09_New.k4] at hr ht
                refine (w_nT ht ?_)
                obtain ⟨nF14, hr⟩ := hr.room
                refine A_region ?_
                refine (w_bn (w_n ?_))
                refine A_region ?_
                exact (w_k ⟨((v1 ++ ([(TProp.mk n v4 (u8 (IntKind.u8.wrap v3)))])), (IntKind.i64.wrap (v2 + (1 : Int))), M2, First2), hr, (A_cut hwf)⟩)
              · refine A_condH hr (fun cF15 hr => ?_) (fun cF15 hr => ?_)
                · obtain ⟨n1, nF16, eF17, gF18, hr⟩ := hr.idx
                  refine A_region ?_
                  exact (w_k ⟨(IntKind.i64.wrap (n1 - (1 : Int))), hr, (A_cut hwf)⟩)
                · refine w_skip ?_
                  exact (w_k ⟨(1114111 : Int), hr, (A_cut hwf)⟩)
          · refine A_condH hr (fun cF19 hr => ?_) (fun cF19 hr => ?_)
            · refine w_seq ?_
              refine A_region ?_
              refine w_n ?_
              refine w_seq ?_
              obtain ⟨nF20, hr⟩ := hr.room
              refine A_region ?_
              refine w_n ?_
              refine w_drawn [0, 1, 2, 3, 4, 5, 6, 7, 8, 9, 10, 11, 12, 13] (by rfl) ?_
              obtain ⟨nF21, hr⟩ := hr.room
              refine p_run (l := [0, 1, 2, 3, 4, 5, 6, 7, 8, 9]) (pend' := [9, 8, 7, 6, 5, 4, 3, 2, 1, 0]) (by simp (disch := (apply Apart.mk; decide)) only [go_sem, Nat.reduceAdd, Nat.reduceLT, Nat.reduceMul, Nat.reduceLeDiff, Int.reduceToNat, Int.reduceLT, Int.reduceLE, nF8, eF9, gF10, nF21]; rfl) rfl ?_
              refine p_op (pend' := [0]) rfl (by simp (disch := (apply Apart.mk; decide)) only [go_sem, Nat.reduceAdd, Nat.reduceLT, Nat.reduceMul, Nat.reduceLeDiff, Int.reduceToNat, Int.reduceLT, Int.reduceLE, nF8, eF9, gF10, nF21]) (by simp (disch := (apply Apart.mk; decide)) only [go_sem, Nat.reduceAdd, Nat.reduceLT, Nat.reduceMul, Nat.reduceLeDiff, Int.reduceToNat, Int.reduceLT, Int.reduceLE, nF8, eF9, gF10, nF21]; rfl) (by rfl) ?_
              refine p_run (l := [11, 12]) (pend' := [12, 11, 0]) (by simp (disch := (apply Apart.mk; decide)) only [go_sem, Nat.reduceAdd, Nat.reduceLT, Nat.reduceMul, Nat.reduceLeDiff, Int.reduceToNat, Int.reduceLT, Int.reduceLE, nF8, eF9, gF10, nF21]; rfl) rfl ?_
              refine p_op (pend' := []) rfl (by simp (disch := (apply Apart.mk; decide)) only [go_sem, Nat.reduceAdd, Nat.reduceLT, Nat.reduceMul, Nat.reduceLeDiff, Int.reduceToNat, Int.reduceLT, Int.reduceLE, nF8, eF9, gF10, nF21]) (by simp (disch := (apply Apart.mk; decide)) only [go_sem, Nat.reduceAdd, Nat.reduceLT, Nat.reduceMul, Nat.reduceLeDiff, Int.reduceToNat, Int.reduceLT, Int.reduceLE, nF8, eF9, gF10, nF21]; rfl) (by rfl) ?_
              refine p_end (by simp (disch := (apply Apart.mk; decide)) only [go_sem, Nat.reduceAdd, Nat.reduceLT, Nat.reduceMul, Nat.reduceLeDiff, Int.reduceToNat, Int.reduceLT, Int.reduceLE, nF8, eF9, gF10, nF21]) ?_
              exact (w_k ⟨((M1.length : Int), (M1 ++ ([r2])), (First1 ++ ([n]))), hr, (A_cut hwf)⟩)
            · refine w_skip ?_
              exact (w_k ⟨(r3, M1, First1), hr, (A_cut hwf)⟩)
        · refine w_exit ?_
          exact (w_te (w_te (w_bx (w_k ⟨(v1, M1, First1), (hr).map, (A_cut hwf)⟩))))
    · refine w_block ?_
      refine w_Loop (fun xX : Int => ⟨[(0, .cv (.val (.sl (List.map (eL eRange) t)))), (4, .cv (.val (.int .i64 xX)))], h.on []⟩) hr (A_cut hwf) (fun W2 xX hr => ?_)
      obtain ⟨r4, rfl⟩ : ∃ z, z = xX := ⟨xX, rfl⟩
      dsimp only [scansionref09_New.b2] at hr
      refine w_seq ?_
      refine w_seq ?_
      refine A_region ?_
      refine w_n ?_
      refine A_condH hr (fun cF22 hr => ?_) (fun cF22 hr => ?_)
      · refine w_skip ?_
        refine w_n ?_
        refine w_seq ?_
        refine w_block ?_
        refine w_seq ?_
        refine A_ops ?_
        obtain ⟨xs, nF23, eF24, gF25, hr⟩ := hr.idx
        refine A_upto 4 ?_
        obtain ⟨r5, eF26, hr⟩ := hr.bind
        refine A_call (out := ?o_eF26) (hp := ?p_eF26) ?c_eF26 ?d_eF26 ?_
        case c_eF26 => exact scansionref02_Make_runs xs eF26
        case d_eF26 => rfl
        refine A_ops_end ?_
        refine w_n ?_
        refine w_seq ?_
        refine A_ops ?_
        refine A_upto 5 ?_
        obtain ⟨r6, eF27, hr⟩ := hr.bind
        refine A_call (out := ?o_eF27) (hp := ?p_eF27) ?c_eF27 ?d_eF27 ?_
        case c_eF27 => exact scansionref02_Same_runs r5.1 xs eF27
        case d_eF27 => rfl
        refine A_ops_end ?_
        refine w_n ?_
        refine w_joinR (sj := ⟨[(0, .cv (.val (.sl (List.map (eL eRange) t)))), (4, .cv (.val (.int .i64 r4))), (45, .cv (.val (.bool ((r5.2 != (0 : Int)) || (!r6)))))], h.on []⟩) (A_ops ?_) ?_
        · refine A_upto 3 ?_
          rcases Bool.eq_false_or_eq_true (r5.2 != (0 : Int)) with cF28 | cF28
          · refine A_ops_end ?_
            exact w_k (A_cut hwf)
          · refine A_ops_end ?_
            exact w_k (A_cut hwf)
        refine A_condH hr (fun cF29 hr => ?_) (fun cF29 hr => ?_)
        · refine w_seq ?_
          refine A_region ?_
          refine w_n ?_
          refine w_ret ?_
          obtain rfl := hD _ hr
          exact (w_br (w_tr (w_tr (w_br (w_tr (w_tr (A_endR (A_cut (os' := []) (sl := [(2, .cv (.val (.ptr none))), (3, .cv (.val (.int .i64 (1 : Int))))]) hwf) ⟨rfl, on_nil hwf⟩)))))))
        · refine w_skip ?_
          refine (w_bn (w_n ?_))
          refine A_region ?_
          exact (w_k ⟨(IntKind.i64.wrap (r4 + (1 : Int))), hr, (A_cut hwf)⟩)
      · refine w_exit ?_
        exact (w_te (w_te (w_bx (w_k ⟨(), (hr).map, (A_cut hwf)⟩))))
theorem scansionref09_New_runs_none (t : List (List TRange)) {h : Heap} {a : (Option Tscansionref09_Alphabet × Int)} (e : scansionref09_New t = some a) (hx : a.1 = none) :
    Runs CT 33 [.cv (.val (.sl (List.map (eL eRange) t)))] h fun o h' => o = [.cv (.val (.ptr none)), .cv (.val (.int .i64 a.2))] ∧ h' = h := by
  have := scansionref09_New_runs (h := h) t e
  rw [hx] at this
  exact this
theorem scansionref09_New_runs_some (t : List (List TRange)) {h : Heap} {a : (Option Tscansionref09_Alphabet × Int)} {y : Tscansionref09_Alphabet} (e : scansionref09_New t = some a) (hx : a.1 = some y) :
    Runs CT 33 [.cv (.val (.sl (List.map (eL eRange) t)))] h fun o h' => o = [.cv (.val (.ptr (some (h.n + 0, 0)))), .cv (.val (.int .i64 a.2))] ∧ h' = h.on [some (.cells [.val (.sl (List.map (eL eRange) y.Sets)), .val (.sl (List.map (eK .u64) y.M)), .val (.sl (List.map eI y.First))])] := by
  have := scansionref09_New_runs (h := h) t e
  rw [hx] at this
  exact this
end Go.Val

/- part JW38 -/
/- scansion/scansionref09.Same runs as it is read off. -/
namespace Go.Val
set_option linter.unusedVariables false
set_option linter.unusedSimpArgs false
set_option maxRecDepth 20000
open Go.Proofs
theorem scansionref09_Same_runs (a_ : List Int) (b : List Int) {h : Heap} {a : Bool} (e : scansionref09_Same a_ b = some a) :
    Runs CT 38 [.cv (.val (.sl (List.map (eK .u64) a_))), .cv (.val (.sl (List.map (eK .u64) b)))] h fun o h' => o = [.cv (.val (.bool a))] ∧ h' = h := by
  refine Runs.start Try.f38 _ Try.func38 rfl (by rw [Try.ntmps38]; simp) (by rfl) (by rfl) (fun hwf hu => ?_)
  obtain ⟨D, hD, hr⟩ : ∃ D : Bool → Prop, (∀ z, D z → z = a) ∧ Holds (scansionref09_Same a_ b) D := ⟨fun z => z = a, fun _ h => h, Holds.intro e rfl⟩
  dsimp only [scansionref09_Same] at hr
  change wpCode _ _ _ _ _ ⟨[(0, .cv (.val (.sl (List.map (eK .u64) a_)))), (1, .cv (.val (.sl (List.map (eK .u64) b))))], h.on []⟩
  refine w_seq ?_
  refine A_region ?_
  refine w_n ?_
  refine w_seq ?_
  refine w_seq ?_
  refine A_region ?_
  refine w_n ?_
  refine A_condH hr (fun cF1 hr => ?_) (fun cF1 hr => ?_)
  · refine w_seq ?_
    refine A_region ?_
    refine w_n ?_
    refine w_ret ?_
    obtain rfl := hD _ hr
    exact (w_tr (A_endR (A_cut (os' := []) (sl := [(4, .cv (.val (.bool false)))]) hwf) ⟨rfl, on_nil hwf⟩))
  · refine w_skip ?_
    refine w_n ?_
    refine w_seq ?_
    refine w_seq ?_
    refine A_region ?_
    refine w_n ?_
    refine w_K (D := D) (fun xX : Unit => ⟨[], h.on []⟩) (fun xX : Unit => scansionref09_Same.k1) (fun xX s' hr ht => ?_) ?_
    · dsimp only [scansionref09_Same.k1] at hr ht
      refine (w_nT ht ?_)
      refine w_seq ?_
      refine A_region ?_
      refine w_n ?_
      refine w_ret ?_
      obtain rfl := hD _ hr
      exact (A_endR (A_cut (os' := []) (sl := [(4, .cv (.val (.bool true)))]) hwf) ⟨rfl, on_nil hwf⟩)
    · refine w_block ?_
      refine w_Loop (fun xX : Int => ⟨[(0, .cv (.val (.sl (List.map (eK .u64) a_)))), (1, .cv (.val (.sl (List.map (eK .u64) b)))), (5, .cv (.val (.int .i64 xX)))], h.on []⟩) hr (A_cut hwf) (fun W1 xX hr => ?_)
      obtain ⟨i, rfl⟩ : ∃ z, z = xX := ⟨xX, rfl⟩
      dsimp only [scansionref09_Same.b1] at hr
      refine w_seq ?_
      refine w_seq ?_
      refine A_region ?_
      refine w_n ?_
      refine A_condH hr (fun cF2 hr => ?_) (fun cF2 hr => ?_)
      · refine w_skip ?_
        refine w_n ?_
        refine w_seq ?_
        refine w_block ?_
        refine w_seq ?_
        refine w_drawn [0, 1, 2, 3, 4, 5, 6, 7, 8] (by rfl) ?_
        obtain ⟨n, nF3, eF4, gF5, hr⟩ := hr.idx
        obtain ⟨n1, nF6, eF7, gF8, hr⟩ := hr.idx
        refine p_run (l := [0, 1, 2, 3, 4, 5, 6, 7, 8]) (pend' := [8, 7, 6, 5, 4, 3, 2, 1, 0]) (by simp (disch := (apply Apart.mk; decide)) only [go_sem, Nat.reduceAdd, Nat.reduceLT, Nat.reduceMul, Nat.reduceLeDiff, Int.reduceToNat, Int.reduceLT, Int.reduceLE, nF3, eF4, gF5, nF6, eF7, gF8]; rfl) rfl ?_
        refine p_end (by simp (disch := (apply Apart.mk; decide)) only [go_sem, Nat.reduceAdd, Nat.reduceLT, Nat.reduceMul, Nat.reduceLeDiff, Int.reduceToNat, Int.reduceLT, Int.reduceLE, nF3, eF4, gF5, nF6, eF7, gF8]) ?_
        refine w_n ?_
        refine A_condH hr (fun cF9 hr => ?_) (fun cF9 hr => ?_)
        · refine w_seq ?_
          refine A_region ?_
          refine w_n ?_
          refine w_ret ?_
          obtain rfl := hD _ hr
          exact (w_br (w_tr (w_tr (w_br (w_tr (w_tr (A_endR (A_cut (os' := []) (sl := [(4, .cv (.val (.bool false)))]) hwf) ⟨rfl, on_nil hwf⟩)))))))
        · refine w_skip ?_
          refine (w_bn (w_n ?_))
          refine A_region ?_
          exact (w_k ⟨(IntKind.i64.wrap (i + (1 : Int))), hr, (A_cut hwf)⟩)
      · refine w_exit ?_
        exact (w_te (w_te (w_bx (w_k ⟨(), (hr).map, (A_cut hwf)⟩))))
end Go.Val

/- part JW40 -/
/- (*scansion/alphabet.Alphabet).Word runs as it is read off. -/
namespace Go.Val
set_option linter.unusedVariables false
set_option linter.unusedSimpArgs false
set_option maxRecDepth 20000
open Go.Proofs
theorem alphabet_Alphabet_Word_runs (a_ : Talphabet_Alphabet) (l : List Int) (l0 : Nat) (l0p0 : Nat) {h : Heap} (ha0 : h.at_ l0 = some (.cells [.val (.ptr (some (l0p0, 0))), .val (.sl (List.map (eK .u64) a_.masks)), .val (.sl (List.map eI a_.least))])) (ha0p0 : h.at_ l0p0 = some (.cells (avals eU a_.trie.like ++ ([.val (.sl (List.map (eA eU) a_.trie.first))] : List CV)))) (hn0_0p0 : l0 ≠ l0p0) {a : List Int} (e : alphabet_Alphabet_Word a_ l = some a) :
    Runs CT 40 [.cv (.val (.ptr (some (l0, 0)))), .cv (.val (.sl (List.map eI l)))] h fun o h' => o = [.cv (.val (.sl (List.map (eK .u64) a)))] ∧ h' = h := by
  refine Runs.start Try.f40 _ Try.func40 rfl (by rw [Try.ntmps40]; simp) (by rfl) (by rfl) (fun hwf hu => ?_)
  have hl0 := (hwf _ _ ha0).1
  have kl0 := locF hl0
  have hl0p0 := (hwf _ _ ha0p0).1
  have kl0p0 := locF hl0p0
  obtain ⟨D, hD, hr⟩ : ∃ D : List Int → Prop, (∀ z, D z → z = a) ∧ Holds (alphabet_Alphabet_Word a_ l) D := ⟨fun z => z = a, fun _ h => h, Holds.intro e rfl⟩
  dsimp only [alphabet_Alphabet_Word] at hr
  change wpCode _ _ _ _ _ ⟨[(0, .cv (.val (.ptr (some (l0, 0))))), (1, .cv (.val (.sl (List.map eI l))))], h.on []⟩
  refine w_seq ?_
  refine A_region ?_
  refine w_n ?_
  refine w_seq ?_
  refine A_region ?_
  refine w_n ?_
  refine w_seq ?_
  refine w_seq ?_
  refine A_region ?_
  refine w_n ?_
  refine w_K (D := D) (fun xX : List Int => ⟨[(5, .cv (.row 49 (List.map (eK .u64) xX)))], h.on []⟩) (fun xX : List Int => alphabet_Alphabet_Word.k1 xX) (fun xX s' hr ht => ?_) ?_
  · obtain ⟨out, rfl⟩ : ∃ z, z = xX := ⟨xX, rfl⟩
    dsimp only [alphabet_Alphabet_Word.k1] at hr ht
    refine (w_nT ht ?_)
    refine w_seq ?_
    refine A_region ?_
    refine w_n ?_
    refine w_ret ?_
    obtain rfl := hD _ hr
    exact (A_endR (.fix _ _ (.slot 4) 49 _ (by simp (disch := (apply Apart.mk; decide)) only [go_sem, Nat.reduceAdd, Nat.reduceLT, Nat.reduceMul, Nat.reduceLeDiff, Int.reduceToNat, Int.reduceLT, Int.reduceLE, ha0, on_atB hl0, lt_add hl0, lt_at hl0, ha0p0, on_atB hl0p0, lt_add hl0p0, lt_at hl0p0]; rfl) (A_cut (os' := []) (sl := [(4, .cv (.val (.sl (List.map (eK .u64) out))))]) hwf)) ⟨rfl, on_nil hwf⟩)
  · refine w_block ?_
    refine w_Loop (fun xX : (List Int × Int) => ⟨[(0, .cv (.val (.ptr (some (l0, 0))))), (5, .cv (.row 49 (List.map (eK .u64) xX.1))), (8, .cv (.val (.sl (List.map eI l)))), (9, .cv (.val (.int .i64 (l.length : Int)))), (10, .cv (.val (.int .i64 xX.2)))], h.on []⟩) hr (A_cut hwf) (fun W1 xX hr => ?_)
    obtain ⟨out1, v⟩ := xX
    dsimp only [alphabet_Alphabet_Word.b1] at hr
    refine w_seq ?_
    refine A_region ?_
    refine w_n ?_
    refine w_seq ?_
    refine A_condH hr (fun cF1 hr => ?_) (fun cF1 hr => ?_)
    · refine w_skip ?_
      refine w_n ?_
      refine w_seq ?_
      refine w_block ?_
      refine w_seq ?_
      obtain ⟨n, nF2, eF3, gF4, hr⟩ := hr.idx
      refine A_region ?_
      refine w_n ?_
      refine A_ops ?_
      refine A_upto 4 ?_
      obtain ⟨r, eF5, hr⟩ := hr.bind
      refine A_call (out := ?o_eF5) (hp := ?p_eF5) ?c_eF5 ?d_eF5 ?_
      case c_eF5 => (refine alphabet_Alphabet_Of_runs a_ n (l0) (l0p0) ?_ ?_ ?_ eF5; (simp (disch := (apply Apart.mk; decide)) only [go_sem, Nat.reduceAdd, Nat.reduceLT, Nat.reduceMul, Nat.reduceLeDiff, Int.reduceToNat, Int.reduceLT, Int.reduceLE, ha0, on_atB hl0, lt_add hl0, lt_at hl0, ha0p0, on_atB hl0p0, lt_add hl0p0, lt_at hl0p0]); (simp (disch := (apply Apart.mk; decide)) only [go_sem, Nat.reduceAdd, Nat.reduceLT, Nat.reduceMul, Nat.reduceLeDiff, Int.reduceToNat, Int.reduceLT, Int.reduceLE, ha0, on_atB hl0, lt_add hl0, lt_at hl0, ha0p0, on_atB hl0p0, lt_add hl0p0, lt_at hl0p0]); (first | omega | assumption | exact Ne.symm (by assumption)))
      case d_eF5 => rfl
      obtain ⟨r1, eF6, hr⟩ := hr.bind
      refine A_call (out := ?o_eF6) (hp := ?p_eF6) ?c_eF6 ?d_eF6 ?_
      case c_eF6 => (refine alphabet_Alphabet_Mask_runs a_ r (l0) (l0p0) ?_ ?_ ?_ eF6; (simp (disch := (apply Apart.mk; decide)) only [go_sem, Nat.reduceAdd, Nat.reduceLT, Nat.reduceMul, Nat.reduceLeDiff, Int.reduceToNat, Int.reduceLT, Int.reduceLE, ha0, on_atB hl0, lt_add hl0, lt_at hl0, ha0p0, on_atB hl0p0, lt_add hl0p0, lt_at hl0p0]); (simp (disch := (apply Apart.mk; decide)) only [go_sem, Nat.reduceAdd, Nat.reduceLT, Nat.reduceMul, Nat.reduceLeDiff, Int.reduceToNat, Int.reduceLT, Int.reduceLE, ha0, on_atB hl0, lt_add hl0, lt_at hl0, ha0p0, on_atB hl0p0, lt_add hl0p0, lt_at hl0p0]); (first | omega | assumption | exact Ne.symm (by assumption)))
      case d_eF6 => rfl
      obtain ⟨nF7, hr⟩ := hr.room
      refine A_ops_end ?_
      refine (w_bn (w_n ?_))
      refine A_region ?_
      exact (w_k ⟨((out1 ++ ([r1])), (IntKind.i64.wrap (v + (1 : Int)))), hr, (A_cut hwf)⟩)
    · refine w_exit ?_
      exact (w_te (w_te (w_bx (w_k ⟨out1, (hr).map, (A_cut hwf)⟩))))
end Go.Val

/- part JW41 -/
/- (*scansion/scansionref09.Alphabet).Word runs as it is read off. -/
namespace Go.Val
set_option linter.unusedVariables false
set_option linter.unusedSimpArgs false
set_option maxRecDepth 20000
open Go.Proofs
theorem scansionref09_Alphabet_Word_runs (a_ : Tscansionref09_Alphabet) (l : List Int) (l0 : Nat) {h : Heap} (ha0 : h.at_ l0 = some (.cells [.val (.sl (List.map (eL eRange) a_.Sets)), .val (.sl (List.map (eK .u64) a_.M)), .val (.sl (List.map eI a_.First))])) {a : List Int} (e : scansionref09_Alphabet_Word a_ l = some a) :
    Runs CT 41 [.cv (.val (.ptr (some (l0, 0)))), .cv (.val (.sl (List.map eI l)))] h fun o h' => o = [.cv (.val (.sl (List.map (eK .u64) a)))] ∧ h' = h := by
  refine Runs.start Try.f41 _ Try.func41 rfl (by rw [Try.ntmps41]; simp) (by rfl) (by rfl) (fun hwf hu => ?_)
  have hl0 := (hwf _ _ ha0).1
  have kl0 := locF hl0
  obtain ⟨D, hD, hr⟩ : ∃ D : List Int → Prop, (∀ z, D z → z = a) ∧ Holds (scansionref09_Alphabet_Word a_ l) D := ⟨fun z => z = a, fun _ h => h, Holds.intro e rfl⟩
  dsimp only [scansionref09_Alphabet_Word] at hr
  change wpCode _ _ _ _ _ ⟨[(0, .cv (.val (.ptr (some (l0, 0))))), (1, .cv (.val (.sl (List.map eI l))))], h.on []⟩
  refine w_seq ?_
  refine A_region ?_
  refine w_n ?_
  refine w_seq ?_
  refine A_region ?_
  refine w_n ?_
  refine w_seq ?_
  refine w_seq ?_
  refine A_region ?_
  refine w_n ?_
  refine w_K (D := D) (fun xX : List Int => ⟨[(5, .cv (.row 49 (List.map (eK .u64) xX)))], h.on []⟩) (fun xX : List Int => scansionref09_Alphabet_Word.k1 xX) (fun xX s' hr ht => ?_) ?_
  · obtain ⟨out, rfl⟩ : ∃ z, z = xX := ⟨xX, rfl⟩
    dsimp only [scansionref09_Alphabet_Word.k1] at hr ht
    refine (w_nT ht ?_)
    refine w_seq ?_
    refine A_region ?_
    refine w_n ?_
    refine w_ret ?_
    obtain rfl := hD _ hr
    exact (A_endR (.fix _ _ (.slot 4) 49 _ (by simp (disch := (apply Apart.mk; decide)) only [go_sem, Nat.reduceAdd, Nat.reduceLT, Nat.reduceMul, Nat.reduceLeDiff, Int.reduceToNat, Int.reduceLT, Int.reduceLE, ha0, on_atB hl0, lt_add hl0, lt_at hl0]; rfl) (A_cut (os' := []) (sl := [(4, .cv (.val (.sl (List.map (eK .u64) out))))]) hwf)) ⟨rfl, on_nil hwf⟩)
  · refine w_block ?_
    refine w_Loop (fun xX : (List Int × Int) => ⟨[(0, .cv (.val (.ptr (some (l0, 0))))), (1, .cv (.val (.sl (List.map eI l)))), (5, .cv (.row 49 (List.map (eK .u64) xX.1))), (6, .cv (.val (.int .i64 xX.2)))], h.on []⟩) hr (A_cut hwf) (fun W1 xX hr => ?_)
    obtain ⟨out1, i⟩ := xX
    dsimp only [scansionref09_Alphabet_Word.b1] at hr
    refine w_seq ?_
    refine w_seq ?_
    refine A_region ?_
    refine w_n ?_
    refine A_condH hr (fun cF1 hr => ?_) (fun cF1 hr => ?_)
    · refine w_skip ?_
      refine w_n ?_
      refine w_seq ?_
      refine w_K (D := (Aft W1 D)) (fun xX : List Int => ⟨[(0, .cv (.val (.ptr (some (l0, 0))))), (1, .cv (.val (.sl (List.map eI l)))), (5, .cv (.row 49 (List.map (eK .u64) xX))), (6, .cv (.val (.int .i64 i)))], h.on []⟩) (fun xX : List Int => scansionref09_Alphabet_Word.k2 i xX) (fun xX s' hr ht => ?_) ?_
      · obtain ⟨out2, rfl⟩ : ∃ z, z = xX := ⟨xX, rfl⟩
        dsimp only [scansionref09_Alphabet_Word.k2] at hr ht
        refine (w_nT ht ?_)
        refine A_region ?_
        exact (w_k ⟨(out2, (IntKind.i64.wrap (i + (1 : Int)))), hr, (A_cut hwf)⟩)
      · refine w_block ?_
        obtain ⟨v, vF6, hr⟩ := hr.bind
        refine w_joinR (sj := ⟨[(0, .cv (.val (.ptr (some (l0, 0))))), (1, .cv (.val (.sl (List.map eI l)))), (5, .cv (.row 49 (List.map (eK .u64) out1))), (6, .cv (.val (.int .i64 i))), (24, .cv (.val (.bool v)))], h.on []⟩) (A_ops ?_) ?_
        · have hr := Holds.intro (D := fun z => z = v) vF6 rfl
          obtain ⟨n, nF2, eF3, gF4, hr⟩ := hr.idx
          refine A_upto 6 ?_
          rcases hr.ite with ⟨cF5, hr⟩ | ⟨cF5, hr⟩
          · refine A_ops_end ?_
            obtain rfl : _ = v := hr
            exact w_k (A_cut hwf)
          · refine A_ops_end ?_
            obtain rfl : _ = v := hr
            exact w_k (A_cut hwf)
        refine A_condH hr (fun cF7 hr => ?_) (fun cF7 hr => ?_)
        · obtain ⟨nF8, hr⟩ := hr.room
          refine A_region ?_
          exact (w_bn (w_k ⟨(out1 ++ ([(0 : Int)])), hr, (A_cut hwf)⟩))
        · refine w_drawn [0, 1, 2, 3, 4, 5, 6, 7, 8, 9, 10, 11, 12] (by rfl) ?_
          obtain ⟨n1, nF9, eF10, gF11, hr⟩ := hr.idx
          refine p_run (l := [0, 1, 2, 3, 4, 5, 6, 7, 8]) (pend' := [8, 7, 6, 5, 4, 3, 2, 1, 0]) (by simp (disch := (apply Apart.mk; decide)) only [go_sem, Nat.reduceAdd, Nat.reduceLT, Nat.reduceMul, Nat.reduceLeDiff, Int.reduceToNat, Int.reduceLT, Int.reduceLE, ha0, on_atB hl0, lt_add hl0, lt_at hl0, nF9, eF10, gF11]; rfl) rfl ?_
          obtain ⟨r, eF12, hr⟩ := hr.bind
          refine p_call (out := ?o_eF12) (hp := ?p_eF12) (pend' := [0]) rfl (by simp (disch := (apply Apart.mk; decide)) only [go_sem, Nat.reduceAdd, Nat.reduceLT, Nat.reduceMul, Nat.reduceLeDiff, Int.reduceToNat, Int.reduceLT, Int.reduceLE, ha0, on_atB hl0, lt_add hl0, lt_at hl0, Option.getD_some, nF9, eF10, gF11]) rfl (by simp (disch := (apply Apart.mk; decide)) only [go_sem, Nat.reduceAdd, Nat.reduceLT, Nat.reduceMul, Nat.reduceLeDiff, Int.reduceToNat, Int.reduceLT, Int.reduceLE, ha0, on_atB hl0, lt_add hl0, lt_at hl0, Option.getD_some, nF9, eF10, gF11]; rfl) (by simp (disch := (apply Apart.mk; decide)) only [go_sem, Nat.reduceAdd, Nat.reduceLT, Nat.reduceMul, Nat.reduceLeDiff, Int.reduceToNat, Int.reduceLT, Int.reduceLE, ha0, on_atB hl0, lt_add hl0, lt_at hl0, Option.getD_some, nF9, eF10, gF11]; rfl) (by simp (disch := (apply Apart.mk; decide)) only [go_sem, Nat.reduceAdd, Nat.reduceLT, Nat.reduceMul, Nat.reduceLeDiff, Int.reduceToNat, Int.reduceLT, Int.reduceLE, ha0, on_atB hl0, lt_add hl0, lt_at hl0, Option.getD_some, nF9, eF10, gF11]; rfl) (by rfl) ?c_eF12 ?d_eF12 ?_
          case c_eF12 => exact scansionref09_mask_runs a_.Sets n1 eF12
          case d_eF12 => rfl
          obtain ⟨nF13, hr⟩ := hr.room
          refine p_run (l := [10]) (pend' := [10, 0]) (by simp (disch := (apply Apart.mk; decide)) only [go_sem, Nat.reduceAdd, Nat.reduceLT, Nat.reduceMul, Nat.reduceLeDiff, Int.reduceToNat, Int.reduceLT, Int.reduceLE, ha0, on_atB hl0, lt_add hl0, lt_at hl0, nF9, eF10, gF11, nF13]; rfl) rfl ?_
          refine p_op (pend' := []) rfl (by simp (disch := (apply Apart.mk; decide)) only [go_sem, Nat.reduceAdd, Nat.reduceLT, Nat.reduceMul, Nat.reduceLeDiff, Int.reduceToNat, Int.reduceLT, Int.reduceLE, ha0, on_atB hl0, lt_add hl0, lt_at hl0, nF9, eF10, gF11, nF13]) (by simp (disch := (apply Apart.mk; decide)) only [go_sem, Nat.reduceAdd, Nat.reduceLT, Nat.reduceMul, Nat.reduceLeDiff, Int.reduceToNat, Int.reduceLT, Int.reduceLE, ha0, on_atB hl0, lt_add hl0, lt_at hl0, nF9, eF10, gF11, nF13]; rfl) (by rfl) ?_
          refine p_op (pend' := []) rfl (by simp (disch := (apply Apart.mk; decide)) only [go_sem, Nat.reduceAdd, Nat.reduceLT, Nat.reduceMul, Nat.reduceLeDiff, Int.reduceToNat, Int.reduceLT, Int.reduceLE, ha0, on_atB hl0, lt_add hl0, lt_at hl0, nF9, eF10, gF11, nF13]) (by simp (disch := (apply Apart.mk; decide)) only [go_sem, Nat.reduceAdd, Nat.reduceLT, Nat.reduceMul, Nat.reduceLeDiff, Int.reduceToNat, Int.reduceLT, Int.reduceLE, ha0, on_atB hl0, lt_add hl0, lt_at hl0, nF9, eF10, gF11, nF13]; rfl) (by rfl) ?_
          refine p_end (by simp (disch := (apply Apart.mk; decide)) only [go_sem, Nat.reduceAdd, Nat.reduceLT, Nat.reduceMul, Nat.reduceLeDiff, Int.reduceToNat, Int.reduceLT, Int.reduceLE, ha0, on_atB hl0, lt_add hl0, lt_at hl0, nF9, eF10, gF11, nF13]) ?_
          exact (w_bn (w_k ⟨(out1 ++ ([r])), hr, (A_cut hwf)⟩))
    · refine w_exit ?_
      exact (w_te (w_te (w_bx (w_k ⟨out1, (hr).map, (A_cut hwf)⟩))))
end Go.Val

/- part JW13 -/
/- scansion/scansionlaw09.AlphabetWords runs as it is read off. -/
namespace Go.Val
set_option linter.unusedVariables false
set_option linter.unusedSimpArgs false
set_option maxRecDepth 20000
open Go.Proofs
theorem scansionlaw09_AlphabetWords_runs (l : List (List TRange)) (r : List Int) {h : Heap} {a : Bool} (e : scansionlaw09_AlphabetWords l r = some a) :
    Runs CT 13 [.cv (.val (.sl (List.map (eL eRange) l))), .cv (.val (.sl (List.map eI r)))] h fun o h' => o = [.cv (.val (.bool a))] ∧ h' = h := by
  refine Runs.start Try.f13 _ Try.func13 rfl (by rw [Try.ntmps13]; simp) (by rfl) (by rfl) (fun hwf hu => ?_)
  obtain ⟨D, hD, hr⟩ : ∃ D : Bool → Prop, (∀ z, D z → z = a) ∧ Holds (scansionlaw09_AlphabetWords l r) D := ⟨fun z => z = a, fun _ h => h, Holds.intro e rfl⟩
  dsimp only [scansionlaw09_AlphabetWords] at hr
  change wpCode _ _ _ _ _ ⟨[(0, .cv (.val (.sl (List.map (eL eRange) l)))), (1, .cv (.val (.sl (List.map eI r))))], h.on []⟩
  refine w_seq ?_
  refine A_region ?_
  refine w_n ?_
  refine w_seq ?_
  refine A_ops ?_
  obtain ⟨r1, eF1, hr⟩ := hr.bind
  refine A_call (out := ?o_eF1) (hp := ?p_eF1) ?c_eF1 ?d_eF1 ?_
  case c_eF1 => exact scansionlaw09_awake_runs  eF1
  case d_eF1 => rfl
  refine A_ops_end ?_
  refine w_n ?_
  refine w_seq ?_
  refine A_ops ?_
  refine A_upto 1 ?_
  obtain ⟨r2, eF2, hr⟩ := hr.bind
  refine A_call (out := ?o_eF2) (hp := ?p_eF2) ?c_eF2 ?d_eF2 ?_
  case c_eF2 => exact scansionlaw09_few_runs l eF2
  case d_eF2 => rfl
  refine A_ops_end ?_
  refine w_n ?_
  refine w_seq ?_
  refine w_joinR (sj := ⟨[(0, .cv (.val (.sl (List.map (eL eRange) l)))), (1, .cv (.val (.sl (List.map eI r)))), (5, .cv (.val (.bool r1))), (25, .cv (.val (.bool ((!r1) || ((!r2) || (decide ((r.length : Int) > (300 : Int))))))))], h.on []⟩) (A_ops ?_) ?_
  · refine A_upto 3 ?_
    rcases Bool.eq_false_or_eq_true (!r1) with cF3 | cF3
    · refine A_ops_end ?_
      exact w_k (A_cut hwf)
    · refine A_upto 4 ?_
      rcases Bool.eq_false_or_eq_true (!r2) with cF4 | cF4
      · refine A_ops_end ?_
        exact w_k (A_cut hwf)
      · refine A_ops_end ?_
        exact w_k (A_cut hwf)
  refine A_condH hr (fun cF5 hr => ?_) (fun cF5 hr => ?_)
  · refine w_seq ?_
    refine A_region ?_
    refine w_n ?_
    refine w_ret ?_
    obtain rfl := hD _ hr
    exact (w_tr (A_endR (A_cut (os' := []) (sl := [(4, .cv (.val (.bool r1)))]) hwf) ⟨rfl, on_nil hwf⟩))
  · refine w_skip ?_
    refine w_n ?_
    refine w_seq ?_
    refine A_ops ?_
    refine A_upto 1 ?_
    obtain ⟨r3, eF6, hr⟩ := hr.bind
    refine A_call (out := ?o_eF6) (hp := ?p_eF6) ?c_eF6 ?d_eF6 ?_
    case c_eF6 => exact scansionlaw09_sets_runs l eF6
    case d_eF6 => rfl
    refine A_ops_end ?_
    refine w_n ?_
    refine w_seq ?_
    refine A_ops ?_
    refine A_upto 1 ?_
    obtain ⟨r4, eF7, hr⟩ := hr.bind
    try dsimp only at hr
    rcases xF24 : r4.1 with _ | y
    · rw [xF24] at hr
      dsimp only at hr
      refine A_call (out := ?o_eF7a) (hp := ?p_eF7a) ?c_eF7a ?d_eF7a ?_
      case c_eF7a => exact alphabet_New_runs_none r3 eF7 xF24
      case d_eF7a => rfl
      refine A_ops_end ?_
      refine w_n ?_
      refine w_seq ?_
      refine A_ops ?_
      refine A_upto 1 ?_
      obtain ⟨r5, eF8, hr⟩ := hr.bind
      try dsimp only at hr
      rcases xF13 : r5.1 with _ | y1
      · rw [xF13] at hr
        dsimp only at hr
        refine A_call (out := ?o_eF8a) (hp := ?p_eF8a) ?c_eF8a ?d_eF8a ?_
        case c_eF8a => exact scansionref09_New_runs_none r3 eF8 xF13
        case d_eF8a => rfl
        refine A_ops_end ?_
        refine w_n ?_
        refine w_seq ?_
        refine w_joinR (sj := ⟨[(1, .cv (.val (.sl (List.map eI r)))), (8, .cv (.val (.ptr none))), (9, .cv (.val (.int .i64 r4.2))), (10, .cv (.val (.ptr none))), (11, .cv (.val (.int .i64 r5.2))), (44, .cv (.val (.bool true)))], h.on []⟩) (A_ops ?_) ?_
        · refine A_upto 3 ?_
          rcases Bool.eq_false_or_eq_true (r4.2 != (0 : Int)) with cF9 | cF9
          · refine A_ops_end ?_
            exact w_k (A_cut hwf)
          · refine A_ops_end ?_
            exact w_k (A_cut hwf)
        refine A_cond true (fun _ => ?_) (fun cF10 => by cases cF10)
        refine w_seq ?_
        refine A_region ?_
        refine w_n ?_
        refine w_ret ?_
        obtain rfl := hD _ hr
        exact (w_tr (A_endR (A_cut (os' := []) (sl := [(4, .cv (.val (.bool (r4.2 == r5.2))))]) hwf) ⟨rfl, on_nil hwf⟩))
      · rw [xF13] at hr
        dsimp only at hr
        refine A_call (out := ?o_eF8b) (hp := ?p_eF8b) ?c_eF8b ?d_eF8b ?_
        case c_eF8b => exact scansionref09_New_runs_some r3 eF8 xF13
        case d_eF8b => rfl
        refine A_ops_end ?_
        refine w_n ?_
        refine w_seq ?_
        refine w_joinR (sj := ⟨[(1, .cv (.val (.sl (List.map eI r)))), (8, .cv (.val (.ptr none))), (9, .cv (.val (.int .i64 r4.2))), (10, .cv (.val (.ptr (some (h.n + 0, 0))))), (11, .cv (.val (.int .i64 r5.2))), (44, .cv (.val (.bool true)))], h.on [some (.cells [.val (.sl (List.map (eL eRange) y1.Sets)), .val (.sl (List.map (eK .u64) y1.M)), .val (.sl (List.map eI y1.First))])]⟩) (A_ops ?_) ?_
        · refine A_upto 3 ?_
          rcases Bool.eq_false_or_eq_true (r4.2 != (0 : Int)) with cF11 | cF11
          · refine A_ops_end ?_
            exact w_k (A_cut hwf)
          · refine A_ops_end ?_
            exact w_k (A_cut hwf)
        refine A_cond true (fun _ => ?_) (fun cF12 => by cases cF12)
        refine w_seq ?_
        refine A_region ?_
        refine w_n ?_
        refine w_ret ?_
        obtain rfl := hD _ hr
        exact (w_tr (A_endR (A_cut (os' := []) (sl := [(4, .cv (.val (.bool (r4.2 == r5.2))))]) hwf) ⟨rfl, on_nil hwf⟩))
    · rw [xF24] at hr
      dsimp only at hr
      refine A_call (out := ?o_eF7b) (hp := ?p_eF7b) ?c_eF7b ?d_eF7b ?_
      case c_eF7b => exact alphabet_New_runs_some r3 eF7 xF24
      case d_eF7b => rfl
      refine A_ops_end ?_
      refine w_n ?_
      refine w_seq ?_
      refine A_ops ?_
      refine A_upto 1 ?_
      obtain ⟨r6, eF14, hr⟩ := hr.bind
      try dsimp only at hr
      rcases xF23 : r6.1 with _ | y2
      · rw [xF23] at hr
        dsimp only at hr
        refine A_call (out := ?o_eF14a) (hp := ?p_eF14a) ?c_eF14a ?d_eF14a ?_
        case c_eF14a => exact scansionref09_New_runs_none r3 eF14 xF23
        case d_eF14a => rfl
        refine A_ops_end ?_
        refine w_n ?_
        refine w_seq ?_
        refine w_joinR (sj := ⟨[(1, .cv (.val (.sl (List.map eI r)))), (8, .cv (.val (.ptr (some (h.n + 0, 0))))), (9, .cv (.val (.int .i64 r4.2))), (10, .cv (.val (.ptr none))), (11, .cv (.val (.int .i64 r6.2))), (44, .cv (.val (.bool (r4.2 != (0 : Int)))))], h.on [some (.cells [.val (.ptr (some (h.n + 1, 0))), .val (.sl (List.map (eK .u64) y.masks)), .val (.sl (List.map eI y.least))]), some (.cells (avals eU y.trie.like ++ ([.val (.sl (List.map (eA eU) y.trie.first))] : List CV)))]⟩) (A_ops ?_) ?_
        · refine A_upto 3 ?_
          rcases Bool.eq_false_or_eq_true (r4.2 != (0 : Int)) with cF15 | cF15
          · refine A_ops_end ?_
            exact w_k (A_cut hwf)
          · refine A_ops_end ?_
            exact w_k (A_cut hwf)
        refine A_condH hr (fun cF16 hr => ?_) (fun cF16 hr => ?_)
        · refine w_seq ?_
          refine A_region ?_
          refine w_n ?_
          refine w_ret ?_
          obtain rfl := hD _ hr
          exact (w_tr (A_endR (A_cut (os' := []) (sl := [(4, .cv (.val (.bool (r4.2 == r6.2))))]) hwf) ⟨rfl, on_nil hwf⟩))
        · refine w_skip ?_
          refine w_n ?_
          refine w_seq ?_
          obtain ⟨r7, eF17, hr⟩ := hr.bind
          exact hr.elim
      · rw [xF23] at hr
        dsimp only at hr
        refine A_call (out := ?o_eF14b) (hp := ?p_eF14b) ?c_eF14b ?d_eF14b ?_
        case c_eF14b => exact scansionref09_New_runs_some r3 eF14 xF23
        case d_eF14b => rfl
        refine A_ops_end ?_
        refine w_n ?_
        refine w_seq ?_
        refine w_joinR (sj := ⟨[(1, .cv (.val (.sl (List.map eI r)))), (8, .cv (.val (.ptr (some (h.n + 0, 0))))), (9, .cv (.val (.int .i64 r4.2))), (10, .cv (.val (.ptr (some (h.n + 2, 0))))), (11, .cv (.val (.int .i64 r6.2))), (44, .cv (.val (.bool (r4.2 != (0 : Int)))))], h.on [some (.cells [.val (.ptr (some (h.n + 1, 0))), .val (.sl (List.map (eK .u64) y.masks)), .val (.sl (List.map eI y.least))]), some (.cells (avals eU y.trie.like ++ ([.val (.sl (List.map (eA eU) y.trie.first))] : List CV))), some (.cells [.val (.sl (List.map (eL eRange) y2.Sets)), .val (.sl (List.map (eK .u64) y2.M)), .val (.sl (List.map eI y2.First))])]⟩) (A_ops ?_) ?_
        · refine A_upto 3 ?_
          rcases Bool.eq_false_or_eq_true (r4.2 != (0 : Int)) with cF18 | cF18
          · refine A_ops_end ?_
            exact w_k (A_cut hwf)
          · refine A_ops_end ?_
            exact w_k (A_cut hwf)
        refine A_condH hr (fun cF19 hr => ?_) (fun cF19 hr => ?_)
        · refine w_seq ?_
          refine A_region ?_
          refine w_n ?_
          refine w_ret ?_
          obtain rfl := hD _ hr
          exact (w_tr (A_endR (A_cut (os' := []) (sl := [(4, .cv (.val (.bool (r4.2 == r6.2))))]) hwf) ⟨rfl, on_nil hwf⟩))
        · refine w_skip ?_
          refine w_n ?_
          refine w_seq ?_
          refine A_ops ?_
          refine A_upto 2 ?_
          obtain ⟨r8, eF20, hr⟩ := hr.bind
          refine A_call (out := ?o_eF20) (hp := ?p_eF20) ?c_eF20 ?d_eF20 ?_
          case c_eF20 => (refine alphabet_Alphabet_Word_runs y r (h.n + 0) (h.n + 1) ?_ ?_ ?_ eF20; (simp (disch := (apply Apart.mk; decide)) only [go_sem, Nat.reduceAdd, Nat.reduceLT, Nat.reduceMul, Nat.reduceLeDiff, Int.reduceToNat, Int.reduceLT, Int.reduceLE]); (simp (disch := (apply Apart.mk; decide)) only [go_sem, Nat.reduceAdd, Nat.reduceLT, Nat.reduceMul, Nat.reduceLeDiff, Int.reduceToNat, Int.reduceLT, Int.reduceLE]); (first | omega | assumption | exact Ne.symm (by assumption)))
          case d_eF20 => rfl
          refine A_upto 2 ?_
          obtain ⟨r9, eF21, hr⟩ := hr.bind
          refine A_call (out := ?o_eF21) (hp := ?p_eF21) ?c_eF21 ?d_eF21 ?_
          case c_eF21 => (refine scansionref09_Alphabet_Word_runs y2 r (h.n + 2) ?_ eF21; (simp (disch := (apply Apart.mk; decide)) only [go_sem, Nat.reduceAdd, Nat.reduceLT, Nat.reduceMul, Nat.reduceLeDiff, Int.reduceToNat, Int.reduceLT, Int.reduceLE]))
          case d_eF21 => rfl
          obtain ⟨r10, eF22, hr⟩ := hr.bind
          refine A_call (out := ?o_eF22) (hp := ?p_eF22) ?c_eF22 ?d_eF22 ?_
          case c_eF22 => exact scansionref09_Same_runs r8 r9 eF22
          case d_eF22 => rfl
          refine A_ops_end ?_
          refine w_n ?_
          refine w_ret ?_
          obtain rfl := hD _ hr
          exact (A_endR (A_cut (os' := []) (sl := [(4, .cv (.val (.bool r10)))]) hwf) ⟨rfl, on_nil hwf⟩)
end Go.Val

/- part P1 -/
/- Plain lemmas: loops that are read off. -/
namespace Go.Val
set_option linter.unusedVariables false

theorem w64 {n : Int} (h1 : -9223372036854775808 ≤ n) (h2 : n ≤ 9223372036854775807) : IntKind.i64.wrap n = n := by rw [IntKind.wrap_i64]; omega
theorem w64s {i : Nat} (h : i < 9223372036854775807) : IntKind.i64.wrap ((i : Int) + 1) = ((i + 1 : Nat) : Int) := by rw [w64 (by omega) (by omega)]; omega
theorem idx_nat {α : Type} {xs : List α} {i : Nat} : idx xs (i : Int) = xs[i]? := by
  unfold idx; rw [if_neg (by omega)]; simp
theorem room_ok {sz n : Nat} (h : n * sz ≤ 140737488355328) : room sz n = some () := by
  unfold room roomOf; rw [if_pos h]
theorem mk_ok {α : Type} {sz : Nat} {z : α} {n : Nat} (h : n * sz ≤ 140737488355328) : mk sz z (n : Int) = some (List.replicate n z) := by
  unfold mk roomOf; rw [if_pos ⟨by omega, by simpa using h⟩]; simp

theorem snoc_ind {α : Type} {P : List α → Prop} (h0 : P []) (h1 : ∀ l x, P l → P (l ++ [x])) (l : List α) : P l := by
  have key : ∀ l : List α, P l.reverse := by
    intro l
    induction l with
    | nil => exact h0
    | cons x l ih => rw [List.reverse_cons]; exact h1 _ _ ih
  have := key l.reverse
  rwa [List.reverse_reverse] at this
/-- Rounds that go on, one by one. -/
theorem Loop_run {σ ρ : Type} {b : σ → Option (Step σ ρ)} (st : Nat → σ) {i n : Nat} (hin : i ≤ n) (h : ∀ j, i ≤ j → j < n → b (st j) = some (.next (st (j + 1)))) : Loop b (st i) = Loop b (st n) := by
  induction n with
  | zero => obtain rfl : i = 0 := by omega
            rfl
  | succ n ih =>
    by_cases e : i = n + 1
    · rw [e]
    · rw [ih (by omega) fun j h1 h2 => h j h1 (by omega)]
      exact Loop_next (h n (by omega) (by omega))
theorem Loop_int {ρ : Type} {b : Int → Option (Step Int ρ)} {i n : Nat} (hin : i ≤ n) (h : ∀ j : Nat, i ≤ j → j < n → b j = some (.next ((j + 1 : Nat) : Int))) : Loop b (i : Int) = Loop b (n : Int) := Loop_run (fun j : Nat => (j : Int)) hin h
/-- A loop's end. -/
theorem Loop_end {σ ρ : Type} {b : σ → Option (Step σ ρ)} {s : σ} {R : Option ρ} (h : b s = R.map Step.done) : Loop b s = R := by
  cases R with
  | some r => exact Loop_done h
  | none =>
    apply Option.ext_some
    · intro r hr
      obtain ⟨n, hn⟩ := Loop_get hr
      cases n with
      | zero => simp [rounds] at hn
      | succ n => simp [rounds, h] at hn
    · intro r hr; cases hr
open Classical in
/-- A loop that looks for what is bad. -/
theorem Loop_all {ρ : Type} {b : Int → Option (Step Int ρ)} (P : Nat → Prop) {n : Nat} {r R : ρ} (hg : ∀ j, j < n → P j → b (j : Int) = some (.next ((j + 1 : Nat) : Int))) (hb : ∀ j, j < n → ¬ P j → b (j : Int) = some (.done r)) (he : b (n : Int) = some (.done R)) :
    ∀ (d i : Nat), i + d = n → Loop b (i : Int) = if ∀ j, i ≤ j → j < n → P j then some R else some r := by
  intro d
  induction d with
  | zero =>
    intro i hi
    obtain rfl : i = n := by omega
    rw [if_pos (fun j h1 h2 => by omega)]
    exact Loop_done he
  | succ d ih =>
    intro i hi
    by_cases hp : P i
    · rw [Loop_next (hg i (by omega) hp), ih (i + 1) (by omega)]
      have : (∀ j, i + 1 ≤ j → j < n → P j) ↔ ∀ j, i ≤ j → j < n → P j := by
        constructor
        · intro h j h1 h2
          by_cases e : j = i
          · rw [e]; exact hp
          · exact h j (by omega) h2
        · intro h j h1 h2; exact h j (by omega) h2
      simp only [this]
    · rw [Loop_done (hb i (by omega) hp), if_neg (fun h => hp (h i (Nat.le_refl _) (by omega)))]
theorem Loop_all0 {ρ : Type} {b : Int → Option (Step Int ρ)} (P : Nat → Prop) (n : Nat) {r R : ρ} (hg : ∀ j, j < n → P j → b (j : Int) = some (.next ((j + 1 : Nat) : Int))) (hb : ∀ j, j < n → ¬ P j → b (j : Int) = some (.done r)) (he : b (n : Int) = some (.done R)) :
    ((∀ j, j < n → P j) → Loop b 0 = some R) ∧ ((¬ ∀ j, j < n → P j) → Loop b 0 = some r) := by
  have := Loop_all P hg hb he n 0 (by omega)
  exact ⟨fun h => by rw [if_pos (fun j _ hj => h j hj)] at this; exact this, fun h => by rw [if_neg (fun h' => h fun j hj => h' j (Nat.zero_le _) hj)] at this; exact this⟩
end Go.Val

/- part Q1j -/
/- Plain lemmas: ranges, and the one list of ranges that a set has. -/
namespace Go.Val
set_option linter.unusedVariables false
/-- A loop with an end: what is known at its head, what grows less, what is known of its end. -/
theorem Loop_spec {σ ρ : Type} {body : σ → Option (Step σ ρ)} {Q : ρ → Prop} (I : σ → Prop) (μ : σ → Nat)
    (h : ∀ s, I s → (∃ s', body s = some (.next s') ∧ I s' ∧ μ s' < μ s) ∨ (∃ r, body s = some (.done r) ∧ Q r)) : ∀ s, I s → ∃ r, Loop body s = some r ∧ Q r := by
  have key : ∀ (n : Nat) (s : σ), μ s = n → I s → ∃ r, Loop body s = some r ∧ Q r := by
    intro n
    induction n using Nat.strongRecOn with
    | _ n ih =>
      intro s hn hs
      rcases h s hs with ⟨s', h1, h2, h3⟩ | ⟨r, h1, h2⟩
      · rw [Loop_next h1]
        exact ih _ (by omega) s' rfl h2
      · exact ⟨r, Loop_done h1, h2⟩
  intro s hs
  exact key _ s rfl hs

/-- A number is in one of the ranges. -/
def In (a : List TRange) (r : Int) : Prop := ∃ x ∈ a, x.Low ≤ r ∧ r ≤ x.High
def Ok (x : TRange) : Prop := 0 ≤ x.Low ∧ x.Low ≤ x.High ∧ x.High ≤ 1114111
/-- Ranges that rise and don't touch. -/
def Norm (a : List TRange) : Prop := (∀ x ∈ a, Ok x) ∧ a.Pairwise (fun x y => x.High + 1 < y.Low)
theorem In_nil {r : Int} : ¬ In [] r := by rintro ⟨x, h, _⟩; cases h
theorem In_cons {x : TRange} {l : List TRange} {r : Int} : In (x :: l) r ↔ (x.Low ≤ r ∧ r ≤ x.High) ∨ In l r := by
  simp only [In, List.mem_cons]
  constructor
  · rintro ⟨y, rfl | h, hy⟩
    · exact .inl hy
    · exact .inr ⟨y, h, hy⟩
  · rintro (h | ⟨y, h, hy⟩)
    · exact ⟨x, .inl rfl, h⟩
    · exact ⟨y, .inr h, hy⟩
theorem In_append {l m : List TRange} {r : Int} : In (l ++ m) r ↔ In l r ∨ In m r := by
  simp only [In, List.mem_append]
  constructor
  · rintro ⟨y, h | h, hy⟩
    · exact .inl ⟨y, h, hy⟩
    · exact .inr ⟨y, h, hy⟩
  · rintro (⟨y, h, hy⟩ | ⟨y, h, hy⟩)
    · exact ⟨y, .inl h, hy⟩
    · exact ⟨y, .inr h, hy⟩
theorem In_one {x : TRange} {r : Int} : In [x] r ↔ x.Low ≤ r ∧ r ≤ x.High := by
  rw [In_cons]
  exact ⟨fun h => h.elim id fun h => absurd h In_nil, .inl⟩
theorem In_perm {l m : List TRange} (h : l.Perm m) {r : Int} : In l r ↔ In m r := by
  simp only [In, h.mem_iff]
theorem Norm_nil : Norm [] := ⟨fun x h => (by cases h), .nil⟩
theorem Norm_cons {x : TRange} {l : List TRange} : Norm (x :: l) ↔ Ok x ∧ (∀ y ∈ l, x.High + 1 < y.Low) ∧ Norm l := by
  simp only [Norm, List.mem_cons, forall_eq_or_imp, List.pairwise_cons]
  constructor
  · rintro ⟨⟨h1, h2⟩, h3, h4⟩; exact ⟨h1, h3, h2, h4⟩
  · rintro ⟨h1, h3, h2, h4⟩; exact ⟨⟨h1, h2⟩, h3, h4⟩
theorem Norm_snoc {x : TRange} {l : List TRange} : Norm (l ++ [x]) ↔ Norm l ∧ Ok x ∧ ∀ y ∈ l, y.High + 1 < x.Low := by
  simp only [Norm, List.mem_append, List.mem_singleton, List.pairwise_append]
  constructor
  · rintro ⟨h1, h2, h3, h4⟩
    exact ⟨⟨fun y hy => h1 y (.inl hy), h2⟩, h1 x (.inr rfl), fun y hy => h4 y hy x rfl⟩
  · rintro ⟨⟨h1, h2⟩, h3, h4⟩
    refine ⟨fun y hy => ?_, h2, List.pairwise_singleton _ _, fun y hy z hz => ?_⟩
    · rcases hy with hy | rfl
      · exact h1 y hy
      · exact h3
    · subst hz; exact h4 y hy
theorem Norm.bound {a : List TRange} (h : Norm a) {r : Int} (hr : In a r) : 0 ≤ r ∧ r ≤ 1114111 := by
  obtain ⟨x, hx, h1, h2⟩ := hr
  have := h.1 x hx
  unfold Ok at this
  omega
theorem In_low {a : List TRange} (h : Norm a) {x : TRange} (hx : x ∈ a) : In a x.Low := ⟨x, hx, Int.le_refl _, (h.1 x hx).2.1⟩
theorem In_high {a : List TRange} (h : Norm a) {x : TRange} (hx : x ∈ a) : In a x.High := ⟨x, hx, (h.1 x hx).2.1, Int.le_refl _⟩
/-- A set has one list of ranges. -/
theorem Norm.unique : ∀ {a b : List TRange}, Norm a → Norm b → (∀ r, In a r ↔ In b r) → a = b
  | [], [], _, _, _ => rfl
  | [], y :: m, _, hb, h => absurd ((h y.Low).2 (In_low hb (by simp))) In_nil
  | x :: l, [], ha, _, h => absurd ((h x.Low).1 (In_low ha (by simp))) In_nil
  | x :: l, y :: m, ha, hb, h => by
    have ha' := Norm_cons.1 ha
    have hb' := Norm_cons.1 hb
    have hxo := ha'.1
    have hyo := hb'.1
    unfold Ok at hxo hyo
    have low : ∀ {x : TRange} {l : List TRange}, Norm (x :: l) → ∀ {r : Int}, In (x :: l) r → x.Low ≤ r := fun {x l} hn {r} hr => by
      have hn' := Norm_cons.1 hn
      have ho := hn'.1
      unfold Ok at ho
      rcases In_cons.1 hr with h | ⟨z, hz, h1, h2⟩
      · exact h.1
      · have := hn'.2.1 z hz; omega
    have next : ∀ {x : TRange} {l : List TRange}, Norm (x :: l) → ¬ In (x :: l) (x.High + 1) := fun {x l} hn hr => by
      have hn' := Norm_cons.1 hn
      rcases In_cons.1 hr with h | ⟨z, hz, h1, h2⟩
      · omega
      · have := hn'.2.1 z hz; omega
    have e1 : x.Low = y.Low := by
      have h1 := low hb ((h x.Low).1 (In_low ha (by simp)))
      have h2 := low ha ((h y.Low).2 (In_low hb (by simp)))
      omega
    have e2 : x.High = y.High := by
      have h1 : ¬ x.High < y.High := fun hlt => next ha ((h _).2 (In_cons.2 (.inl ⟨by omega, by omega⟩)))
      have h2 : ¬ y.High < x.High := fun hlt => next hb ((h _).1 (In_cons.2 (.inl ⟨by omega, by omega⟩)))
      omega
    have e : x = y := by cases x; cases y; simp_all
    subst e
    rw [Norm.unique ha'.2.2 hb'.2.2 fun r => ?_]
    constructor
    · intro hr
      rcases In_cons.1 ((h r).1 (In_cons.2 (.inr hr))) with h1 | h1
      · obtain ⟨z, hz, k1, k2⟩ := hr
        have := ha'.2.1 z hz; omega
      · exact h1
    · intro hr
      rcases In_cons.1 ((h r).2 (In_cons.2 (.inr hr))) with h1 | h1
      · obtain ⟨z, hz, k1, k2⟩ := hr
        have := hb'.2.1 z hz; omega
      · exact h1
theorem mx_ge {a b : Int} : a ≤ mx a b ∧ b ≤ mx a b := by unfold mx; split <;> omega
theorem mx_le {a b c : Int} (h1 : a ≤ c) (h2 : b ≤ c) : mx a b ≤ c := by unfold mx; split <;> omega
theorem mx_or {a b : Int} : mx a b = a ∨ mx a b = b := by unfold mx; split <;> simp
theorem len_pred {n : Nat} (h : n < 9223372036854775807) : IntKind.i64.wrap (((n + 1 : Nat) : Int) - 1) = n := by rw [w64 (by omega) (by omega)]; omega
/-- A range is put behind ranges. -/
theorem put_spec {out : List TRange} {x : TRange} (hn : Norm out) (hx : Ok x) (hl : ∀ y ∈ out, y.Low ≤ x.Low) (hlen : (out.length + 1) * 16 ≤ 140737488355328) :
    ∃ out', ranges_put out x = some out' ∧ Norm out' ∧ (∀ r, In out' r ↔ In out r ∨ (x.Low ≤ r ∧ r ≤ x.High)) ∧ out'.length ≤ out.length + 1 ∧ ∀ y ∈ out', y.Low ≤ x.Low := by
  have hxo := hx
  unfold Ok at hxo
  rcases List.eq_nil_or_concat out with rfl | ⟨init, y, rfl⟩
  · refine ⟨[x], ?_, Norm_snoc (l := []).2 ⟨Norm_nil, hx, fun y h => by cases h⟩, fun r => ?_, by simp, fun y hy => ?_⟩
    · unfold ranges_put
      rw [if_neg (by simp), Option.bind_some, if_neg (by simp), room_ok (by simp), Option.bind_some]; rfl
    · rw [In_one]; exact ⟨.inr, fun h => h.elim (fun h => absurd h In_nil) id⟩
    · simp at hy; subst hy; omega
  · rw [List.concat_eq_append] at *
    have hlen' : (init ++ [y]).length = init.length + 1 := by simp
    obtain ⟨n1, n2, n3⟩ := Norm_snoc.1 hn
    have hyo := n2
    unfold Ok at hyo
    have hyl := hl y (by simp)
    have hi : (init ++ [y])[init.length]? = some y := by simp
    have hbig : init.length < 9223372036854775807 := by rw [hlen'] at hlen; omega
    have hw : IntKind.i64.wrap (((init ++ [y]).length : Int) - 1) = (init.length : Int) := by rw [hlen']; exact len_pred hbig
    have hcond : (if (decide (((init ++ [y]).length : Int) > (0 : Int))) then
      (idx (init ++ [y]) (IntKind.i64.wrap (((init ++ [y]).length : Int) - (1 : Int)))).bind fun x1 =>
      some (decide (x.Low ≤ (IntKind.i64.wrap (x1.High + (1 : Int)))))
    else
      some false) = some (decide (x.Low ≤ y.High + 1)) := by
      rw [if_pos (by simp), hw, idx_nat, hi, Option.bind_some, w64 (by omega) (by omega)]
    by_cases hc : x.Low ≤ y.High + 1
    · refine ⟨init ++ [⟨y.Low, mx y.High x.High⟩], ?_, Norm_snoc.2 ⟨n1, ⟨(show 0 ≤ y.Low by omega), ?_, mx_le (by omega) (by omega)⟩, n3⟩, fun r => ?_, by simp, fun z hz => ?_⟩
      · unfold ranges_put
        rw [hcond, Option.bind_some, if_pos (by simpa using hc), hw, idx_nat, hi, Option.bind_some]
        try simp
      · have := (mx_ge (a := y.High) (b := x.High)).1
        show y.Low ≤ mx y.High x.High
        omega
      · rw [In_append, In_append, In_one, In_one]
        have h1 := mx_ge (a := y.High) (b := x.High)
        have h2 := mx_or (a := y.High) (b := x.High)
        show In init r ∨ (y.Low ≤ r ∧ r ≤ mx y.High x.High) ↔ (In init r ∨ (y.Low ≤ r ∧ r ≤ y.High)) ∨ (x.Low ≤ r ∧ r ≤ x.High)
        constructor
        · rintro (h | ⟨h3, h4⟩)
          · exact .inl (.inl h)
          · by_cases h5 : r ≤ y.High
            · exact .inl (.inr ⟨h3, h5⟩)
            · exact .inr ⟨by omega, by omega⟩
        · rintro ((h | ⟨h3, h4⟩) | ⟨h3, h4⟩)
          · exact .inl h
          · exact .inr ⟨h3, by omega⟩
          · exact .inr ⟨by omega, by omega⟩
      · rcases List.mem_append.1 hz with hz | hz
        · exact hl z (by simp [hz])
        · simp at hz; subst hz; exact hyl
    · refine ⟨init ++ [y] ++ [x], ?_, Norm_snoc.2 ⟨hn, hx, fun z hz => ?_⟩, fun r => ?_, by simp, fun z hz => ?_⟩
      · unfold ranges_put
        rw [hcond, Option.bind_some, if_neg (by simpa using hc), room_ok hlen, Option.bind_some]
      · rcases List.mem_append.1 hz with hz | hz
        · have := n3 z hz; omega
        · simp at hz; subst hz; omega
      · rw [In_append, In_one]
      · rcases List.mem_append.1 hz with hz | hz
        · exact hl z hz
        · simp at hz; subst hz; omega
end Go.Val

/- part Q2j -/
/- Plain lemmas: Make of ranges. -/
namespace Go.Val
set_option linter.unusedVariables false
theorem Contains_eq {l : List TRange} {f : TRange → Option Bool} {g : TRange → Bool} (hf : ∀ x ∈ l, f x = some (g x)) (hl : l.length < 9223372036854775807) : slices_ContainsFunc_api_Range_api_Range l f = some (l.any g) := by
  obtain ⟨r, h1, h2⟩ := Loop_spec (body := slices_IndexFunc_api_Range_api_Range.b1 l f) (Q := fun r => decide (r ≥ (0 : Int)) = l.any g) (fun v => ∃ k : Nat, v = k ∧ k ≤ l.length ∧ ∀ j, j < k → ∀ x, l[j]? = some x → g x = false) (fun v => l.length - v.toNat) (fun s ⟨k, hk, hkl, hall⟩ => by
    subst hk
    by_cases h : k < l.length
    · have hx : l[k]? = some l[k] := List.getElem?_eq_getElem h
      cases hg : g l[k] with
      | true =>
        right
        refine ⟨(k : Int), ?_, ?_⟩
        · rw [slices_IndexFunc_api_Range_api_Range.b1, if_pos (by simpa using h), idx_nat, hx, Option.bind_some, hf _ (List.getElem_mem h), Option.bind_some, hg, if_pos rfl]
        · rw [decide_eq_true (by omega)]; symm; rw [List.any_eq_true]; exact ⟨_, List.getElem_mem h, hg⟩
      | false =>
        left
        refine ⟨((k + 1 : Nat) : Int), ?_, ⟨k + 1, rfl, h, fun j hj x hx' => ?_⟩, by omega⟩
        · rw [slices_IndexFunc_api_Range_api_Range.b1, if_pos (by simpa using h), idx_nat, hx, Option.bind_some, hf _ (List.getElem_mem h), Option.bind_some, hg, if_neg (by simp), w64s (by omega)]
        · by_cases e : j = k
          · subst e; rw [hx] at hx'; cases hx'; exact hg
          · exact hall j (by omega) x hx'
    · right
      obtain rfl : k = l.length := by omega
      refine ⟨-1, ?_, ?_⟩
      · rw [slices_IndexFunc_api_Range_api_Range.b1, if_neg (by simp)]; rfl
      · rw [decide_eq_false (by omega)]; symm; rw [List.any_eq_false]
        intro x hx
        obtain ⟨j, hj, rfl⟩ := List.getElem_of_mem hx
        simp [hall j hj _ (List.getElem?_eq_getElem hj)]) (0 : Int) ⟨0, rfl, Nat.zero_le _, fun j hj => absurd hj (by omega)⟩
  unfold slices_ContainsFunc_api_Range_api_Range slices_IndexFunc_api_Range_api_Range
  rw [h1, Option.bind_some, h2]
theorem swoL : Go.Sort.SWO ltR where
  irrefl x := by simp [ltR]
  trans x y z h1 h2 := by simp [ltR] at *; omega
  ntrans x y z h1 h2 := by simp [ltR] at *; omega
theorem sortR_spec {l : List TRange} (h : l.length ≤ 140737488355328) : ∃ l', sortR l = some l' ∧ l'.Perm l ∧ l'.Pairwise (fun x y => x.Low ≤ y.Low) := by
  unfold sortR
  rw [if_pos (show l.length ≤ roomOf from h)]
  obtain ⟨⟨h1, _, h2⟩, h3⟩ := Go.Sort.pdq_sorts ltR swoL l.toArray 0 l.length (Go.Lib.bitLen l.length) true true (Nat.zero_le _) (by simp) (Or.inl rfl)
  generalize Go.Sort.pdq ltR l.toArray 0 l.length (Go.Lib.bitLen l.length) true true = d at h1 h2 h3 ⊢
  have hs : d.size = l.length := by simpa using h1
  refine ⟨_, rfl, ?_, ?_⟩
  · have e1 : d.extract 0 l.length = d := by rw [← hs]; simp
    have e2 : l.toArray.extract 0 l.length = l.toArray := by simp
    rw [e1, e2] at h2
    simpa using h2
  · rw [List.pairwise_iff_getElem]
    intro i j hi hj hij
    have := h3 i j (Nat.zero_le _) hij (by simpa [hs] using hj)
    rw [getElem!_pos d j (by simpa using hj), getElem!_pos d i (by simpa using hi)] at this
    simp only [ltR, decide_eq_false_iff_not] at this
    simp only [Array.getElem_toList]
    omega
theorem Clone_eq {l : List TRange} (h : l.length * 16 ≤ 140737488355328) : slices_Clone_api_Range_api_Range l = some l := by
  unfold slices_Clone_api_Range_api_Range
  rw [room_ok (by omega)]; rfl
instance (x : TRange) : Decidable (Ok x) := inferInstanceAs (Decidable (_ ∧ _ ∧ _))
theorem Make_1_eq (x : TRange) : ranges_Make_1 x = some (!decide (Ok x)) := by
  unfold ranges_Make_1 Ok
  congr 1
  by_cases h1 : x.Low < 0
  · have : ¬ (0 ≤ x.Low ∧ x.Low ≤ x.High ∧ x.High ≤ 1114111) := by omega
    simp [h1, this]
  · by_cases h2 : x.High > 1114111
    · have : ¬ (0 ≤ x.Low ∧ x.Low ≤ x.High ∧ x.High ≤ 1114111) := by omega
      simp [h2, this]
    · by_cases h3 : x.Low > x.High
      · have : ¬ (0 ≤ x.Low ∧ x.Low ≤ x.High ∧ x.High ≤ 1114111) := by omega
        simp [h3, this]
      · have : 0 ≤ x.Low ∧ x.Low ≤ x.High ∧ x.High ≤ 1114111 := by omega
        simp [h1, h2, h3, this]
theorem any_bad {l : List TRange} : (l.any fun x => !decide (Ok x)) = !decide (∀ x ∈ l, Ok x) := by
  rw [Bool.eq_iff_iff]
  simp
theorem take_snoc2 {l : List TRange} {s : Nat} {x : TRange} (h : l[s]? = some x) : l.take (s + 1) = l.take s ++ [x] := by
  rw [List.take_add_one, h]; rfl
theorem Make_loop {l1 : List TRange} (hok : ∀ x ∈ l1, Ok x) (hs : l1.Pairwise (fun x y => x.Low ≤ y.Low)) (hl : l1.length * 16 ≤ 140737488355328) :
    ∃ r, Loop (ranges_Make.b1 l1) ([], (0 : Int)) = some r ∧ r.2 = 0 ∧ Norm r.1 ∧ (∀ t, In r.1 t ↔ In l1 t) ∧ r.1.length ≤ l1.length := by
  refine Loop_spec (body := ranges_Make.b1 l1) (fun p => ∃ k : Nat, p.2 = k ∧ k ≤ l1.length ∧ Norm p.1 ∧ (∀ t, In p.1 t ↔ In (l1.take k) t) ∧ p.1.length ≤ k ∧ ∀ y ∈ p.1, ∀ z ∈ l1.drop k, y.Low ≤ z.Low) (fun p => l1.length - p.2.toNat) (fun p hp => ?_) _
    ⟨0, rfl, Nat.zero_le _, Norm_nil, fun t => by simp, Nat.le_refl _, fun y hy => by cases hy⟩
  obtain ⟨out, v⟩ := p
  obtain ⟨k, hk, hkl, hn, hin, hlen, hlow⟩ := hp
  simp only at hk hn hin hlen hlow
  subst hk
  by_cases h : k < l1.length
  · left
    have hx : l1[k]? = some l1[k] := List.getElem?_eq_getElem h
    have hd : l1.drop k = l1[k] :: l1.drop (k + 1) := List.drop_eq_getElem_cons h
    obtain ⟨out', g1, g2, g3, g4, g5⟩ := put_spec (x := l1[k]) hn (hok _ (List.getElem_mem h)) (fun y hy => hlow y hy _ (by rw [hd]; exact List.mem_cons_self)) (by omega)
    refine ⟨(out', ((k + 1 : Nat) : Int)), ?_, ⟨k + 1, rfl, h, g2, fun t => ?_, by simp only; omega, fun y hy z hz => ?_⟩, by simp only; omega⟩
    · simp only [ranges_Make.b1]
      rw [if_pos (by simpa using h), idx_nat, hx, Option.bind_some, g1, Option.bind_some, w64s (by omega)]
    · simp only
      rw [g3, hin, take_snoc2 hx, In_append, In_one]
    · have h1 := g5 y hy
      rw [List.pairwise_iff_getElem] at hs
      obtain ⟨j, hj, rfl⟩ := List.getElem_of_mem hz
      simp only [List.getElem_drop]
      have := hs k (k + 1 + j) h (by simp at hj; omega) (by omega)
      omega
  · right
    obtain rfl : k = l1.length := by omega
    refine ⟨(out, 0), ?_, rfl, hn, fun t => ?_, hlen⟩
    · simp only [ranges_Make.b1]
      rw [if_neg (by simp)]; rfl
    · simp only
      rw [hin, List.take_length]
/-- The set of ranges. -/
theorem Make_ok {l : List TRange} (hok : ∀ x ∈ l, Ok x) (hl : l.length * 16 ≤ 140737488355328) :
    ∃ out, ranges_Make l = some (out, 0) ∧ Norm out ∧ (∀ t, In out t ↔ In l t) ∧ out.length ≤ l.length := by
  obtain ⟨l1, h1, h2, h3⟩ := sortR_spec (l := l) (by omega)
  obtain ⟨r, g1, g2, g3, g4, g5⟩ := Make_loop (l1 := l1) (fun x hx => hok x (h2.mem_iff.1 hx)) h3 (by rw [h2.length_eq]; exact hl)
  refine ⟨r.1, ?_, g3, fun t => (g4 t).trans (In_perm h2), by rw [← h2.length_eq]; exact g5⟩
  unfold ranges_Make
  rw [Contains_eq (fun x _ => Make_1_eq x) (by omega), Option.bind_some, any_bad, decide_eq_true hok]
  rw [if_neg (by simp), Clone_eq hl, Option.bind_some, h1, Option.bind_some, g1, ← g2]
theorem Make_bad {l : List TRange} (hbad : ¬ ∀ x ∈ l, Ok x) (hl : l.length < 9223372036854775807) : ranges_Make l = some ([], 1) := by
  unfold ranges_Make
  rw [Contains_eq (fun x _ => Make_1_eq x) hl, Option.bind_some, any_bad, decide_eq_false hbad]
  rfl
theorem Same_eq {a b : List TRange} (hl : a.length < 9223372036854775807) : scansionref02_Same a b = some (decide (a = b)) := by
  unfold scansionref02_Same
  by_cases hlen : a.length = b.length
  · rw [if_neg (by simp [hlen])]
    have := Loop_all0 (b := scansionref02_Same.b1 a b) (fun j => a[j]? = b[j]?) a.length (r := false) (R := true) (fun j hj hp => ?_) (fun j hj hp => ?_) ?_
    · by_cases h : a = b
      · rw [this.1 (fun j _ => by rw [h]), decide_eq_true h]
      · rw [this.2 (fun hall => h (List.ext_getElem? fun j => ?_)), decide_eq_false h]
        by_cases hj : j < a.length
        · exact hall j hj
        · rw [List.getElem?_eq_none (by omega), List.getElem?_eq_none (by omega)]
    · have ha : a[j]? = some a[j] := List.getElem?_eq_getElem hj
      have hb : b[j]? = some a[j] := by rw [← hp]; exact ha
      rw [scansionref02_Same.b1, if_pos (by simpa using hj), idx_nat, ha, Option.bind_some, idx_nat, hb, Option.bind_some, if_neg (by simp), w64s (by omega)]
    · have ha : a[j]? = some a[j] := List.getElem?_eq_getElem hj
      have hb : b[j]? = some (b[j]'(by omega)) := List.getElem?_eq_getElem (by omega)
      rw [ha, hb] at hp
      rw [scansionref02_Same.b1, if_pos (by simpa using hj), idx_nat, ha, Option.bind_some, idx_nat, hb, Option.bind_some, if_pos]
      generalize a[j] = x at *
      generalize b[j]'(by omega) = y at *
      cases x; cases y
      simp only [Option.some.injEq, TRange.mk.injEq] at hp
      simp
      omega
    · rw [scansionref02_Same.b1, if_neg (by simp)]; rfl
  · rw [if_pos (by simp; omega)]
    rw [decide_eq_false (fun h => hlen (by rw [h]))]
end Go.Val

/- part Q3j -/
/- Plain lemmas: Has, Count and Nth of ranges. -/
namespace Go.Val
set_option linter.unusedVariables false
theorem Norm.short : ∀ {l : List TRange} {lo : Int}, Norm l → (∀ x ∈ l, lo ≤ x.Low) → (l.length : Int) ≤ max 0 (1114112 - lo)
  | [], lo, _, _ => by simp; omega
  | x :: l, lo, h, hlo => by
    obtain ⟨h1, h2, h3⟩ := Norm_cons.1 h
    unfold Ok at h1
    have := Norm.short h3 (lo := x.High + 2) (fun y hy => by have := h2 y hy; omega)
    have := hlo x (by simp)
    simp only [List.length_cons]
    omega
theorem Norm.len {l : List TRange} (h : Norm l) : l.length ≤ 1114112 := by
  have := h.short (lo := 0) (fun x hx => (h.1 x hx).1)
  omega
theorem Norm.sep : ∀ {a : List TRange}, Norm a → ∀ x ∈ a, ∀ z ∈ a, z = x ∨ z.High + 1 < x.Low ∨ x.High + 1 < z.Low
  | [], _, x, hx, _, _ => by cases hx
  | y :: l, h, x, hx, z, hz => by
    obtain ⟨h1, h2, h3⟩ := Norm_cons.1 h
    rcases List.mem_cons.1 hx with e1 | hx1
    · rcases List.mem_cons.1 hz with e2 | hz1
      · exact .inl (e2.trans e1.symm)
      · rw [e1]; exact .inr (.inr (h2 z hz1))
    · rcases List.mem_cons.1 hz with e2 | hz1
      · rw [e2]; exact .inr (.inl (h2 x hx1))
      · exact Norm.sep h3 x hx1 z hz1
theorem Norm.below {a : List TRange} (h : Norm a) {x : TRange} (hx : x ∈ a) : ¬ In a (x.Low - 1) := by
  rintro ⟨z, hz, h1, h2⟩
  have k1 := h.1 x hx
  have k2 := h.1 z hz
  unfold Ok at k1 k2
  rcases h.sep x hx z hz with e | e | e
  · subst e; omega
  · omega
  · omega
theorem Norm.take {a : List TRange} (h : Norm a) (k : Nat) : Norm (a.take k) := ⟨fun x hx => h.1 x (List.mem_of_mem_take hx), h.2.sublist (List.take_sublist _ _)⟩
theorem Norm.drop {a : List TRange} (h : Norm a) (k : Nat) : Norm (a.drop k) := ⟨fun x hx => h.1 x (List.mem_of_mem_drop hx), h.2.sublist (List.drop_sublist _ _)⟩
def hasB (a : List TRange) (r : Int) : Bool := a.any fun x => decide (x.Low ≤ r) && decide (r ≤ x.High)
theorem hasB_iff {a : List TRange} {r : Int} : hasB a r = true ↔ In a r := by
  simp [hasB, In]
theorem hasB_dec {a : List TRange} {r : Int} {p : Prop} [Decidable p] (h : In a r ↔ p) : hasB a r = decide p := by
  rw [Bool.eq_iff_iff, hasB_iff, h]; simp

/-! ### Has -/
theorem half_eq {i j : Nat} (h : i + j < 9223372036854775807) : shR .u64 (IntKind.u64.wrap (IntKind.i64.wrap ((i : Int) + j))) 1 = (((i + j) / 2 : Nat) : Int) := by
  rw [w64 (by omega) (by omega)]
  have : IntKind.u64.wrap ((i : Int) + j) = (i : Int) + j := by simp [IntKind.wrap, IntKind.bits, IntKind.signed]; omega
  rw [this]
  unfold shR
  rw [show (2 : Int) ^ (min (1 : Int).toNat IntKind.u64.bits) = 2 from rfl, Int.fdiv_eq_ediv_of_nonneg _ (by omega)]
  omega
def cmpR (x : TRange) (r : Int) : Int := if x.High < r then -1 else if x.Low > r then 1 else 0
theorem Has_1_eq (x : TRange) (r : Int) : ranges_Has_1 x r = some (cmpR x r) := by
  unfold ranges_Has_1 cmpR
  by_cases h1 : x.High < r
  · simp [h1]
  · by_cases h2 : x.Low > r
    · simp [h1, h2]
    · simp [h1, h2]
theorem Has_eq {a : List TRange} (hn : Norm a) (r : Int) : ranges_Has a r = some (hasB a r) := by
  have hl := hn.len
  have hp := List.pairwise_iff_getElem.1 hn.2
  have ho := hn.1
  obtain ⟨q, h1, h2⟩ := Loop_spec (body := slices_BinarySearchFunc_api_Range_api_Range_int.b1 a r ranges_Has_1) (Q := fun q => q.2 = hasB a r)
    (fun p => ∃ i j : Nat, p.1 = i ∧ p.2 = j ∧ i ≤ j ∧ j ≤ a.length ∧ (∀ k, k < i → ∀ x, a[k]? = some x → x.High < r) ∧ (∀ k, j ≤ k → ∀ x, a[k]? = some x → r ≤ x.High)) (fun p => (p.2 - p.1).toNat) (fun p hp' => by
    obtain ⟨i0, j0⟩ := p
    obtain ⟨i, j, e1, e2, hij, hj, hlo, hhi⟩ := hp'
    simp only at e1 e2
    subst e1; subst e2
    simp only [slices_BinarySearchFunc_api_Range_api_Range_int.b1]
    by_cases h : i < j
    · left
      have hm : (i + j) / 2 < a.length := by omega
      have hx : a[(i + j) / 2]? = some a[(i + j) / 2] := List.getElem?_eq_getElem hm
      rw [if_pos (by simpa using h), half_eq (by omega), Option.bind_some, w64 (by omega) (by omega), idx_nat, hx, Option.bind_some, Has_1_eq, Option.bind_some]
      by_cases hc : a[(i + j) / 2].High < r
      · refine ⟨((((i + j) / 2 + 1 : Nat) : Int), (j : Int)), ?_, ⟨(i + j) / 2 + 1, j, rfl, rfl, by omega, hj, fun k hk x hx' => ?_, hhi⟩, by simp only; omega⟩
        · rw [if_pos (by simp [cmpR, hc]), w64s (by omega)]; rfl
        · by_cases e : k = (i + j) / 2
          · subst e; rw [hx] at hx'; cases hx'; exact hc
          · have hkl : k < a.length := (List.getElem?_eq_some_iff.1 hx').1
            have hkx : a[k] = x := (List.getElem?_eq_some_iff.1 hx').2
            have := hp k ((i + j) / 2) hkl hm (by omega)
            have o1 := ho _ (List.getElem_mem hm)
            unfold Ok at o1
            rw [hkx] at this
            omega
      · refine ⟨((i : Int), (((i + j) / 2 : Nat) : Int)), ?_, ⟨i, (i + j) / 2, rfl, rfl, by omega, by omega, hlo, fun k hk x hx' => ?_⟩, by simp only; omega⟩
        · rw [if_neg (by simp only [cmpR, hc, if_false]; split <;> simp)]; rfl
        · by_cases e : k = (i + j) / 2
          · subst e; rw [hx] at hx'; cases hx'; omega
          · have hkl : k < a.length := (List.getElem?_eq_some_iff.1 hx').1
            have hkx : a[k] = x := (List.getElem?_eq_some_iff.1 hx').2
            have := hp ((i + j) / 2) k hm hkl (by omega)
            have o1 := ho _ (List.getElem_mem hkl)
            unfold Ok at o1
            rw [hkx] at this o1
            omega
    · right
      obtain rfl : i = j := by omega
      rw [if_neg (by simp)]
      unfold slices_BinarySearchFunc_api_Range_api_Range_int.k1
      by_cases hi : i < a.length
      · have hx : a[i]? = some a[i] := List.getElem?_eq_getElem hi
        rw [if_pos (by simpa using hi), idx_nat, hx, Option.bind_some, Has_1_eq, Option.bind_some, Option.bind_some]
        refine ⟨_, rfl, ?_⟩
        simp only
        have o1 := ho _ (List.getElem_mem hi)
        have hh := hhi i (Nat.le_refl _) _ hx
        unfold Ok at o1
        have hin : In a r ↔ a[i].Low ≤ r := by
          constructor
          · rintro ⟨x, hx', k1, k2⟩
            obtain ⟨k, hk, rfl⟩ := List.getElem_of_mem hx'
            by_cases e : k < i
            · have := hlo k e _ (List.getElem?_eq_getElem hk); omega
            · by_cases e2 : k = i
              · subst e2; exact k1
              · have := hp i k hi hk (by omega); omega
          · exact fun hlow => ⟨_, List.getElem_mem hi, hlow, hh⟩
        rw [hasB_dec hin, Bool.eq_iff_iff]
        simp only [cmpR, beq_iff_eq, decide_eq_true_eq]
        rw [if_neg (by omega)]
        split <;> simp <;> omega
      · rw [if_neg (by simpa using hi), Option.bind_some]
        refine ⟨_, rfl, ?_⟩
        simp only
        have hin : ¬ In a r := by
          rintro ⟨x, hx', k1, k2⟩
          obtain ⟨k, hk, rfl⟩ := List.getElem_of_mem hx'
          have := hlo k (by omega) _ (List.getElem?_eq_getElem hk); omega
        symm
        rw [← Bool.not_eq_true, hasB_iff]
        exact hin) ((0 : Int), (a.length : Int)) ⟨0, a.length, rfl, rfl, Nat.zero_le _, Nat.le_refl _, fun k hk => absurd hk (by omega), fun k hk x hx => by
      have := (List.getElem?_eq_some_iff.1 hx).1; omega⟩
  unfold ranges_Has slices_BinarySearchFunc_api_Range_api_Range_int
  rw [h1, Option.bind_some, h2]
/-- The document's Has. -/
theorem refHas_eq {a : List TRange} (hl : a.length < 9223372036854775807) (r : Int) : scansionref02_Has a r = some (hasB a r) := by
  have := Loop_all0 (b := scansionref02_Has.b1 a r) (fun j => ∀ x, a[j]? = some x → ¬ (x.Low ≤ r ∧ r ≤ x.High)) a.length (r := true) (R := false) (fun j hj hp => ?_) (fun j hj hp => ?_) ?_
  · unfold scansionref02_Has
    by_cases h : ∀ j, j < a.length → ∀ x, a[j]? = some x → ¬ (x.Low ≤ r ∧ r ≤ x.High)
    · rw [this.1 h]
      congr 1
      symm
      rw [← Bool.not_eq_true, hasB_iff]
      rintro ⟨x, hx, h1⟩
      obtain ⟨k, hk, rfl⟩ := List.getElem_of_mem hx
      exact h k hk _ (List.getElem?_eq_getElem hk) h1
    · rw [this.2 h]
      congr 1
      symm
      rw [hasB_iff]
      simp only [Classical.not_forall, Classical.not_not] at h
      obtain ⟨j, hj, x, hx, h1⟩ := h
      exact ⟨x, List.mem_of_getElem? hx, h1⟩
  · have hx : a[j]? = some a[j] := List.getElem?_eq_getElem hj
    have h1 := hp _ hx
    rw [scansionref02_Has.b1, if_pos (by simpa using hj), idx_nat, hx, Option.bind_some]
    by_cases h2 : r ≥ a[j].Low
    · rw [if_pos (by simpa using h2), Option.bind_some, if_neg (by simp; omega), w64s (by omega)]
    · rw [if_neg (by simpa using h2), Option.bind_some, if_neg (by simp), w64s (by omega)]
  · have hx : a[j]? = some a[j] := List.getElem?_eq_getElem hj
    have h1 : a[j].Low ≤ r ∧ r ≤ a[j].High := Classical.not_not.1 fun hn => hp fun x hx' => by rw [hx] at hx'; cases hx'; exact hn
    rw [scansionref02_Has.b1, if_pos (by simpa using hj), idx_nat, hx, Option.bind_some, if_pos (by simpa using h1.1), Option.bind_some, if_pos (by simpa using h1.2)]
  · rw [scansionref02_Has.b1, if_neg (by simp)]; rfl

/-! ### Count, Nth -/
def many (x : TRange) : Int := x.High - x.Low + 1
end Go.Val

/- part Q4j -/
/- Plain lemmas: the document's sets (edges, pick). -/
namespace Go.Val
set_option linter.unusedVariables false
theorem take_snocR {α : Type} {l : List α} {s : Nat} {x : α} (h : l[s]? = some x) : l.take (s + 1) = l.take s ++ [x] := by
  rw [List.take_add_one, h]; rfl
theorem rising_spec {l : List Int} {n : Int} (hp : l.Pairwise (· < ·)) (hl : (l.length + 1) * 8 ≤ 140737488355328) :
    ∃ l', scansionref02_rising l n = some l' ∧ l'.Pairwise (· < ·) ∧ (∀ x, x ∈ l' ↔ x ∈ l ∨ x = n) ∧ l'.length ≤ l.length + 1 := by
  refine Loop_spec (body := scansionref02_rising.b1 l n) (fun v : Int => ∃ k : Nat, v = (k : Int) ∧ k ≤ l.length ∧ ∀ j, j < k → ∀ x, l[j]? = some x → x < n) (fun v => l.length - v.toNat) (fun s hs => ?_) _ ⟨0, rfl, Nat.zero_le _, fun j hj => absurd hj (by omega)⟩
  obtain ⟨k, rfl, hk, hlo⟩ := hs
  simp only [scansionref02_rising.b1]
  have hpw := List.pairwise_iff_getElem.1 hp
  by_cases hc : ∃ x, l[k]? = some x ∧ x < n
  · left
    obtain ⟨x, hx, hxn⟩ := hc
    have hkl : k < l.length := (List.getElem?_eq_some_iff.1 hx).1
    refine ⟨((k + 1 : Nat) : Int), ?_, ⟨k + 1, rfl, hkl, fun j hj y hy => ?_⟩, by omega⟩
    · rw [if_pos (by simpa using hkl), idx_nat, hx, Option.bind_some, Option.bind_some, if_pos (by simpa using hxn), w64s (by omega)]
    · by_cases e : j = k
      · subst e; rw [hx] at hy; cases hy; exact hxn
      · exact hlo j (by omega) y hy
  · right
    have hge : ∀ x, l[k]? = some x → n ≤ x := fun x hx => by
      rcases Int.lt_or_le x n with h | h
      · exact absurd ⟨x, hx, h⟩ hc
      · exact h
    have hv : ((if (decide (((k : Nat) : Int) < (l.length : Int))) then
        (idx l ((k : Nat) : Int)).bind fun n2 =>
        some (decide (n2 < n))
      else
        some false)) = some false := by
      by_cases hkl : k < l.length
      · have hx : l[k]? = some l[k] := List.getElem?_eq_getElem hkl
        rw [if_pos (by simpa using hkl), idx_nat, hx, Option.bind_some]
        have := hge _ hx
        rw [decide_eq_false (by omega)]
      · rw [if_neg (by simpa using hkl)]
    rw [hv, Option.bind_some, if_neg (by simp)]
    unfold scansionref02_rising.k1
    by_cases he : l[k]? = some n
    · have hkl : k < l.length := (List.getElem?_eq_some_iff.1 he).1
      refine ⟨l, ?_, hp, fun x => ⟨.inl, fun h => h.elim id fun e => by subst e; exact List.mem_of_getElem? he⟩, by omega⟩
      rw [if_pos (by simpa using hkl), idx_nat, he, Option.bind_some, Option.bind_some, if_pos (by simp)]; rfl
    · have hv2 : ((if (decide (((k : Nat) : Int) < (l.length : Int))) then
          (idx l ((k : Nat) : Int)).bind fun n1 =>
          some (n1 == n)
        else
          some false)) = some false := by
        by_cases hkl : k < l.length
        · have hx : l[k]? = some l[k] := List.getElem?_eq_getElem hkl
          rw [if_pos (by simpa using hkl), idx_nat, hx, Option.bind_some]
          rw [hx] at he
          congr 1
          rw [beq_eq_false_iff_ne]
          exact fun e => he (by rw [e])
        · rw [if_neg (by simpa using hkl)]
      have hgt : ∀ j, k ≤ j → ∀ x, l[j]? = some x → n < x := fun j hj x hx => by
        have hjl : j < l.length := (List.getElem?_eq_some_iff.1 hx).1
        have hxe : l[j] = x := (List.getElem?_eq_some_iff.1 hx).2
        have hkl : k < l.length := by omega
        have h1 := hge _ (List.getElem?_eq_getElem hkl)
        have h2 : l[k] ≠ n := fun e => he (by rw [List.getElem?_eq_getElem hkl, e])
        by_cases e : j = k
        · subst e; rw [hxe] at h1 h2; omega
        · have := hpw k j hkl hjl (by omega)
          rw [hxe] at this; omega
      have hch : cutH l (k : Int) = some (l.take k) := by unfold cutH; rw [if_pos ⟨by omega, by omega⟩]; simp
      have hcl : cutL l (k : Int) = some (l.drop k) := by unfold cutL; rw [if_pos ⟨by omega, by omega⟩]; simp
      have ht : (l.take k).length = k := by simp; omega
      have hd : (l.drop k).length = l.length - k := by simp
      refine ⟨l.take k ++ [n] ++ l.drop k, ?_, ?_, fun x => ?_, by simp; omega⟩
      · rw [hv2, Option.bind_some, if_neg (by simp), hch, Option.bind_some, show (Int.toNat (k : Int)) = k by simp, room_ok (by omega), Option.bind_some, room_ok (by omega), Option.bind_some, hcl, Option.bind_some, room_ok (by omega), Option.bind_some]; rfl
      · rw [List.pairwise_append, List.pairwise_append]
        refine ⟨⟨hp.sublist (List.take_sublist _ _), List.pairwise_singleton _ _, fun x hx y hy => ?_⟩, hp.sublist (List.drop_sublist _ _), fun x hx y hy => ?_⟩
        · simp at hy; subst hy
          obtain ⟨j, hj, rfl⟩ := List.getElem_of_mem hx
          rw [List.getElem_take]
          exact hlo j (by omega) _ (List.getElem?_eq_getElem _)
        · obtain ⟨j, hj, rfl⟩ := List.getElem_of_mem hy
          rw [List.getElem_drop]
          have hyn := hgt (k + j) (by omega) _ (List.getElem?_eq_getElem (by omega))
          rcases List.mem_append.1 hx with hx | hx
          · obtain ⟨i, hi, rfl⟩ := List.getElem_of_mem hx
            rw [List.getElem_take]
            have := hlo i (by omega) _ (List.getElem?_eq_getElem (by omega))
            omega
          · simp at hx; subst hx; exact hyn
      · have hm : x ∈ l ↔ x ∈ l.take k ∨ x ∈ l.drop k := by
          conv => lhs; rw [← List.take_append_drop k l]
          exact List.mem_append
        simp only [List.mem_append, List.mem_singleton, hm]
        constructor
        · rintro ((h | h) | h)
          · exact .inl (.inl h)
          · exact .inr h
          · exact .inl (.inr h)
        · rintro ((h | h) | h)
          · exact .inl (.inl h)
          · exact .inr h
          · exact .inl (.inr h)
/-- Where something may begin. -/
def Edge (m : List TRange) (e : Int) : Prop := e = 0 ∨ ∃ x ∈ m, e = x.Low ∨ (x.High < 1114111 ∧ e = x.High + 1)
theorem Edge_snoc {m : List TRange} {x : TRange} {e : Int} : Edge (m ++ [x]) e ↔ (Edge m e ∨ e = x.Low) ∨ (x.High < 1114111 ∧ e = x.High + 1) := by
  unfold Edge
  constructor
  · rintro (h | ⟨y, hy, h⟩)
    · exact .inl (.inl (.inl h))
    · rcases List.mem_append.1 hy with hy | hy
      · exact .inl (.inl (.inr ⟨y, hy, h⟩))
      · simp at hy; subst hy
        rcases h with h | h
        · exact .inl (.inr h)
        · exact .inr h
  · rintro (((h | ⟨y, hy, h⟩) | h) | h)
    · exact .inl h
    · exact .inr ⟨y, by simp [hy], h⟩
    · exact .inr ⟨x, by simp, .inl h⟩
    · exact .inr ⟨x, by simp, .inr h⟩
theorem edges_spec {a b : List TRange} (ha : ∀ x ∈ a, Ok x) (hb : ∀ x ∈ b, Ok x) (hl : a.length + b.length ≤ 4000000) :
    ∃ E, scansionref02_edges a b = some E ∧ E.Pairwise (· < ·) ∧ (∀ e, e ∈ E ↔ Edge (a ++ b) e) ∧ E.length ≤ 2 * (a.length + b.length) + 1 := by
  have hlen : (a ++ b).length = a.length + b.length := by simp
  have hok : ∀ x ∈ a ++ b, Ok x := fun x hx => (List.mem_append.1 hx).elim (ha x) (hb x)
  unfold scansionref02_edges
  rw [room_ok (by omega), Option.bind_some, room_ok (by omega), Option.bind_some]
  refine Loop_spec (body := scansionref02_edges.b1 a b) (fun p : List Int × Int => ∃ k : Nat, p.2 = (k : Int) ∧ k ≤ (a ++ b).length ∧ p.1.Pairwise (· < ·) ∧ (∀ e, e ∈ p.1 ↔ Edge ((a ++ b).take k) e) ∧ p.1.length ≤ 2 * k + 1) (fun p => (a ++ b).length - p.2.toNat) (fun p hp => ?_) _
    ⟨0, rfl, Nat.zero_le _, List.pairwise_singleton _ _, fun e => by simp [Edge], by simp⟩
  obtain ⟨out, v⟩ := p
  obtain ⟨k, e, hk, hpw, hm, hol⟩ := hp
  simp only at e hpw hm hol
  subst e
  generalize hL : a ++ b = L at *
  simp only [scansionref02_edges.b1, hL]
  by_cases h : k < L.length
  · left
    have hx : L[k]? = some L[k] := List.getElem?_eq_getElem h
    have o := hok _ (List.getElem_mem h)
    unfold Ok at o
    obtain ⟨r, r1, r2, r3, r4⟩ := rising_spec (n := L[k].Low) hpw (by omega)
    rw [if_pos (by simpa using h), idx_nat, hx, Option.bind_some, r1, Option.bind_some]
    by_cases hh : L[k].High < 1114111
    · obtain ⟨q, q1, q2, q3, q4⟩ := rising_spec (n := L[k].High + 1) r2 (by omega)
      refine ⟨(q, ((k + 1 : Nat) : Int)), ?_, ⟨k + 1, rfl, h, q2, fun e => ?_, by simp only; omega⟩, by simp only; omega⟩
      · rw [if_pos (by simpa using hh), w64 (by omega) (by omega), q1, Option.bind_some]
        unfold scansionref02_edges.k2
        rw [w64s (by omega)]
      · simp only
        rw [q3, r3, hm, take_snocR hx, Edge_snoc]
        constructor
        · rintro (h | h)
          · exact .inl h
          · exact .inr ⟨hh, h⟩
        · rintro (h | h)
          · exact .inl h
          · exact .inr h.2
    · refine ⟨(r, ((k + 1 : Nat) : Int)), ?_, ⟨k + 1, rfl, h, r2, fun e => ?_, by simp only; omega⟩, by simp only; omega⟩
      · rw [if_neg (by simpa using hh)]
        unfold scansionref02_edges.k2
        rw [w64s (by omega)]
      · simp only
        rw [r3, hm, take_snocR hx, Edge_snoc]
        constructor
        · exact .inl
        · rintro (h | h)
          · exact h
          · exact absurd h.1 hh
  · right
    obtain rfl : k = L.length := by omega
    refine ⟨out, ?_, hpw, fun e => ?_, by omega⟩
    · rw [if_neg (by simp)]; rfl
    · rw [hm, List.take_length]
theorem with_spec {out : List TRange} {low high : Int} (hn : Norm out) (h0 : 0 ≤ low) (h1 : low ≤ high) (h2 : high ≤ 1114111) (hl : ∀ y ∈ out, y.High < low) :
    ∃ out', scansionref02_with out low high = some out' ∧ Norm out' ∧ ∀ r, In out' r ↔ In out r ∨ (low ≤ r ∧ r ≤ high) := by
  have hlen := hn.len
  rcases List.eq_nil_or_concat out with rfl | ⟨init, y, rfl⟩
  · refine ⟨[⟨low, high⟩], ?_, Norm_snoc (l := []).2 ⟨Norm_nil, ⟨h0, h1, h2⟩, fun y h => by cases h⟩, fun r => ?_⟩
    · unfold scansionref02_with
      rw [if_neg (by simp), Option.bind_some, if_neg (by simp), room_ok (by simp), Option.bind_some]; rfl
    · rw [In_one]; exact ⟨.inr, fun h => h.elim (fun h => absurd h In_nil) id⟩
  · rw [List.concat_eq_append] at *
    have hlen' : (init ++ [y]).length = init.length + 1 := by simp
    obtain ⟨n1, n2, n3⟩ := Norm_snoc.1 hn
    have hyo := n2
    unfold Ok at hyo
    have hyl := hl y (by simp)
    have hi : (init ++ [y])[init.length]? = some y := by simp
    have hw : IntKind.i64.wrap (((init ++ [y]).length : Int) - 1) = (init.length : Int) := by rw [hlen']; exact len_pred (by omega)
    have hcond : (if (decide (((init ++ [y]).length : Int) > (0 : Int))) then
      (idx (init ++ [y]) (IntKind.i64.wrap (((init ++ [y]).length : Int) - (1 : Int)))).bind fun x =>
      some (x.High == (IntKind.i64.wrap (low - (1 : Int))))
    else
      some false) = some (y.High == low - 1) := by
      rw [if_pos (by simp), hw, idx_nat, hi, Option.bind_some, w64 (by omega) (by omega)]
    by_cases hc : y.High = low - 1
    · refine ⟨init ++ [⟨y.Low, high⟩], ?_, Norm_snoc.2 ⟨n1, ⟨(show 0 ≤ y.Low by omega), (show y.Low ≤ high by omega), h2⟩, n3⟩, fun r => ?_⟩
      · unfold scansionref02_with
        rw [hcond, Option.bind_some, if_pos (by simpa using hc), hw, idx_nat, hi, Option.bind_some]
        simp
      · rw [In_append, In_append, In_one, In_one]
        show In init r ∨ (y.Low ≤ r ∧ r ≤ high) ↔ (In init r ∨ (y.Low ≤ r ∧ r ≤ y.High)) ∨ (low ≤ r ∧ r ≤ high)
        constructor
        · rintro (h | ⟨h3, h4⟩)
          · exact .inl (.inl h)
          · by_cases h5 : r ≤ y.High
            · exact .inl (.inr ⟨h3, h5⟩)
            · exact .inr ⟨by omega, by omega⟩
        · rintro ((h | ⟨h3, h4⟩) | ⟨h3, h4⟩)
          · exact .inl h
          · exact .inr ⟨h3, by omega⟩
          · exact .inr ⟨by omega, by omega⟩
    · refine ⟨init ++ [y] ++ [⟨low, high⟩], ?_, Norm_snoc.2 ⟨hn, ⟨h0, h1, h2⟩, fun z hz => ?_⟩, fun r => ?_⟩
      · unfold scansionref02_with
        rw [hcond, Option.bind_some, if_neg (by simpa using hc), room_ok (by omega), Option.bind_some]
      · show z.High + 1 < low
        rcases List.mem_append.1 hz with hz | hz
        · have := n3 z hz; omega
        · simp at hz; subst hz; omega
      · rw [In_append, In_one]
end Go.Val

/- part Q5j -/
/- Plain lemmas: the document's Or, And, Less, Not, Make. -/
namespace Go.Val
set_option linter.unusedVariables false
/-- What is taken. -/
def kindP (kind : Int) (one two : Bool) : Bool := if kind = 1 then one && two else if kind = 2 then one && !two else if kind = 3 then !one && !two else one || two
/-- Where a piece ends: the next edge; the end of all. -/
def bnd (E : List Int) (k : Nat) : Int := (E[k]?).getD 1114112
theorem bnd_at {E : List Int} {k : Nat} (h : k < E.length) : bnd E k = E[k] := by unfold bnd; rw [List.getElem?_eq_getElem h]; rfl
theorem bnd_end {E : List Int} : bnd E E.length = 1114112 := by unfold bnd; rw [List.getElem?_eq_none (Nat.le_refl _)]; rfl
theorem bnd_split {E : List Int} (hp : E.Pairwise (· < ·)) {k : Nat} (h : k < E.length) {e : Int} (he : e ∈ E) : e ≤ E[k] ∨ bnd E (k + 1) ≤ e := by
  obtain ⟨j, hj, rfl⟩ := List.getElem_of_mem he
  have hpw := List.pairwise_iff_getElem.1 hp
  by_cases h1 : j < k
  · exact .inl (by have := hpw j k hj h h1; omega)
  · by_cases h2 : j = k
    · subst h2; exact .inl (Int.le_refl _)
    · right
      rw [bnd_at (by omega)]
      by_cases h3 : j = k + 1
      · subst h3; exact Int.le_refl _
      · have := hpw (k + 1) j (by omega) hj (by omega); omega
theorem bnd_lt {E : List Int} (hp : E.Pairwise (· < ·)) (hE : ∀ e ∈ E, e ≤ 1114111) {k : Nat} (h : k < E.length) : E[k] < bnd E (k + 1) := by
  by_cases h1 : k + 1 < E.length
  · rw [bnd_at h1]; exact List.pairwise_iff_getElem.1 hp k (k + 1) h h1 (by omega)
  · rw [show k + 1 = E.length by omega, bnd_end]
    have := hE _ (List.getElem_mem h); omega
theorem Edge_bound {m : List TRange} (hm : ∀ x ∈ m, Ok x) {e : Int} (h : Edge m e) : 0 ≤ e ∧ e ≤ 1114111 := by
  rcases h with rfl | ⟨x, hx, h⟩
  · omega
  · have := hm x hx
    unfold Ok at this
    rcases h with rfl | ⟨h, rfl⟩ <;> omega
/-- Between two edges nothing turns. -/
theorem const_at {m L : List TRange} {E : List Int} (hm : ∀ x ∈ L, Ok x) (hp : E.Pairwise (· < ·)) (hE : ∀ e, e ∈ E ↔ Edge L e) (hs : ∀ x ∈ m, x ∈ L) {k : Nat} (h : k < E.length) {t : Int} (h1 : E[k] ≤ t) (h2 : t < bnd E (k + 1)) (h3 : t ≤ 1114111) :
    hasB m t = hasB m E[k] := by
  rw [Bool.eq_iff_iff, hasB_iff, hasB_iff]
  have key : ∀ x ∈ m, (x.Low ≤ t ∧ t ≤ x.High) ↔ (x.Low ≤ E[k] ∧ E[k] ≤ x.High) := fun x hx => by
    have o := hm x (hs x hx)
    unfold Ok at o
    have k1 := bnd_split hp h ((hE x.Low).2 (.inr ⟨x, hs x hx, .inl rfl⟩))
    by_cases hh : x.High < 1114111
    · have k2 := bnd_split hp h ((hE (x.High + 1)).2 (.inr ⟨x, hs x hx, .inr ⟨hh, rfl⟩⟩))
      omega
    · omega
  constructor
  · rintro ⟨x, hx, h⟩; exact ⟨x, hx, (key x hx).1 h⟩
  · rintro ⟨x, hx, h⟩; exact ⟨x, hx, (key x hx).2 h⟩
theorem pick_k3 {a b : List TRange} {kind : Int} {E : List Int} {out : List TRange} {k : Nat} {high : Int} (h : k < E.length) (ha : a.length ≤ 4000000) (hb : b.length ≤ 4000000) :
    scansionref02_pick.k3 a b kind E out (k : Int) high = scansionref02_pick.k4 out k high E[k] (kindP kind (hasB a E[k]) (hasB b E[k])) := by
  unfold scansionref02_pick.k3 kindP
  rw [idx_nat, List.getElem?_eq_getElem h, Option.bind_some, refHas_eq (by omega), Option.bind_some, refHas_eq (by omega), Option.bind_some]
  generalize hasB a E[k] = p
  generalize hasB b E[k] = q
  by_cases h1 : kind = 1
  · subst h1; cases p <;> rfl
  · rw [if_neg (by simpa using h1), if_neg h1]
    by_cases h2 : kind = 2
    · subst h2; cases p <;> rfl
    · rw [if_neg (by simpa using h2), if_neg h2]
      by_cases h3 : kind = 3
      · subst h3; cases p <;> rfl
      · rw [if_neg (by simpa using h3), if_neg h3]
theorem pick_spec {a b : List TRange} {kind : Int} (ha : ∀ x ∈ a, Ok x) (hb : ∀ x ∈ b, Ok x) (hl : a.length + b.length ≤ 4000000) :
    ∃ out, scansionref02_pick a b kind = some out ∧ Norm out ∧ ∀ t, In out t ↔ (0 ≤ t ∧ t ≤ 1114111 ∧ kindP kind (hasB a t) (hasB b t) = true) := by
  obtain ⟨E, e1, e2, e3, e4⟩ := edges_spec ha hb hl
  have hok : ∀ x ∈ a ++ b, Ok x := fun x hx => (List.mem_append.1 hx).elim (ha x) (hb x)
  have hbd : ∀ e ∈ E, 0 ≤ e ∧ e ≤ 1114111 := fun e he => Edge_bound hok ((e3 e).1 he)
  have h0 : 0 < E.length := List.length_pos_of_mem ((e3 0).2 (.inl rfl))
  have hE0 : bnd E 0 = 0 := by
    rw [bnd_at h0]
    have k1 := hbd _ (List.getElem_mem h0)
    obtain ⟨j, hj, hje⟩ := List.getElem_of_mem ((e3 0).2 (.inl rfl))
    by_cases h : j = 0
    · subst h; exact hje
    · have := List.pairwise_iff_getElem.1 e2 0 j h0 hj (by omega); omega
  unfold scansionref02_pick
  rw [e1, Option.bind_some]
  refine Loop_spec (body := scansionref02_pick.b1 a b kind E) (fun p : List TRange × Int => ∃ k : Nat, p.2 = (k : Int) ∧ k ≤ E.length ∧ Norm p.1 ∧ ∀ t, In p.1 t ↔ (0 ≤ t ∧ t < bnd E k ∧ kindP kind (hasB a t) (hasB b t) = true)) (fun p => E.length - p.2.toNat) (fun p hp => ?_) _
    ⟨0, rfl, Nat.zero_le _, Norm_nil, fun t => ⟨fun h => absurd h In_nil, fun h => by rw [hE0] at h; omega⟩⟩
  obtain ⟨out, v⟩ := p
  obtain ⟨k, e, hk, hn, hin⟩ := hp
  simp only at e hn hin
  subst e
  simp only [scansionref02_pick.b1]
  by_cases h : k < E.length
  · left
    have hlt := bnd_lt e2 (fun e he => (hbd e he).2) h
    have hE := hbd _ (List.getElem_mem h)
    have hnext : bnd E (k + 1) ≤ 1114112 := by
      by_cases h1 : k + 1 < E.length
      · rw [bnd_at h1]; have := hbd _ (List.getElem_mem h1); omega
      · rw [show k + 1 = E.length by omega, bnd_end]; omega
    have hhigh : (if (decide ((IntKind.i64.wrap ((k : Int) + (1 : Int))) < (E.length : Int))) then
        (idx E (IntKind.i64.wrap ((k : Int) + (1 : Int)))).bind fun n1 =>
        scansionref02_pick.k3 a b kind E out (k : Int) (IntKind.i64.wrap (n1 - (1 : Int)))
      else
        scansionref02_pick.k3 a b kind E out (k : Int) (1114111 : Int)) = scansionref02_pick.k3 a b kind E out (k : Int) (bnd E (k + 1) - 1) := by
      rw [w64s (by omega)]
      by_cases h1 : k + 1 < E.length
      · have := hbd _ (List.getElem_mem h1)
        rw [if_pos (by simp; omega), idx_nat, List.getElem?_eq_getElem h1, Option.bind_some, bnd_at h1, w64 (by omega) (by omega)]
      · rw [if_neg (by simp; omega), show k + 1 = E.length by omega, bnd_end]; rfl
    rw [if_pos (by simpa using h), hhigh, pick_k3 h (by omega) (by omega)]
    unfold scansionref02_pick.k4 scansionref02_pick.k2
    have hconst : ∀ t, E[k] ≤ t → t < bnd E (k + 1) → kindP kind (hasB a t) (hasB b t) = kindP kind (hasB a E[k]) (hasB b E[k]) := fun t h1 h2 => by
      rw [const_at hok e2 e3 (fun x hx => by simp [hx]) h h1 h2 (by omega), const_at hok e2 e3 (fun x hx => by simp [hx]) h h1 h2 (by omega)]
    rw [bnd_at h] at hin
    cases hc : kindP kind (hasB a E[k]) (hasB b E[k]) with
    | true =>
      obtain ⟨out', q1, q2, q3⟩ := with_spec (low := E[k]) (high := bnd E (k + 1) - 1) hn hE.1 (by omega) (by omega) (fun y hy => ((hin y.High).1 (In_high hn hy)).2.1)
      refine ⟨(out', ((k + 1 : Nat) : Int)), ?_, ⟨k + 1, rfl, h, q2, fun t => ?_⟩, by simp only; omega⟩
      · rw [if_pos rfl, q1, Option.bind_some, w64s (by omega)]
      · simp only
        rw [q3, hin]
        constructor
        · rintro (⟨h1, h2, h3⟩ | ⟨h1, h2⟩)
          · exact ⟨h1, by omega, h3⟩
          · exact ⟨by omega, by omega, by rw [hconst t h1 (by omega)]; exact hc⟩
        · rintro ⟨h1, h2, h3⟩
          by_cases h4 : t < E[k]
          · exact .inl ⟨h1, h4, h3⟩
          · exact .inr ⟨by omega, by omega⟩
    | false =>
      refine ⟨(out, ((k + 1 : Nat) : Int)), ?_, ⟨k + 1, rfl, h, hn, fun t => ?_⟩, by simp only; omega⟩
      · rw [if_neg (by simp), w64s (by omega)]
      · simp only
        rw [hin]
        constructor
        · rintro ⟨h1, h2, h3⟩
          exact ⟨h1, by omega, h3⟩
        · rintro ⟨h1, h2, h3⟩
          by_cases h4 : t < E[k]
          · exact ⟨h1, h4, h3⟩
          · rw [hconst t (by omega) h2, hc] at h3; cases h3
  · right
    obtain rfl : k = E.length := by omega
    refine ⟨out, ?_, hn, fun t => ?_⟩
    · rw [if_neg (by simp)]; rfl
    · rw [hin, bnd_end]
      constructor
      · rintro ⟨h1, h2, h3⟩; exact ⟨h1, by omega, h3⟩
      · rintro ⟨h1, h2, h3⟩; exact ⟨h1, by omega, h3⟩
theorem refMake_bad_one {l : List TRange} {k : Nat} (h : k < l.length) (hb : ¬ Ok l[k]) : scansionref02_Make.b1 l (k : Int) = some (.done ([], 1)) := by
  rw [scansionref02_Make.b1, if_pos (by simpa using h), idx_nat, List.getElem?_eq_getElem h, Option.bind_some]
  unfold Ok at hb
  by_cases h1 : l[k].Low < 0
  · rw [if_pos (by simpa using h1), Option.bind_some]; rfl
  · by_cases h2 : l[k].High > 1114111
    · rw [if_neg (by simpa using h1), if_pos (by simpa using h2), Option.bind_some]; rfl
    · rw [if_neg (by simpa using h1), if_neg (by simpa using h2), Option.bind_some, if_pos (by simp; omega)]
theorem refMake_ok_one {l : List TRange} {k : Nat} (h : k < l.length) (hl : l.length ≤ 4000000) (hb : Ok l[k]) : scansionref02_Make.b1 l (k : Int) = some (.next ((k + 1 : Nat) : Int)) := by
  rw [scansionref02_Make.b1, if_pos (by simpa using h), idx_nat, List.getElem?_eq_getElem h, Option.bind_some]
  unfold Ok at hb
  rw [if_neg (by simp; omega), if_neg (by simp; omega), Option.bind_some, if_neg (by simp; omega), w64s (by omega)]
theorem refMake_ok {l : List TRange} (hok : ∀ x ∈ l, Ok x) (hl : l.length ≤ 4000000) : ∃ out, scansionref02_Make l = some (out, 0) ∧ Norm out ∧ ∀ t, In out t ↔ In l t := by
  obtain ⟨out, h1, h2, h3⟩ := pick_spec (a := l) (b := []) (kind := 0) hok (fun x h => by cases h) (by simpa using hl)
  refine ⟨out, ?_, h2, fun t => ?_⟩
  · unfold scansionref02_Make
    have := Loop_int (b := scansionref02_Make.b1 l) (i := 0) (n := l.length) (Nat.zero_le _) (fun j _ hj => refMake_ok_one hj hl (hok _ (List.getElem_mem hj)))
    rw [show ((0 : Nat) : Int) = 0 from rfl] at this
    rw [this]
    apply Loop_end
    rw [scansionref02_Make.b1, if_neg (by simp)]
    unfold scansionref02_Make.k1
    rw [h1]; rfl
  · rw [h3]
    have e : kindP 0 (hasB l t) (hasB [] t) = hasB l t := by simp [kindP, hasB]
    rw [e, hasB_iff]
    constructor
    · exact fun h => h.2.2
    · intro h
      obtain ⟨x, hx, k1, k2⟩ := h
      have := hok x hx
      unfold Ok at this
      exact ⟨by omega, by omega, x, hx, k1, k2⟩
theorem refMake_bad {l : List TRange} (hbad : ¬ ∀ x ∈ l, Ok x) (hl : l.length ≤ 4000000) : scansionref02_Make l = some ([], 1) := by
  unfold scansionref02_Make
  refine Loop_rule (R := some ([], 1)) (fun v : Int => ∃ k : Nat, v = (k : Int) ∧ k ≤ l.length ∧ ∀ j (hj : j < l.length), j < k → Ok l[j]) (fun v => l.length - v.toNat) (fun v hv => ?_) _ ⟨0, rfl, Nat.zero_le _, fun j _ hj => absurd hj (by omega)⟩
  obtain ⟨k, rfl, hk, hall⟩ := hv
  by_cases h : k < l.length
  · by_cases ho : Ok l[k]
    · left
      refine ⟨_, refMake_ok_one h hl ho, ⟨k + 1, rfl, h, fun j hj hjk => ?_⟩, by omega⟩
      by_cases e : j = k
      · subst e; exact ho
      · exact hall j hj (by omega)
    · right
      exact ⟨_, rfl, refMake_bad_one h ho⟩
  · exact absurd (fun x hx => by
      obtain ⟨j, hj, rfl⟩ := List.getElem_of_mem hx
      exact hall j hj (by omega)) hbad
end Go.Val

/- part R1 -/
/- Plain lemmas: a number's mask. -/
namespace Go.Val
set_option linter.unusedVariables false
set_option linter.unusedSimpArgs false
/-- The mask of a number by the first sets. -/
def maskP (S : List (List TRange)) (r : Int) : Nat → Nat
  | 0 => 0
  | k + 1 => maskP S r k + if hasB (S.getD k []) r then 2 ^ k else 0
theorem maskP_lt (S : List (List TRange)) (r : Int) : ∀ k, maskP S r k < 2 ^ k
  | 0 => by simp [maskP]
  | k + 1 => by
    have := maskP_lt S r k
    simp only [maskP, Nat.pow_succ]
    split <;> omega
theorem or_bit {m k : Nat} (h : m < 2 ^ k) (hk : k < 64) : bOr .u64 (m : Int) (shL .u64 (1 : Int) (k : Int)) = ((m + 2 ^ k : Nat) : Int) := by
  have hp : 2 ^ k ≤ 2 ^ 63 := Nat.pow_le_pow_right (by omega) (by omega)
  have hw : ∀ n : Nat, n < 18446744073709551616 → IntKind.u64.wrap (n : Int) = (n : Int) := fun n hn => by simp [IntKind.wrap, IntKind.signed, IntKind.bits]; omega
  have hmin : min k 64 = k := by omega
  have hs : shL .u64 (1 : Int) (k : Int) = ((2 ^ k : Nat) : Int) := by
    unfold shL
    simp only [Int.toNat_natCast, IntKind.bits, hmin, Int.one_mul]
    rw [show (2 : Int) ^ k = ((2 ^ k : Nat) : Int) by simp, hw _ (by omega)]
  rw [hs]
  show IntKind.u64.wrap (((BitVec.ofInt 64 ((m : Nat) : Int) ||| BitVec.ofInt 64 ((2 ^ k : Nat) : Int)).toNat : Nat) : Int) = _
  rw [BitVec.ofInt_natCast, BitVec.ofInt_natCast, BitVec.toNat_or, BitVec.toNat_ofNat, BitVec.toNat_ofNat, Nat.mod_eq_of_lt (by omega), Nat.mod_eq_of_lt (by omega)]
  have h2 := Nat.two_pow_add_eq_or_of_lt h 1
  rw [Nat.mul_one] at h2
  rw [Nat.or_comm, ← h2, hw _ (by omega), Nat.add_comm]
end Go.Val

/- part R2 -/
/- Plain lemmas: the masks of the program and of the reference. -/
namespace Go.Val
set_option linter.unusedVariables false
set_option linter.unusedSimpArgs false
theorem nat_ok {n : Int} (h : 0 ≤ n) : nat n = some n := by unfold nat; rw [if_pos h]
theorem mask_loop {S : List (List TRange)} {r : Int} (hn : ∀ s ∈ S, Norm s) (hl : S.length ≤ 60) : ∀ (d k : Nat), k + d = S.length → Loop (alphabet_mask.b1 S r) (((maskP S r k : Nat) : Int), (k : Int)) = some ((maskP S r S.length : Nat) : Int)
  | 0, k, h => by
    obtain rfl : k = S.length := by omega
    refine Loop_done ?_
    simp only [alphabet_mask.b1]
    rw [if_neg (by simp)]; rfl
  | d + 1, k, h => by
    have hk : k < S.length := by omega
    have ih := mask_loop (r := r) hn hl d (k + 1) (by omega)
    rw [← ih]
    refine Loop_next ?_
    simp only [alphabet_mask.b1]
    rw [if_pos (by simpa using hk), idx_nat, List.getElem?_eq_getElem hk, Option.bind_some, Has_eq (hn _ (List.getElem_mem hk)), Option.bind_some]
    have hg : S.getD k [] = S[k] := by simp [List.getD_eq_getElem?_getD, List.getElem?_eq_getElem hk]
    have hm : maskP S r (k + 1) = maskP S r k + if hasB S[k] r then 2 ^ k else 0 := by simp only [maskP, hg]
    rw [hm]
    cases hb : hasB S[k] r with
    | true =>
      simp only [if_true]
      rw [nat_ok (by omega), Option.bind_some, or_bit (maskP_lt S r k) (by omega)]
      unfold alphabet_mask.k2
      rw [w64s (by omega)]
    | false =>
      simp only [Bool.false_eq_true, if_false, Nat.add_zero]
      unfold alphabet_mask.k2
      rw [w64s (by omega)]
theorem mask_eq {S : List (List TRange)} (hn : ∀ s ∈ S, Norm s) (hl : S.length ≤ 60) (r : Int) : alphabet_mask S r = some ((maskP S r S.length : Nat) : Int) := mask_loop hn hl S.length 0 (by omega)
theorem refMask_loop {S : List (List TRange)} {r : Int} (hn : ∀ s ∈ S, s.length < 9223372036854775807) (hl : S.length ≤ 60) : ∀ (d k : Nat), k + d = S.length → Loop (scansionref09_mask.b1 S r) (((maskP S r k : Nat) : Int), (k : Int)) = some ((maskP S r S.length : Nat) : Int)
  | 0, k, h => by
    obtain rfl : k = S.length := by omega
    refine Loop_done ?_
    simp only [scansionref09_mask.b1]
    rw [if_neg (by simp)]; rfl
  | d + 1, k, h => by
    have hk : k < S.length := by omega
    have ih := refMask_loop (r := r) hn hl d (k + 1) (by omega)
    rw [← ih]
    refine Loop_next ?_
    simp only [scansionref09_mask.b1]
    rw [if_pos (by simpa using hk), idx_nat, List.getElem?_eq_getElem hk, Option.bind_some, refHas_eq (hn _ (List.getElem_mem hk)), Option.bind_some]
    have hg : S.getD k [] = S[k] := by simp [List.getD_eq_getElem?_getD, List.getElem?_eq_getElem hk]
    have hm : maskP S r (k + 1) = maskP S r k + if hasB S[k] r then 2 ^ k else 0 := by simp only [maskP, hg]
    have hw : IntKind.u64.wrap (k : Int) = (k : Int) := by simp [IntKind.wrap, IntKind.signed, IntKind.bits]; omega
    rw [hm, hw]
    cases hb : hasB S[k] r with
    | true =>
      simp only [if_true]
      rw [nat_ok (by omega), Option.bind_some, or_bit (maskP_lt S r k) (by omega)]
      unfold scansionref09_mask.k2
      rw [w64s (by omega)]
    | false =>
      simp only [Bool.false_eq_true, if_false, Nat.add_zero]
      unfold scansionref09_mask.k2
      rw [w64s (by omega)]
theorem refMask_eq {S : List (List TRange)} (hn : ∀ s ∈ S, s.length < 9223372036854775807) (hl : S.length ≤ 60) (r : Int) : scansionref09_mask S r = some ((maskP S r S.length : Nat) : Int) := refMask_loop hn hl S.length 0 (by omega)
end Go.Val

/- part R3 -/
/- Plain lemmas: a block's values. -/
namespace Go.Val
set_option linter.unusedVariables false
set_option linter.unusedSimpArgs false
/-- The value of a number: of two the later one; else 0. -/
def valN (l : List TProp) (r : Int) : UInt8 := l.foldl (fun v x => if x.Low ≤ r ∧ r ≤ x.High then x.Value else v) 0
theorem valN_snoc (l : List TProp) (x : TProp) (r : Int) : valN (l ++ [x]) r = if x.Low ≤ r ∧ r ≤ x.High then x.Value else valN l r := by
  unfold valN; rw [List.foldl_append]; rfl
/-- A block's values, as an array. -/
def blockOf (l : List TProp) (k : Nat) : Vector UInt8 256 := Vector.ofFn fun j => valN l (((k * 256 + j.1 : Nat)) : Int)
theorem blockOf_get (l : List TProp) (k j : Nat) (h : j < 256) : (blockOf l k).toList[j]? = some (valN l ((k * 256 + j : Nat) : Int)) := by
  unfold blockOf
  rw [List.getElem?_eq_getElem (by simpa using h)]
  simp
end Go.Val

/- part R4 -/
/- Plain lemmas: the program's block. -/
namespace Go.Val
set_option linter.unusedVariables false
set_option linter.unusedSimpArgs false
variable {l : List TProp} {x : TProp}
/-- A block on the way: the values of the first props, and of one more below a number. -/
def partOf (l : List TProp) (x : TProp) (k : Nat) (r : Int) : Vector UInt8 256 := Vector.ofFn fun j => if x.Low ≤ ((k * 256 + j.1 : Nat) : Int) ∧ ((k * 256 + j.1 : Nat) : Int) ≤ x.High ∧ ((k * 256 + j.1 : Nat) : Int) < r then x.Value else valN l ((k * 256 + j.1 : Nat) : Int)
theorem part_get (k : Nat) (r : Int) (j : Nat) (h : j < 256) : (partOf l x k r)[j] = if x.Low ≤ ((k * 256 + j : Nat) : Int) ∧ ((k * 256 + j : Nat) : Int) ≤ x.High ∧ ((k * 256 + j : Nat) : Int) < r then x.Value else valN l ((k * 256 + j : Nat) : Int) := by
  unfold partOf; simp
theorem part_start (k : Nat) (r : Int) (h : r ≤ max x.Low ((k * 256 : Nat) : Int)) : partOf l x k r = blockOf l k := by
  apply Vector.ext
  intro j hj
  rw [part_get k r j hj]
  unfold blockOf
  rw [if_neg (by omega)]; simp
theorem part_end (k : Nat) (r : Int) (h : min x.High ((k * 256 + 255 : Nat) : Int) < r) : partOf l x k r = blockOf (l ++ [x]) k := by
  apply Vector.ext
  intro j hj
  rw [part_get k r j hj]
  unfold blockOf
  simp only [Vector.getElem_ofFn, valN_snoc]
  by_cases hc : x.Low ≤ ((k * 256 + j : Nat) : Int) ∧ ((k * 256 + j : Nat) : Int) ≤ x.High
  · rw [if_pos hc, if_pos ⟨hc.1, hc.2, by omega⟩]
  · rw [if_neg hc, if_neg (fun h => hc ⟨h.1, h.2.1⟩)]
theorem part_set (k : Nat) (r : Int) (h0 : ((k * 256 : Nat) : Int) ≤ r) (h1 : r ≤ ((k * 256 + 255 : Nat) : Int)) (h2 : x.Low ≤ r) (h3 : r ≤ x.High) : vset (partOf l x k r) (r - ((k * 256 : Nat) : Int)) x.Value = partOf l x k (r + 1) := by
  apply Vector.ext
  intro j hj
  unfold vset
  rw [Vector.getElem_setIfInBounds hj, part_get k (r + 1) j hj, part_get k r j hj]
  by_cases hr : (r - ((k * 256 : Nat) : Int)).toNat = j
  · rw [if_pos hr, if_pos (by omega)]
  · rw [if_neg hr]
    have : (((k * 256 + j : Nat) : Int) < r + 1) ↔ (((k * 256 + j : Nat) : Int) < r) := by omega
    simp only [this]
end Go.Val

/- part R5 -/
/- Plain lemmas: the program's block, by its loops. -/
namespace Go.Val
set_option linter.unusedVariables false
set_option linter.unusedSimpArgs false
variable {l : List TProp} {x : TProp}
theorem mn_min (a b : Int) : mn a b = min a b := by unfold mn; omega
theorem b3_loop {k i : Nat} (hk : k < 4352) (hx : 0 ≤ x.Low ∧ x.Low ≤ x.High ∧ x.High ≤ 1114111) (hi : i < 4000000) : ∀ (d : Nat) (r : Int), max x.Low ((k * 256 : Nat) : Int) ≤ r → (min x.High ((k * 256 + 255 : Nat) : Int) + 1 - r).toNat = d →
    Loop (trie_Build.b3 (k : Int) (i : Int) x) (r, partOf l x k r) = some (.next (((i + 1 : Nat) : Int), blockOf (l ++ [x]) k)) := by
  have hlow : IntKind.i64.wrap ((k : Int) * 256) = ((k * 256 : Nat) : Int) := by rw [w64 (by omega) (by omega)]; omega
  have htop : IntKind.i64.wrap (IntKind.i64.wrap (((k * 256 : Nat) : Int) + 256) - 1) = ((k * 256 + 255 : Nat) : Int) := by rw [w64 (n := ((k * 256 : Nat) : Int) + 256) (by omega) (by omega), w64 (by omega) (by omega)]; omega
  have stop : ∀ r : Int, min x.High ((k * 256 + 255 : Nat) : Int) < r → Loop (trie_Build.b3 (k : Int) (i : Int) x) (r, partOf l x k r) = some (.next (((i + 1 : Nat) : Int), blockOf (l ++ [x]) k)) := fun r hr => by
    refine Loop_end ?_
    simp only [trie_Build.b3]
    rw [hlow, htop, mn_min, if_neg (by simp; omega), part_end k r hr]
    unfold trie_Build.k4
    rw [w64s (by omega)]
  intro d
  induction d with
  | zero => exact fun r hr hd => stop r (by omega)
  | succ d ih =>
    intro r hr hd
    rw [← ih (r + 1) (by omega) (by omega)]
    refine Loop_next ?_
    simp only [trie_Build.b3]
    have b1 : r ≤ x.High ∧ r ≤ ((k * 256 + 255 : Nat) : Int) := by omega
    have b2 : x.Low ≤ r ∧ ((k * 256 : Nat) : Int) ≤ r := by omega
    have hs := part_set (l := l) (x := x) k r b2.2 b1.2 b2.1 b1.1
    rw [hlow, htop, mn_min, if_pos (decide_eq_true (by omega)), w64 (n := r - ((k * 256 : Nat) : Int)) (by omega) (by omega), w64 (n := r + 1) (by omega) (by omega)]
    obtain ⟨j, hj⟩ : ∃ j : Nat, r - ((k * 256 : Nat) : Int) = (j : Int) := ⟨(r - ((k * 256 : Nat) : Int)).toNat, by omega⟩
    have hj2 : j < (partOf l x k r).toList.length := by rw [Vector.length_toList]; omega
    rw [hs, hj, idx_nat, List.getElem?_eq_getElem hj2]; rfl
end Go.Val

/- part R6 -/
/- Plain lemmas: the program's block, whole. -/
namespace Go.Val
set_option linter.unusedVariables false
set_option linter.unusedSimpArgs false
theorem take_snocP {α : Type} {l : List α} {s : Nat} (h : s < l.length) : l.take (s + 1) = l.take s ++ [l[s]] := by rw [List.take_add_one, List.getElem?_eq_getElem h]; rfl
theorem blockOf_nil (k : Nat) : blockOf [] k = Vector.replicate 256 0 := by
  apply Vector.ext
  intro j hj
  simp [blockOf, valN]
def OkP (x : TProp) : Prop := 0 ≤ x.Low ∧ x.Low ≤ x.High ∧ x.High ≤ 1114111
/-- All props, one behind the other. -/
theorem b2_loop {l : List TProp} {k : Nat} (hk : k < 4352) (ho : ∀ x ∈ l, OkP x) (hl : l.length ≤ 4096) {like : Vector UInt8 4352} {first : List (Vector UInt8 256)} {m : List (Vector UInt8 256 × Int)} : ∀ (d i : Nat), i + d = l.length →
    Loop (trie_Build.b2 l (k : Int) like first m) ((i : Int), blockOf (l.take i) k) = trie_Build.k3 (k : Int) like first m (blockOf l k)
  | 0, i, h => by
    obtain rfl : i = l.length := by omega
    refine Loop_end ?_
    simp only [trie_Build.b2]
    rw [if_neg (by simp), List.take_length]
  | d + 1, i, h => by
    have hi : i < l.length := by omega
    rw [← b2_loop hk ho hl d (i + 1) (by omega)]
    refine Loop_next ?_
    simp only [trie_Build.b2]
    have hlow : IntKind.i64.wrap ((k : Int) * 256) = ((k * 256 : Nat) : Int) := by rw [w64 (by omega) (by omega)]; omega
    rw [if_pos (by simpa using hi), idx_nat, List.getElem?_eq_getElem hi, Option.bind_some, hlow]
    have hm : mx l[i].Low ((k * 256 : Nat) : Int) = max l[i].Low ((k * 256 : Nat) : Int) := by unfold mx; omega
    rw [hm, ← part_start (l := l.take i) (x := l[i]) k (max l[i].Low ((k * 256 : Nat) : Int)) (by omega), take_snocP hi]
    exact b3_loop hk (ho _ (List.getElem_mem hi)) (by omega) _ _ (by omega) rfl
end Go.Val

/- part R7 -/
/- Plain lemmas: the table of blocks that are known. -/
namespace Go.Val
set_option linter.unusedVariables false
set_option linter.unusedSimpArgs false
variable {K : Type} [DecidableEq K]
/-- A table that tells each one's place. -/
def Knows (known : List (K × Int)) (l : List K) : Prop := known.length = l.length ∧ ∀ i : Nat, known[i]? = (l[i]?).map fun a => (a, (i : Int))
theorem aget_none {a : K} : ∀ {m : List (K × Int)}, (∀ p ∈ m, p.1 ≠ a) → aget a m = none
  | [], _ => rfl
  | (k, v) :: m, h => by
    simp only [aget]
    rw [if_neg (fun e => h (k, v) (by simp) e.symm)]
    exact aget_none fun p hp => h p (List.mem_cons_of_mem _ hp)
theorem aput_new {a : K} {v : Int} : ∀ {m : List (K × Int)}, (∀ p ∈ m, p.1 ≠ a) → aput a v m = m ++ [(a, v)]
  | [], _ => rfl
  | (k, w) :: m, h => by
    simp only [aput]
    rw [if_neg (fun e => h (k, w) (by simp) e.symm), aput_new fun p hp => h p (List.mem_cons_of_mem _ hp)]; rfl
theorem aget_at {a : K} : ∀ {m : List (K × Int)} {i : Nat} {v : Int}, m[i]? = some (a, v) → (∀ j < i, ∀ p, m[j]? = some p → p.1 ≠ a) → aget a m = some v
  | [], i, v, h, _ => by simp at h
  | (k, w) :: m, 0, v, h, _ => by
    simp at h
    obtain ⟨rfl, rfl⟩ := h
    simp [aget]
  | (k, w) :: m, i + 1, v, h, hb => by
    have h0 := hb 0 (by omega) (k, w) rfl
    simp only [aget]
    rw [if_neg (fun e => h0 e.symm)]
    exact aget_at (by simpa using h) fun j hj p hp => hb (j + 1) (by omega) p (by simpa using hp)
end Go.Val

/- part R8 -/
/- Plain lemmas: each one once, where it is first; a table of places. -/
namespace Go.Val
set_option linter.unusedVariables false
set_option linter.unusedSimpArgs false
set_option linter.unusedSectionVars false
variable {K : Type} [DecidableEq K]
/-- One more, if it is not there. -/
def addF (F : List K) (a : K) : List K := if a ∈ F then F else F ++ [a]
/-- Each one once, where it is first. -/
def firsts (l : List K) : List K := l.foldl addF []
theorem firsts_snoc {l : List K} {a : K} : firsts (l ++ [a]) = addF (firsts l) a := by
  unfold firsts; rw [List.foldl_append]; rfl
theorem addF_pre {F : List K} {a : K} : F <+: addF F a := by
  unfold addF; split
  · exact List.prefix_refl F
  · exact List.prefix_append F [a]
theorem mem_addF {F : List K} {a b : K} : b ∈ addF F a ↔ b ∈ F ∨ b = a := by
  unfold addF; split
  · exact ⟨Or.inl, fun h => h.elim id fun e => by rw [e]; assumption⟩
  · simp
theorem nodup_addF {F : List K} {a : K} (h : F.Nodup) : (addF F a).Nodup := by
  unfold addF; split
  · exact h
  · rename_i hn
    rw [List.nodup_append]
    exact ⟨h, by simp, fun x hx y hy => by simp at hy; rintro rfl; exact hn (hy ▸ hx)⟩
theorem mem_firsts {l : List K} {a : K} : a ∈ firsts l ↔ a ∈ l := by
  induction l using snoc_ind with
  | h0 => simp [firsts]
  | h1 l x ih => rw [firsts_snoc, mem_addF, ih]; simp
theorem nodup_firsts {l : List K} : (firsts l).Nodup := by
  induction l using snoc_ind with
  | h0 => simp [firsts]
  | h1 l x ih => rw [firsts_snoc]; exact nodup_addF ih
theorem firsts_pre {l m : List K} : firsts l <+: firsts (l ++ m) := by
  induction m using snoc_ind with
  | h0 => simp
  | h1 m x ih => rw [← List.append_assoc, firsts_snoc]; exact ih.trans addF_pre
/-- The place of the first that is this one. -/
def pos (F : List K) (a : K) : Nat := F.idxOf a
theorem pos_lt {F : List K} {a : K} (h : a ∈ F) : pos F a < F.length := List.idxOf_lt_length_iff.2 h
theorem pos_get {F : List K} {a : K} (h : a ∈ F) : F[pos F a]? = some a := by
  unfold pos
  rw [List.getElem?_eq_getElem (List.idxOf_lt_length_iff.2 h), List.getElem_idxOf]
theorem pos_cons {F : List K} {a b : K} : pos (a :: F) b = if a = b then 0 else pos F b + 1 := by
  unfold pos
  rw [List.idxOf_cons]
  by_cases h : a = b
  · simp [h]
  · rw [beq_false_of_ne h, if_neg h]; rfl
theorem pos_first {F : List K} {a : K} {j : Nat} (hj : j < pos F a) : F[j]? ≠ some a := by
  intro hf
  have hb := (List.getElem?_eq_some_iff.1 hf)
  have hn := List.not_of_lt_findIdx (p := fun x => x == a) (xs := F) hj
  simp only [beq_eq_false_iff_ne, ne_eq, Bool.not_eq_true] at hn
  exact hn hb.2
theorem pos_pre {F G : List K} (h : F <+: G) {a : K} (ha : a ∈ F) : pos G a = pos F a := by
  obtain ⟨t, rfl⟩ := h
  unfold pos
  rw [List.idxOf_append, if_pos ha]
theorem pos_new {F : List K} {a : K} (h : a ∉ F) : pos (F ++ [a]) a = F.length := by
  unfold pos
  rw [List.idxOf_append, if_neg h]; simp
theorem Knows_nil : Knows ([] : List (K × Int)) [] := ⟨rfl, fun i => by simp⟩
theorem Knows.keys {m : List (K × Int)} {F : List K} (h : Knows m F) {p : K × Int} (hp : p ∈ m) : p.1 ∈ F := by
  obtain ⟨i, hi⟩ := List.mem_iff_getElem?.1 hp
  rw [h.2 i] at hi
  cases hf : F[i]? with
  | none => rw [hf] at hi; cases hi
  | some a =>
    rw [hf] at hi; cases hi
    exact List.mem_of_getElem? hf
theorem Knows.none {m : List (K × Int)} {F : List K} (h : Knows m F) {a : K} (ha : a ∉ F) : aget a m = .none := aget_none fun p hp e => ha (e ▸ h.keys hp)
theorem Knows.some {m : List (K × Int)} {F : List K} (h : Knows m F) {a : K} (ha : a ∈ F) : aget a m = .some (pos F a : Int) := by
  refine aget_at (i := pos F a) (by rw [h.2, pos_get ha]; rfl) fun j hj p hp e => ?_
  rw [h.2] at hp
  cases hf : F[j]? with
  | none => rw [hf] at hp; cases hp
  | some b =>
    rw [hf] at hp
    cases hp
    exact pos_first hj (by rw [hf, ← e])
theorem Knows.new {m : List (K × Int)} {F : List K} (h : Knows m F) {a : K} (ha : a ∉ F) : Knows (aput a (F.length : Int) m) (F ++ [a]) := by
  have hk : ∀ p ∈ m, p.1 ≠ a := fun p hp e => ha (by rw [← e]; exact h.keys hp)
  rw [aput_new hk]
  refine ⟨by simp [h.1], fun i => ?_⟩
  by_cases hi : i < F.length
  · rw [List.getElem?_append_left (by rw [h.1]; exact hi), List.getElem?_append_left hi, h.2]
  · rw [List.getElem?_append_right (by rw [h.1]; omega), List.getElem?_append_right (by omega), h.1]
    by_cases hi2 : i = F.length
    · subst hi2; simp
    · rw [List.getElem?_eq_none (by simp; omega), List.getElem?_eq_none (by simp; omega)]; rfl
end Go.Val

/- part R9 -/
/- Plain lemmas: trie.Build, whole. -/
namespace Go.Val
set_option linter.unusedVariables false
set_option linter.unusedSimpArgs false
theorem u8w_nat {n : Nat} (h : n < 256) : u8 (IntKind.u8.wrap (n : Int)) = UInt8.ofNat n := by
  have : IntKind.u8.wrap (n : Int) = (n : Int) := by simp [IntKind.wrap, IntKind.signed, IntKind.bits]; omega
  rw [this]; rfl
theorem add_in {like : Vector UInt8 4352} {F : List (Vector UInt8 256)} {m : List (Vector UInt8 256 × Int)} {k : Nat} {b : Vector UInt8 256} (hk : k < 4352) (hK : Knows m F) (hF : F.length ≤ 256) (hb : b ∈ F) :
    trie_Trie_add ⟨like, F⟩ (k : Int) b m = some (true, ⟨vset like (k : Int) (UInt8.ofNat (pos F b)), F⟩, m) := by
  have hlt := pos_lt hb
  unfold trie_Trie_add
  rw [hK.some hb]
  simp only [Option.isSome_some, Bool.not_true, Bool.false_eq_true, if_false, Option.getD_some]
  unfold trie_Trie_add.k1
  rw [idx_nat, List.getElem?_eq_getElem (by simpa using hk), Option.bind_some]
  have hw := u8w_nat (n := pos F b) (by omega)
  simp only [hw]
theorem add_new {like : Vector UInt8 4352} {F : List (Vector UInt8 256)} {m : List (Vector UInt8 256 × Int)} {k : Nat} {b : Vector UInt8 256} (hk : k < 4352) (hK : Knows m F) (hF : F.length < 256) (hb : b ∉ F) :
    trie_Trie_add ⟨like, F⟩ (k : Int) b m = some (true, ⟨vset like (k : Int) (UInt8.ofNat F.length), F ++ [b]⟩, aput b (F.length : Int) m) := by
  unfold trie_Trie_add
  rw [hK.none hb]
  simp only [Option.isSome_none, Bool.not_false, if_true]
  rw [if_neg (by simp; omega), room_ok (by omega), Option.bind_some]
  unfold trie_Trie_add.k1
  rw [idx_nat, List.getElem?_eq_getElem (by simpa using hk), Option.bind_some]
  have hw := u8w_nat (n := F.length) (by omega)
  simp only [hw]
theorem add_full {like : Vector UInt8 4352} {F : List (Vector UInt8 256)} {m : List (Vector UInt8 256 × Int)} {k : Nat} {b : Vector UInt8 256} (hK : Knows m F) (hF : 256 ≤ F.length) (hb : b ∉ F) :
    trie_Trie_add ⟨like, F⟩ (k : Int) b m = some (false, ⟨like, F⟩, m) := by
  unfold trie_Trie_add
  rw [hK.none hb]
  simp only [Option.isSome_none, Bool.not_false, if_true]
  rw [if_pos (by simp; omega)]
/-- The first blocks, and all. -/
def blks (l : List TProp) (k : Nat) : List (Vector UInt8 256) := (List.range k).map (blockOf l)
theorem blks_succ {l : List TProp} {k : Nat} : blks l (k + 1) = blks l k ++ [blockOf l k] := by
  unfold blks; rw [List.range_succ, List.map_append]; rfl
theorem blks_pre {l : List TProp} {k : Nat} : ∀ d, firsts (blks l k) <+: firsts (blks l (k + d))
  | 0 => List.prefix_refl _
  | d + 1 => (blks_pre d).trans (by rw [← Nat.add_assoc, blks_succ]; exact firsts_pre)
theorem mem_blks {l : List TProp} {j k : Nat} (h : j < k) : blockOf l j ∈ firsts (blks l k) := by
  rw [mem_firsts]; unfold blks
  exact List.mem_map.2 ⟨j, List.mem_range.2 h, rfl⟩
def LikeOk (l : List TProp) (like : Vector UInt8 4352) (k : Nat) : Prop := ∀ j, j < k → like.toList[j]? = some (UInt8.ofNat (pos (firsts (blks l k)) (blockOf l j)))
theorem like_next {l : List TProp} {like : Vector UInt8 4352} {k : Nat} (hk : k < 4352) (h : LikeOk l like k) : LikeOk l (vset like (k : Int) (UInt8.ofNat (pos (firsts (blks l (k + 1))) (blockOf l k)))) (k + 1) := by
  intro j hj
  rw [vset_list]
  simp only [Int.toNat_natCast]
  by_cases e : j = k
  · subst e; rw [List.getElem?_set_self (by simpa using hk)]
  · rw [List.getElem?_set_ne (fun h => e h.symm), h j (by omega), pos_pre (blks_pre 1) (mem_blks (by omega))]
theorem build_loop {N : Nat} (hN : N = 4352) {l : List TProp} (ho : ∀ x ∈ l, OkP x) (hl : l.length ≤ 4096) : ∀ (d k : Nat), k + d = N → ∀ (like : Vector UInt8 4352) (m : List (Vector UInt8 256 × Int)), Knows m (firsts (blks l k)) → (firsts (blks l k)).length ≤ 256 → LikeOk l like k →
    if (firsts (blks l N)).length ≤ 256 then ∃ like', LikeOk l like' N ∧ Loop (trie_Build.b1 l) ((k : Int), like, firsts (blks l k), m) = some (some ⟨like', firsts (blks l N)⟩, 0)
    else Loop (trie_Build.b1 l) ((k : Int), like, firsts (blks l k), m) = some (none, 3)
  | 0, k, h, like, m, hK, hF, hL => by
    obtain rfl : k = N := by omega
    rw [if_pos hF]
    refine ⟨like, hL, Loop_end ?_⟩
    simp only [trie_Build.b1]
    rw [if_neg (by simp; omega)]; rfl
  | d + 1, k, h, like, m, hK, hF, hL => by
    have hk : k < 4352 := by omega
    have h0 : trie_Build.b1 l ((k : Int), like, firsts (blks l k), m) = trie_Build.k3 (k : Int) like (firsts (blks l k)) m (blockOf l k) := by
      simp only [trie_Build.b1]
      rw [if_pos (by simp; omega), ← blockOf_nil k]
      exact b2_loop hk ho hl l.length 0 (by omega)
    have hpre : firsts (blks l (k + 1)) <+: firsts (blks l N) := by
      have := blks_pre (l := l) (k := k + 1) d
      rw [show k + 1 + d = N by omega] at this; exact this
    by_cases hb : blockOf l k ∈ firsts (blks l k)
    · have e1 : firsts (blks l (k + 1)) = firsts (blks l k) := by rw [blks_succ, firsts_snoc, addF, if_pos hb]
      have ih := build_loop hN ho hl d (k + 1) (by omega) (vset like (k : Int) (UInt8.ofNat (pos (firsts (blks l (k + 1))) (blockOf l k)))) m (by rw [e1]; exact hK) (by rw [e1]; exact hF) (like_next hk hL)
      have h1 : Loop (trie_Build.b1 l) ((k : Int), like, firsts (blks l k), m) = Loop (trie_Build.b1 l) (((k + 1 : Nat) : Int), (vset like (k : Int) (UInt8.ofNat (pos (firsts (blks l (k + 1))) (blockOf l k)))), firsts (blks l (k + 1)), m) := by
        refine Loop_next ?_
        rw [h0]
        unfold trie_Build.k3
        rw [add_in hk hK hF hb, Option.bind_some]
        simp only [Bool.not_true, Bool.false_eq_true, if_false]
        unfold trie_Build.k2
        rw [w64s (by omega), e1]
      rw [h1]; exact ih
    · have e1 : firsts (blks l (k + 1)) = firsts (blks l k) ++ [blockOf l k] := by rw [blks_succ, firsts_snoc, addF, if_neg hb]
      by_cases hf : (firsts (blks l k)).length < 256
      · have e2 : pos (firsts (blks l (k + 1))) (blockOf l k) = (firsts (blks l k)).length := by rw [e1, pos_new hb]
        have ih := build_loop hN ho hl d (k + 1) (by omega) (vset like (k : Int) (UInt8.ofNat (pos (firsts (blks l (k + 1))) (blockOf l k)))) (aput (blockOf l k) ((firsts (blks l k)).length : Int) m) (by rw [e1]; exact hK.new hb) (by rw [e1]; simp; omega) (like_next hk hL)
        have h1 : Loop (trie_Build.b1 l) ((k : Int), like, firsts (blks l k), m) = Loop (trie_Build.b1 l) (((k + 1 : Nat) : Int), (vset like (k : Int) (UInt8.ofNat (pos (firsts (blks l (k + 1))) (blockOf l k)))), firsts (blks l (k + 1)), (aput (blockOf l k) ((firsts (blks l k)).length : Int) m)) := by
          refine Loop_next ?_
          rw [h0]
          unfold trie_Build.k3
          rw [add_new hk hK hf hb, Option.bind_some]
          simp only [Bool.not_true, Bool.false_eq_true, if_false]
          unfold trie_Build.k2
          rw [w64s (by omega), e2, e1]
        rw [h1]; exact ih
      · have hlen : 256 < (firsts (blks l N)).length := by
          have := hpre.length_le
          rw [e1, List.length_append] at this
          simp at this; omega
        rw [if_neg (by omega)]
        refine Loop_done ?_
        rw [h0]
        unfold trie_Build.k3
        rw [add_full hK (by omega) hb, Option.bind_some]
        rfl
theorem ContainsP_eq {l : List TProp} {f : TProp → Option Bool} {g : TProp → Bool} (hf : ∀ x ∈ l, f x = some (g x)) (hl : l.length < 9223372036854775807) : slices_ContainsFunc_api_Prop_api_Prop l f = some (l.any g) := by
  have key : slices_IndexFunc_api_Prop_api_Prop l f = some (if l.any g then (l.findIdx g : Int) else -1) := by
    unfold slices_IndexFunc_api_Prop_api_Prop
    have hle : l.findIdx g ≤ l.length := List.findIdx_le_length
    have hrun := Loop_int (b := slices_IndexFunc_api_Prop_api_Prop.b1 l f) (i := 0) (n := l.findIdx g) (Nat.zero_le _) (fun j _ hj => by
      have hjl : j < l.length := by omega
      simp only [slices_IndexFunc_api_Prop_api_Prop.b1]
      have hg : g l[j] = false := by simpa using List.not_of_lt_findIdx hj
      rw [if_pos (by simpa using hjl), idx_nat, List.getElem?_eq_getElem hjl, Option.bind_some, hf _ (List.getElem_mem hjl), Option.bind_some, hg]
      simp only [Bool.false_eq_true, if_false]
      rw [w64s (by omega)])
    simp only [Int.ofNat_zero, Int.natCast_zero] at hrun
    rw [hrun]
    by_cases ha : l.any g
    · have hlt : l.findIdx g < l.length := List.findIdx_lt_length.2 (by simpa using ha)
      rw [if_pos ha]
      refine Loop_done ?_
      simp only [slices_IndexFunc_api_Prop_api_Prop.b1]
      have hg : g (l[l.findIdx g]) = true := List.findIdx_getElem
      rw [if_pos (by simpa using hlt), idx_nat, List.getElem?_eq_getElem hlt, Option.bind_some, hf _ (List.getElem_mem hlt), Option.bind_some, hg]
      rfl
    · have he : l.findIdx g = l.length := List.findIdx_eq_length.2 (by simpa using ha)
      rw [if_neg ha, he]
      refine Loop_end ?_
      simp only [slices_IndexFunc_api_Prop_api_Prop.b1]
      rw [if_neg (by simp)]; rfl
  unfold slices_ContainsFunc_api_Prop_api_Prop
  rw [key, Option.bind_some]
  cases h : l.any g <;> simp
theorem Build_of {N : Nat} (hN : N = 4352) {l : List TProp} (ho : ∀ x ∈ l, OkP x) (hl : l.length ≤ 4096) :
    if (firsts (blks l N)).length ≤ 256 then ∃ like', LikeOk l like' N ∧ trie_Build l = some (some ⟨like', firsts (blks l N)⟩, 0) else trie_Build l = some (none, 3) := by
  have h1 : trie_Build l = Loop (trie_Build.b1 l) (((0 : Nat) : Int), (Vector.replicate 4352 (0 : UInt8)), firsts (blks l 0), []) := by
    unfold trie_Build
    have hc := ContainsP_eq (l := l) (f := trie_Build_1) (g := fun _ => false) (fun x hx => by
      obtain ⟨a, b, c⟩ := ho x hx
      unfold trie_Build_1
      simp; omega) (by omega)
    rw [if_neg (by simp; omega), hc, Option.bind_some]
    have : l.any (fun _ => false) = false := by simp
    rw [this]; rfl
  rw [h1]
  exact build_loop hN ho hl N 0 (by omega) _ [] Knows_nil (by simp [blks, firsts]) (fun j hj => by omega)
/-- A number's value by the trie. -/
theorem TrieOf_eq {N : Nat} (hN : N = 4352) {l : List TProp} {like : Vector UInt8 4352} (hL : LikeOk l like N) (hF : (firsts (blks l N)).length ≤ 256) {r : Int} (h0 : 0 ≤ r) (h1 : r ≤ 1114111) : trie_Trie_Of ⟨like, firsts (blks l N)⟩ r = some (valN l r) := by
  obtain ⟨n, rfl⟩ : ∃ n : Nat, r = (n : Int) := ⟨r.toNat, by omega⟩
  have hd : n / 256 < N := by omega
  have hm : n % 256 < 256 := by omega
  unfold trie_Trie_Of
  rw [if_neg (by simp; omega)]
  have e1 : IntKind.i64.wrap (Int.tdiv (n : Int) 256) = ((n / 256 : Nat) : Int) := by
    rw [Int.tdiv_eq_ediv_of_nonneg (by omega), w64 (by omega) (by omega)]; omega
  have e2 : Int.tmod (n : Int) 256 = ((n % 256 : Nat) : Int) := by
    rw [Int.tmod_eq_emod_of_nonneg (by omega)]; omega
  rw [e1, e2, idx_nat, hL _ hd, Option.bind_some]
  have hmem := mem_blks (l := l) hd
  have hlt := pos_lt hmem
  have e3 : (UInt8.ofNat (pos (firsts (blks l N)) (blockOf l (n / 256)))).toNat = pos (firsts (blks l N)) (blockOf l (n / 256)) := by
    rw [UInt8.toNat_ofNat']; exact Nat.mod_eq_of_lt (by omega)
  have hg : (firsts (blks l N))[pos (firsts (blks l N)) (blockOf l (n / 256))]? = some (blockOf l (n / 256)) := pos_get hmem
  rw [e3, idx_nat, hg, Option.bind_some, idx_nat, blockOf_get l _ _ hm, Option.bind_some]
  congr 2
  omega
end Go.Val

/- part R10 -/
/- Plain lemmas: the reference's Build. -/
namespace Go.Val
set_option linter.unusedVariables false
set_option linter.unusedSimpArgs false
theorem value_eq {l : List TProp} {r : Int} (hl : l.length ≤ 4096) : scansionref03_value l r = some (valN l r) := by
  have run : ∀ (d i : Nat), i + d = l.length → Loop (scansionref03_value.b1 l r) (valN (l.take i) r, (i : Int)) = some (valN l r) := by
    intro d
    induction d with
    | zero =>
      intro i h
      obtain rfl : i = l.length := by omega
      refine Loop_end ?_
      simp only [scansionref03_value.b1]
      rw [if_neg (by simp), List.take_length]; rfl
    | succ d ih =>
      intro i h
      have hi : i < l.length := by omega
      rw [← ih (i + 1) (by omega)]
      refine Loop_next ?_
      simp only [scansionref03_value.b1]
      rw [if_pos (by simpa using hi), idx_nat, List.getElem?_eq_getElem hi, take_snocP hi, valN_snoc]
      simp only [Option.bind_some]
      unfold scansionref03_value.k2
      rw [w64s (by omega)]
      by_cases h1 : l[i].Low ≤ r
      · by_cases h2 : r ≤ l[i].High
        · simp [h1, h2]
        · simp [h1, h2]
      · simp [h1]
  exact run l.length 0 (by omega)
def touchB (k : Nat) (x : TProp) : Bool := decide (x.High ≥ ((k * 256 : Nat) : Int)) && decide (x.Low < (((k + 1) * 256 : Nat) : Int))
theorem touched_eq {l : List TProp} {k : Nat} (hk : k < 4352) (hl : l.length ≤ 4096) : scansionref03_touched l (k : Int) = some (l.filter (touchB k)) := by
  have e1 : IntKind.i64.wrap ((k : Int) * 256) = ((k * 256 : Nat) : Int) := by rw [w64 (by omega) (by omega)]; omega
  have e2 : IntKind.i64.wrap (IntKind.i64.wrap ((k : Int) + 1) * 256) = (((k + 1) * 256 : Nat) : Int) := by rw [w64s (by omega), w64 (by omega) (by omega)]; omega
  have run : ∀ (d i : Nat), i + d = l.length → Loop (scansionref03_touched.b1 l (k : Int)) ((l.take i).filter (touchB k), (i : Int)) = some (l.filter (touchB k)) := by
    intro d
    induction d with
    | zero =>
      intro i h
      obtain rfl : i = l.length := by omega
      refine Loop_end ?_
      simp only [scansionref03_touched.b1]
      rw [if_neg (by simp), List.take_length]; rfl
    | succ d ih =>
      intro i h
      have hi : i < l.length := by omega
      rw [← ih (i + 1) (by omega)]
      refine Loop_next ?_
      simp only [scansionref03_touched.b1]
      rw [if_pos (by simpa using hi), idx_nat, List.getElem?_eq_getElem hi, take_snocP hi, List.filter_append]
      simp only [Option.bind_some]
      rw [e1, e2]
      unfold scansionref03_touched.k2
      rw [w64s (by omega)]
      have hlen : ((l.take i).filter (touchB k)).length ≤ i := Nat.le_trans (List.length_filter_le _ _) (by simp; omega)
      by_cases h1 : l[i].High ≥ ((k * 256 : Nat) : Int)
      · by_cases h2 : l[i].Low < (((k + 1) * 256 : Nat) : Int)
        · have ht : touchB k l[i] = true := by simp only [touchB, decide_eq_true h1, decide_eq_true h2, Bool.and_self]
          rw [if_pos (decide_eq_true h1), Option.bind_some, if_pos (decide_eq_true h2), room_ok (by omega), Option.bind_some]
          simp [ht]
        · have ht : touchB k l[i] = false := by simp only [touchB, decide_eq_false h2, Bool.and_false]
          rw [if_pos (decide_eq_true h1), Option.bind_some, if_neg (by simpa using h2)]
          simp [ht]
      · have ht : touchB k l[i] = false := by simp only [touchB, decide_eq_false h1, Bool.false_and]
        rw [if_neg (by simpa using h1), Option.bind_some]
        simp [ht]
  exact run l.length 0 (by omega)
theorem valN_touch {l : List TProp} {k j : Nat} (hj : j < 256) : valN (l.filter (touchB k)) ((k * 256 + j : Nat) : Int) = valN l ((k * 256 + j : Nat) : Int) := by
  induction l using snoc_ind with
  | h0 => rfl
  | h1 l x ih =>
    rw [List.filter_append, valN_snoc]
    by_cases hx : touchB k x = true
    · rw [show [x].filter (touchB k) = [x] by simp [hx], valN_snoc, ih]
    · have h2 : ¬ (x.Low ≤ ((k * 256 + j : Nat) : Int) ∧ ((k * 256 + j : Nat) : Int) ≤ x.High) := by
        intro hc
        apply hx
        unfold touchB
        rw [decide_eq_true (by omega), decide_eq_true (by omega)]; rfl
      rw [show [x].filter (touchB k) = [] by simp [hx], List.append_nil, if_neg h2, ih]
/-- The bytes of blocks, one behind the other. -/
def flatB (F : List (Vector UInt8 256)) : List UInt8 := (F.map (·.toList)).flatten
theorem flatB_len {F : List (Vector UInt8 256)} : (flatB F).length = 256 * F.length := by
  induction F with
  | nil => rfl
  | cons a F ih => unfold flatB at *; simp [ih]; omega
theorem flatB_drop : ∀ {F : List (Vector UInt8 256)} {i : Nat}, (flatB F).drop (i * 256) = flatB (F.drop i)
  | F, 0 => by simp
  | [], i + 1 => by simp [flatB]
  | a :: F, i + 1 => by
    have : flatB (a :: F) = a.toList ++ flatB F := by simp [flatB]
    rw [this, show (i + 1) * 256 = a.toList.length + i * 256 by simp; omega, List.drop_append, List.drop_eq_nil_of_le (by omega), List.nil_append, show a.toList.length + i * 256 - a.toList.length = i * 256 by omega, flatB_drop]; rfl
theorem flatB_cons {F : List (Vector UInt8 256)} {b : Vector UInt8 256} : flatB (b :: F) = b.toList ++ flatB F := by simp [flatB]
theorem flatB_snoc {F : List (Vector UInt8 256)} {b : Vector UInt8 256} : flatB (F ++ [b]) = flatB F ++ b.toList := by simp [flatB]
theorem findBlk_eq {F : List (Vector UInt8 256)} {b : Vector UInt8 256} : ∀ (d i : Nat), i + d = F.length → findBlk (flatB F) b.toList d i = if b ∈ F.drop i then ((i + pos (F.drop i) b : Nat) : Int) else -1
  | 0, i, h => by
    rw [List.drop_eq_nil_of_le (by omega)]; simp [findBlk]
  | d + 1, i, h => by
    have hi : i < F.length := by omega
    have hd : F.drop i = F[i] :: F.drop (i + 1) := List.drop_eq_getElem_cons hi
    simp only [findBlk]
    have ht : ((flatB F).drop (i * 256)).take 256 = F[i].toList := by
      rw [flatB_drop, hd]
      rw [flatB_cons, List.take_append_of_le_length (by simp), List.take_of_length_le (by simp)]
    rw [ht, findBlk_eq d (i + 1) (by omega), hd]
    by_cases hb : F[i] = b
    · rw [if_pos (by rw [hb]), if_pos (by simp [hb])]
      simp [pos, hb]
    · have hb2 : ¬ F[i].toList = b.toList := fun e => hb (Vector.toList_inj.1 e)
      rw [if_neg hb2]
      by_cases hm : b ∈ F.drop (i + 1)
      · rw [if_pos hm, if_pos (List.mem_cons_of_mem _ hm), pos_cons, if_neg hb]; omega
      · rw [if_neg hm, if_neg (fun h => (List.mem_cons.1 h).elim (fun e => hb e.symm) hm)]
theorem place_eq {F : List (Vector UInt8 256)} {L : List Int} {b : Vector UInt8 256} (hF : F.length ≤ 256) : scansionref03_Trie_place ⟨flatB F, L⟩ b.toList = some (if b ∈ F then ((pos F b : Nat) : Int) else -1) := by
  unfold scansionref03_Trie_place
  have hl := flatB_len (F := F)
  simp only [hl]
  rw [if_pos ⟨by omega, by omega, by simp⟩, show 256 * F.length / 256 = F.length by omega, findBlk_eq F.length 0 (by omega)]
  simp
theorem refAdd_eq {F : List (Vector UInt8 256)} {L : List Int} {b : Vector UInt8 256} (hF : F.length ≤ 256) (hL : L.length ≤ 4352) : ∃ n : Int, scansionref03_Trie_add ⟨flatB F, L⟩ b.toList = some ⟨flatB (addF F b), L ++ [n]⟩ := by
  unfold scansionref03_Trie_add
  rw [place_eq hF, Option.bind_some]
  by_cases hb : b ∈ F
  · rw [if_pos hb, if_neg (by simp)]
    unfold scansionref03_Trie_add.k1
    rw [room_ok (by show (L.length + 1) * 8 ≤ _; omega), Option.bind_some, addF, if_pos hb]
    exact ⟨_, rfl⟩
  · rw [if_neg hb, if_pos (by decide), room_ok (by show ((flatB F).length + b.toList.length) * 1 ≤ _; rw [flatB_len]; simp; omega), Option.bind_some]
    unfold scansionref03_Trie_add.k1
    rw [room_ok (by show (L.length + 1) * 8 ≤ _; omega), Option.bind_some, addF, if_neg hb, flatB_snoc]
    exact ⟨_, rfl⟩
end Go.Val

/- part R11 -/
/- Plain lemmas: the reference's Build, whole. -/
namespace Go.Val
set_option linter.unusedVariables false
set_option linter.unusedSimpArgs false
/-- A block's first bytes. -/
def partB (l : List TProp) (k i : Nat) : List UInt8 := (List.range 256).map fun j => if j < i then valN l ((k * 256 + j : Nat) : Int) else 0
theorem partB_len {l : List TProp} {k i : Nat} : (partB l k i).length = 256 := by simp [partB]
theorem partB_get {l : List TProp} {k i j : Nat} (h : j < 256) : (partB l k i)[j]? = some (if j < i then valN l ((k * 256 + j : Nat) : Int) else 0) := by
  unfold partB
  rw [List.getElem?_map, List.getElem?_range h]; rfl
theorem partB_set {l : List TProp} {k i : Nat} (h : i < 256) : (partB l k i).set i (valN l ((k * 256 + i : Nat) : Int)) = partB l k (i + 1) := by
  apply List.ext_getElem?
  intro j
  by_cases hj : j < 256
  · by_cases e : i = j
    · subst e
      rw [List.getElem?_set_self (by rw [partB_len]; exact hj), partB_get hj, if_pos (by omega)]
    · rw [List.getElem?_set_ne e, partB_get hj, partB_get hj]
      by_cases hlt : j < i
      · rw [if_pos hlt, if_pos (by omega)]
      · rw [if_neg hlt, if_neg (by omega)]
  · rw [List.getElem?_eq_none (by rw [List.length_set, partB_len]; omega), List.getElem?_eq_none (by rw [partB_len]; omega)]
theorem partB_end {l : List TProp} {k : Nat} : partB l k 256 = (blockOf l k).toList := by
  apply List.ext_getElem?
  intro j
  by_cases hj : j < 256
  · rw [partB_get hj, blockOf_get l k j hj, if_pos hj]
  · rw [List.getElem?_eq_none (by rw [partB_len]; omega), List.getElem?_eq_none (by rw [Vector.length_toList]; omega)]
theorem partB_start {l : List TProp} {k : Nat} : List.replicate 256 (0 : UInt8) = partB l k 0 := by
  apply List.ext_getElem?
  intro j
  by_cases hj : j < 256
  · rw [partB_get hj, if_neg (by omega), List.getElem?_replicate, if_pos hj]
  · rw [List.getElem?_eq_none (by rw [List.length_replicate]; omega), List.getElem?_eq_none (by rw [partB_len]; omega)]
theorem refBlk_loop {l : List TProp} {k : Nat} (hk : k < 4352) (hl : l.length ≤ 4096) (F : List UInt8) (L : List Int) (hne : l.filter (touchB k) ≠ []) : ∀ (d i : Nat), i + d = 256 →
    Loop (scansionref03_Build.b2 (k : Int) F L (l.filter (touchB k))) (partB l k i, (i : Int)) = scansionref03_Build.k4 (k : Int) F L (blockOf l k).toList
  | 0, i, h => by
    obtain rfl : i = 256 := by omega
    refine Loop_end ?_
    simp only [scansionref03_Build.b2]
    rw [if_neg (by simp), partB_end]
  | d + 1, i, h => by
    have hi : i < 256 := by omega
    rw [← refBlk_loop hk hl F L hne d (i + 1) (by omega)]
    refine Loop_next ?_
    simp only [scansionref03_Build.b2]
    have hp : 0 < (l.filter (touchB k)).length := List.length_pos_iff.2 hne
    have e1 : IntKind.i64.wrap (IntKind.i64.wrap ((k : Int) * 256) + (i : Int)) = ((k * 256 + i : Nat) : Int) := by rw [w64 (n := (k : Int) * 256) (by omega) (by omega), w64 (n := (k : Int) * 256 + (i : Int)) (by omega) (by omega)]; omega
    have hc : (decide ((i : Int) < 256) && decide (((l.filter (touchB k)).length : Int) > 0)) = true := by rw [decide_eq_true (by omega), decide_eq_true (by omega)]; rfl
    rw [if_pos hc, e1, value_eq (Nat.le_trans (List.length_filter_le _ _) hl), Option.bind_some, idx_nat, List.getElem?_eq_getElem (by rw [partB_len]; exact hi), Option.bind_some, valN_touch hi, w64s (by omega), Int.toNat_natCast, partB_set hi]
theorem refBlk {l : List TProp} {k : Nat} (hk : k < 4352) (hl : l.length ≤ 4096) (F : List UInt8) (L : List Int) :
    Loop (scansionref03_Build.b2 (k : Int) F L (l.filter (touchB k))) (List.replicate 256 0, (0 : Int)) = scansionref03_Build.k4 (k : Int) F L (blockOf l k).toList := by
  by_cases hne : l.filter (touchB k) = []
  · have hz : (blockOf l k).toList = List.replicate 256 0 := by
      rw [← partB_end]
      apply List.ext_getElem?
      intro j
      by_cases hj : j < 256
      · rw [partB_get hj, if_pos hj, ← valN_touch hj, hne, List.getElem?_replicate, if_pos hj]; rfl
      · rw [List.getElem?_eq_none (by rw [partB_len]; omega), List.getElem?_eq_none (by rw [List.length_replicate]; omega)]
    refine Loop_end ?_
    simp only [scansionref03_Build.b2]
    rw [if_neg (by simp [hne]), hz]
  · rw [partB_start (l := l) (k := k)]
    exact refBlk_loop hk hl F L hne 256 0 (by omega)
theorem refBuild_loop {N : Nat} (hN : N = 4352) {l : List TProp} (hl : l.length ≤ 4096) : ∀ (d k : Nat), k + d = N → ∀ (L : List Int), L.length = k → (firsts (blks l k)).length ≤ 256 →
    ∃ x, Loop (scansionref03_Build.b1 l) ((k : Int), flatB (firsts (blks l k)), L) = some (x, if (firsts (blks l N)).length ≤ 256 then 0 else 3)
  | 0, k, h, L, hL, hF => by
    obtain rfl : k = N := by omega
    rw [if_pos hF]
    refine ⟨_, Loop_end (R := some (some ⟨flatB (firsts (blks l k)), L⟩, 0)) ?_⟩
    simp only [scansionref03_Build.b1]
    rw [if_neg (by simp; omega)]; rfl
  | d + 1, k, h, L, hL, hF => by
    have hk : k < 4352 := by omega
    have hpre : firsts (blks l (k + 1)) <+: firsts (blks l N) := by
      have := blks_pre (l := l) (k := k + 1) d
      rw [show k + 1 + d = N by omega] at this; exact this
    obtain ⟨n, ha⟩ := refAdd_eq (F := firsts (blks l k)) (L := L) (b := blockOf l k) hF (by omega)
    rw [← firsts_snoc, ← blks_succ] at ha
    have h0 : scansionref03_Build.b1 l ((k : Int), flatB (firsts (blks l k)), L) = scansionref03_Build.k4 (k : Int) (flatB (firsts (blks l k))) L (blockOf l k).toList := by
      simp only [scansionref03_Build.b1]
      rw [if_pos (by simp; omega), touched_eq hk hl, Option.bind_some, show (256 : Int) = ((256 : Nat) : Int) by rfl, mk_ok (by omega), Option.bind_some]
      exact refBlk hk hl _ _
    have h1 : scansionref03_Build.b1 l ((k : Int), flatB (firsts (blks l k)), L) = if 256 < (firsts (blks l (k + 1))).length then some (.done (none, 3)) else some (.next (((k + 1 : Nat) : Int), flatB (firsts (blks l (k + 1))), L ++ [n])) := by
      rw [h0]
      unfold scansionref03_Build.k4
      rw [ha, Option.bind_some]
      simp only [flatB_len]
      by_cases hc : 256 < (firsts (blks l (k + 1))).length
      · rw [if_pos hc, if_pos (by simp; omega)]
      · rw [if_neg hc, if_neg (by simp; omega)]
        unfold scansionref03_Build.k3
        rw [w64s (by omega)]
    by_cases hc : 256 < (firsts (blks l (k + 1))).length
    · rw [if_pos hc] at h1
      rw [if_neg (by have := hpre.length_le; omega)]
      exact ⟨none, Loop_done h1⟩
    · rw [if_neg hc] at h1
      rw [Loop_next h1]
      exact refBuild_loop hN hl d (k + 1) (by omega) (L ++ [n]) (by simp [hL]) (by omega)
theorem refBuild_eq {N : Nat} (hN : N = 4352) {l : List TProp} (ho : ∀ x ∈ l, OkP x) (hl : l.length ≤ 4096) : ∃ x, scansionref03_Build l = some (x, if (firsts (blks l N)).length ≤ 256 then 0 else 3) := by
  unfold scansionref03_Build
  rw [if_neg (by simp; omega)]
  have hrun := Loop_int (b := scansionref03_Build.b3 l) (i := 0) (n := l.length) (Nat.zero_le _) (fun j _ hj => by
    simp only [scansionref03_Build.b3]
    obtain ⟨a, b, c⟩ := ho _ (List.getElem_mem hj)
    rw [if_pos (by simpa using hj), idx_nat, List.getElem?_eq_getElem hj, Option.bind_some, if_neg (by simp; omega), if_neg (by simp; omega), Option.bind_some, if_neg (by simp; omega), w64s (by omega)])
  simp only [Int.ofNat_zero, Int.natCast_zero] at hrun
  rw [hrun]
  obtain ⟨x, hx⟩ := refBuild_loop hN hl N 0 (by omega) [] rfl (by simp [blks, firsts])
  refine ⟨x, Loop_end ?_⟩
  simp only [scansionref03_Build.b3]
  rw [if_neg (by simp)]
  unfold scansionref03_Build.k1
  rw [← hx]; rfl
end Go.Val

/- part R12 -/
/- Plain lemmas: the edges of sets, by the program and by the reference. -/
namespace Go.Val
set_option linter.unusedVariables false
set_option linter.unusedSimpArgs false
theorem arr_at {zs : List Int} {m : Nat} (h : m < zs.length) : zs.toArray[m]! = zs[m] := by
  rw [getElem!_pos zs.toArray m (by simpa using h)]; simp
theorem compact_part {zs : List Int} (hs : zs.Pairwise (· ≤ ·)) : ∀ m, m ≤ zs.length → (Go.Lib.compactUpTo zs.toArray m).Pairwise (· < ·) ∧ (∀ x, x ∈ Go.Lib.compactUpTo zs.toArray m ↔ x ∈ zs.take m) ∧ (Go.Lib.compactUpTo zs.toArray m).length ≤ m
  | 0, _ => by simp [Go.Lib.compactUpTo]
  | m + 1, h => by
    obtain ⟨ih1, ih2, ih3⟩ := compact_part hs m (by omega)
    have hm : m < zs.length := by omega
    have hle : ∀ x ∈ zs.take m, x ≤ zs[m] := by
      intro x hx
      obtain ⟨j, hj, rfl⟩ := List.getElem_of_mem hx
      rw [List.getElem_take]
      have : j < m := by simp at hj; omega
      exact (List.pairwise_iff_getElem.1 hs) j m (by omega) hm this
    rw [Go.Lib.compactUpTo_succ, arr_at hm, take_snocP hm]
    by_cases hk : Go.Lib.keeps zs.toArray m = true
    · rw [if_pos hk]
      refine ⟨?_, fun x => by rw [List.mem_append, List.mem_append, ih2], by simp; omega⟩
      rw [List.pairwise_append]
      refine ⟨ih1, List.pairwise_singleton _ _, fun x hx y hy => ?_⟩
      simp at hy; subst hy
      have h1 := hle x ((ih2 x).1 hx)
      rcases Int.lt_or_eq_of_le h1 with h2 | h2
      · exact h2
      · exfalso
        simp only [Go.Lib.keeps, decide_eq_true_eq] at hk
        rcases hk with hk | hk
        · subst hk; simp at ih2; exact absurd hx (ih2 x)
        · have h0 : 0 < m := by
            rcases Nat.eq_zero_or_pos m with h0 | h0
            · subst h0; exact absurd ((ih2 x).1 hx) (by simp)
            · exact h0
          rw [arr_at hm, arr_at (by omega)] at hk
          have hx2 := (ih2 x).1 hx
          obtain ⟨j, hj, rfl⟩ := List.getElem_of_mem hx2
          rw [List.getElem_take] at h2
          have hj2 : j < m := by simp at hj; omega
          have hj3 : zs[j]'(by omega) ≤ zs[m - 1]'(by omega) := by
            rcases Nat.lt_or_ge j (m - 1) with q | q
            · exact (List.pairwise_iff_getElem.1 hs) j (m - 1) (by omega) (by omega) q
            · have : j = m - 1 := by omega
              subst this; exact Int.le_refl _
          have hj4 : zs[m - 1]'(by omega) ≤ zs[m] := (List.pairwise_iff_getElem.1 hs) (m - 1) m (by omega) hm (by omega)
          exact hk (by omega)
    · rw [if_neg hk, List.append_nil]
      refine ⟨ih1, fun x => ?_, by omega⟩
      rw [ih2, List.mem_append]
      refine ⟨.inl, fun h => h.elim id fun h => ?_⟩
      simp at h; subst h
      simp only [Go.Lib.keeps, decide_eq_true_eq, not_or, ne_eq, Classical.not_not] at hk
      rw [arr_at hm, arr_at (by omega)] at hk
      rw [hk.2]
      exact List.mem_take_iff_getElem.2 ⟨m - 1, by omega, rfl⟩
theorem compact_spec {zs : List Int} (hs : zs.Pairwise (· ≤ ·)) : (Go.Lib.compact zs).Pairwise (· < ·) ∧ (∀ x, x ∈ Go.Lib.compact zs ↔ x ∈ zs) ∧ (Go.Lib.compact zs).length ≤ zs.length := by
  have := compact_part hs zs.length (Nat.le_refl _)
  rw [List.take_length] at this; exact this
theorem rise_unique : ∀ {l m : List Int}, l.Pairwise (· < ·) → m.Pairwise (· < ·) → (∀ x, x ∈ l ↔ x ∈ m) → l = m
  | [], [], _, _, _ => rfl
  | [], b :: m, _, _, h => absurd ((h b).2 (by simp)) (by simp)
  | a :: l, [], _, _, h => absurd ((h a).1 (by simp)) (by simp)
  | a :: l, b :: m, h1, h2, h => by
    rw [List.pairwise_cons] at h1 h2
    have hab : a = b := by
      have ha := (h a).1 (by simp)
      have hb := (h b).2 (by simp)
      rcases List.mem_cons.1 ha with e | ha
      · exact e
      · rcases List.mem_cons.1 hb with e | hb
        · exact e.symm
        · have := h1.1 b hb; have := h2.1 a ha; omega
    subst hab
    rw [rise_unique h1.2 h2.2 fun x => ?_]
    have := h x
    simp only [List.mem_cons] at this
    constructor
    · intro hx
      have := h1.1 x hx
      exact (this |> fun _ => (‹x = a ∨ x ∈ l ↔ x = a ∨ x ∈ m›.1 (.inr hx))).elim (fun e => by omega) id
    · intro hx
      have := h2.1 x hx
      exact (this |> fun _ => (‹x = a ∨ x ∈ l ↔ x = a ∨ x ∈ m›.2 (.inr hx))).elim (fun e => by omega) id
theorem flat_snoc {S : List (List TRange)} {i : Nat} (h : i < S.length) : (S.take (i + 1)).flatten = (S.take i).flatten ++ S[i] := by
  rw [take_snocP h, List.flatten_append]; simp
theorem flat_len {S : List (List TRange)} (i : Nat) : (S.take i).flatten.length ≤ S.flatten.length := by
  have : S.flatten = (S.take i).flatten ++ (S.drop i).flatten := by rw [← List.flatten_append, List.take_append_drop]
  rw [this, List.length_append]; omega
theorem ed_len {S : List (List TRange)} {i : Nat} (h : i < S.length) : (S.take i).flatten.length + S[i].length ≤ S.flatten.length := by
  have := flat_len (S := S) (i + 1)
  rw [flat_snoc h, List.length_append] at this; exact this
theorem mem_flat {S : List (List TRange)} {i : Nat} (h : i < S.length) {x : TRange} (hx : x ∈ S[i]) : x ∈ S.flatten := List.mem_flatten.2 ⟨S[i], List.getElem_mem h, hx⟩
/-- The program's edges, before they are sorted. -/
theorem ed_inner {S : List (List TRange)} (hok : ∀ x ∈ S.flatten, Ok x) (hl : S.flatten.length ≤ 1000000) {i : Nat} (hi : i < S.length) : ∀ (d k : Nat), k + d = S[i].length → ∀ out : List Int, (∀ e, e ∈ out ↔ Edge ((S.take i).flatten ++ S[i].take k) e) → out.length ≤ 2 * ((S.take i).flatten.length + k) + 1 →
    ∃ out', Loop (alphabet_edges.b2 (i : Int) S[i]) (out, (k : Int)) = alphabet_edges.k2 (i : Int) out' ∧ (∀ e, e ∈ out' ↔ Edge ((S.take (i + 1)).flatten) e) ∧ out'.length ≤ 2 * (S.take (i + 1)).flatten.length + 1
  | 0, k, h, out, hm, ho => by
    obtain rfl : k = S[i].length := by omega
    refine ⟨out, Loop_end ?_, fun e => by rw [hm, flat_snoc hi, List.take_length], by rw [flat_snoc hi, List.length_append]; exact ho⟩
    simp only [alphabet_edges.b2]
    rw [if_neg (by simp)]
  | d + 1, k, h, out, hm, ho => by
    have hk : k < S[i].length := by omega
    have hel := ed_len hi
    obtain ⟨a, b, c⟩ := hok _ (mem_flat hi (List.getElem_mem hk))
    have htk : S[i].take (k + 1) = S[i].take k ++ [S[i][k]] := take_snocP hk
    by_cases hh : S[i][k].High < 1114111
    · obtain ⟨out', h1, h2, h3⟩ := ed_inner hok hl hi d (k + 1) (by omega) (out ++ [S[i][k].Low] ++ [S[i][k].High + 1]) (fun e => by
        rw [htk, ← List.append_assoc, Edge_snoc, ← hm]
        simp only [List.mem_append, List.mem_singleton]
        constructor
        · rintro ((h | h) | h)
          · exact .inl (.inl h)
          · exact .inl (.inr h)
          · exact .inr ⟨hh, h⟩
        · rintro ((h | h) | h)
          · exact .inl (.inl h)
          · exact .inl (.inr h)
          · exact .inr h.2) (by simp only [List.length_append, List.length_singleton]; omega)
      refine ⟨out', ?_, h2, h3⟩
      rw [← h1]
      refine Loop_next ?_
      simp only [alphabet_edges.b2]
      rw [if_pos (by simpa using hk), idx_nat, List.getElem?_eq_getElem hk, Option.bind_some, room_ok (by omega), Option.bind_some, if_pos (decide_eq_true hh), room_ok (by omega), Option.bind_some, w64 (n := S[i][k].High + 1) (by omega) (by omega)]
      unfold alphabet_edges.k3
      rw [w64s (by omega)]
    · obtain ⟨out', h1, h2, h3⟩ := ed_inner hok hl hi d (k + 1) (by omega) (out ++ [S[i][k].Low]) (fun e => by
        rw [htk, ← List.append_assoc, Edge_snoc, ← hm]
        simp only [List.mem_append, List.mem_singleton]
        constructor
        · rintro (h | h)
          · exact .inl (.inl h)
          · exact .inl (.inr h)
        · rintro ((h | h) | h)
          · exact .inl h
          · exact .inr h
          · exact absurd h.1 hh) (by simp only [List.length_append, List.length_singleton]; omega)
      refine ⟨out', ?_, h2, h3⟩
      rw [← h1]
      refine Loop_next ?_
      simp only [alphabet_edges.b2]
      rw [if_pos (by simpa using hk), idx_nat, List.getElem?_eq_getElem hk, Option.bind_some, room_ok (by omega), Option.bind_some, if_neg (by simpa using hh)]
      unfold alphabet_edges.k3
      rw [w64s (by omega)]
theorem ed_outer {S : List (List TRange)} (hok : ∀ x ∈ S.flatten, Ok x) (hl : S.flatten.length ≤ 1000000) (hs : S.length ≤ 1000000) : ∀ (d i : Nat), i + d = S.length → ∀ out : List Int, (∀ e, e ∈ out ↔ Edge ((S.take i).flatten) e) → out.length ≤ 2 * (S.take i).flatten.length + 1 →
    ∃ out', Loop (alphabet_edges.b1 S) (out, (i : Int)) = alphabet_edges.k1 out' ∧ (∀ e, e ∈ out' ↔ Edge S.flatten e) ∧ out'.length ≤ 2 * S.flatten.length + 1
  | 0, i, h, out, hm, ho => by
    obtain rfl : i = S.length := by omega
    rw [List.take_length] at hm ho
    refine ⟨out, Loop_end ?_, hm, ho⟩
    simp only [alphabet_edges.b1]
    rw [if_neg (by simp)]
  | d + 1, i, h, out, hm, ho => by
    have hi : i < S.length := by omega
    obtain ⟨o1, h1, h2, h3⟩ := ed_inner hok hl hi S[i].length 0 (by omega) out (fun e => by rw [hm]; simp) (by omega)
    obtain ⟨o2, q1, q2, q3⟩ := ed_outer hok hl hs d (i + 1) (by omega) o1 h2 h3
    refine ⟨o2, ?_, q2, q3⟩
    rw [← q1]
    refine Loop_next ?_
    simp only [alphabet_edges.b1]
    rw [if_pos (by simpa using hi), idx_nat, List.getElem?_eq_getElem hi, Option.bind_some]
    refine h1.trans ?_
    unfold alphabet_edges.k2
    rw [w64s (by omega)]
theorem edges_ok {S : List (List TRange)} (hok : ∀ x ∈ S.flatten, Ok x) (hl : S.flatten.length ≤ 1000000) (hs : S.length ≤ 1000000) : ∃ E, alphabet_edges S = some E ∧ E.Pairwise (· < ·) ∧ (∀ e, e ∈ E ↔ Edge S.flatten e) ∧ E.length ≤ 2 * S.flatten.length + 1 := by
  obtain ⟨o, h1, h2, h3⟩ := ed_outer hok hl hs S.length 0 (by omega) [0] (fun e => by simp [Edge]) (by simp)
  have hp : (o.mergeSort fun x y => decide (x ≤ y)).Perm o := List.mergeSort_perm _ _
  have hsort : (o.mergeSort fun x y => decide (x ≤ y)).Pairwise (· ≤ ·) := by
    have := List.pairwise_mergeSort (le := fun x y : Int => decide (x ≤ y)) (by intro a b c; simp; omega) (by intro a b; simp; omega) o
    exact this.imp (by simp)
  obtain ⟨c1, c2, c3⟩ := compact_spec hsort
  have hlen := hp.length_eq
  refine ⟨Go.Lib.compact (o.mergeSort fun x y => decide (x ≤ y)), ?_, c1, fun e => by rw [c2, hp.mem_iff, h2], by omega⟩
  refine h1.trans ?_
  unfold alphabet_edges.k1 sortI
  rw [if_pos (by unfold roomOf; omega), Option.bind_some]
  unfold slices_Compact_int_int
  rw [if_pos (by unfold roomOf; omega)]; rfl
end Go.Val

/- part R13 -/
/- Plain lemmas: the reference's edges are the program's. -/
namespace Go.Val
set_option linter.unusedVariables false
set_option linter.unusedSimpArgs false
theorem rising9_eq : scansionref09_rising = scansionref02_rising := rfl
theorem red_inner {S : List (List TRange)} (hok : ∀ x ∈ S.flatten, Ok x) (hl : S.flatten.length ≤ 1000000) {i : Nat} (hi : i < S.length) : ∀ (d k : Nat), k + d = S[i].length → ∀ out : List Int, out.Pairwise (· < ·) → (∀ e, e ∈ out ↔ Edge ((S.take i).flatten ++ S[i].take k) e) → out.length ≤ 2 * ((S.take i).flatten.length + k) + 1 →
    ∃ out', Loop (scansionref09_edges.b2 S (i : Int)) (out, (k : Int)) = scansionref09_edges.k2 (i : Int) out' ∧ out'.Pairwise (· < ·) ∧ (∀ e, e ∈ out' ↔ Edge ((S.take (i + 1)).flatten) e) ∧ out'.length ≤ 2 * (S.take (i + 1)).flatten.length + 1
  | 0, k, h, out, hp, hm, ho => by
    obtain rfl : k = S[i].length := by omega
    refine ⟨out, Loop_end ?_, hp, fun e => by rw [hm, flat_snoc hi, List.take_length], by rw [flat_snoc hi, List.length_append]; exact ho⟩
    simp only [scansionref09_edges.b2]
    rw [idx_nat, List.getElem?_eq_getElem hi, Option.bind_some, if_neg (by simp)]
  | d + 1, k, h, out, hp, hm, ho => by
    have hk : k < S[i].length := by omega
    have hel := ed_len hi
    obtain ⟨a, b, c⟩ := hok _ (mem_flat hi (List.getElem_mem hk))
    have htk : S[i].take (k + 1) = S[i].take k ++ [S[i][k]] := take_snocP hk
    obtain ⟨r, r1, r2, r3, r4⟩ := rising_spec (n := S[i][k].Low) hp (by omega)
    by_cases hh : S[i][k].High < 1114111
    · obtain ⟨q, q1, q2, q3, q4⟩ := rising_spec (n := S[i][k].High + 1) r2 (by omega)
      obtain ⟨out', h1, h2, h3, h4⟩ := red_inner hok hl hi d (k + 1) (by omega) q q2 (fun e => by
        rw [htk, ← List.append_assoc, Edge_snoc, ← hm, q3, r3]
        constructor
        · rintro (h | h)
          · exact .inl h
          · exact .inr ⟨hh, h⟩
        · rintro (h | h)
          · exact .inl h
          · exact .inr h.2) (by omega)
      refine ⟨out', ?_, h2, h3, h4⟩
      rw [← h1]
      refine Loop_next ?_
      simp only [scansionref09_edges.b2]
      rw [idx_nat, List.getElem?_eq_getElem hi, Option.bind_some, if_pos (by simpa using hk), idx_nat, List.getElem?_eq_getElem hk, Option.bind_some, rising9_eq, r1, Option.bind_some, if_pos (decide_eq_true hh), w64 (n := S[i][k].High + 1) (by omega) (by omega), q1, Option.bind_some]
      unfold scansionref09_edges.k3
      rw [w64s (by omega)]
    · obtain ⟨out', h1, h2, h3, h4⟩ := red_inner hok hl hi d (k + 1) (by omega) r r2 (fun e => by
        rw [htk, ← List.append_assoc, Edge_snoc, ← hm, r3]
        constructor
        · exact .inl
        · rintro (h | h)
          · exact h
          · exact absurd h.1 hh) (by omega)
      refine ⟨out', ?_, h2, h3, h4⟩
      rw [← h1]
      refine Loop_next ?_
      simp only [scansionref09_edges.b2]
      rw [idx_nat, List.getElem?_eq_getElem hi, Option.bind_some, if_pos (by simpa using hk), idx_nat, List.getElem?_eq_getElem hk, Option.bind_some, rising9_eq, r1, Option.bind_some, if_neg (by simpa using hh)]
      unfold scansionref09_edges.k3
      rw [w64s (by omega)]
theorem red_outer {S : List (List TRange)} (hok : ∀ x ∈ S.flatten, Ok x) (hl : S.flatten.length ≤ 1000000) (hs : S.length ≤ 1000000) : ∀ (d i : Nat), i + d = S.length → ∀ out : List Int, out.Pairwise (· < ·) → (∀ e, e ∈ out ↔ Edge ((S.take i).flatten) e) → out.length ≤ 2 * (S.take i).flatten.length + 1 →
    ∃ out', Loop (scansionref09_edges.b1 S) (out, (i : Int)) = some out' ∧ out'.Pairwise (· < ·) ∧ (∀ e, e ∈ out' ↔ Edge S.flatten e)
  | 0, i, h, out, hp, hm, ho => by
    obtain rfl : i = S.length := by omega
    rw [List.take_length] at hm
    refine ⟨out, Loop_end (R := some out) ?_, hp, hm⟩
    simp only [scansionref09_edges.b1]
    rw [if_neg (by simp)]; rfl
  | d + 1, i, h, out, hp, hm, ho => by
    have hi : i < S.length := by omega
    obtain ⟨o1, h1, h2, h3, h4⟩ := red_inner hok hl hi S[i].length 0 (by omega) out hp (fun e => by rw [hm]; simp) (by omega)
    obtain ⟨o2, q1, q2, q3⟩ := red_outer hok hl hs d (i + 1) (by omega) o1 h2 h3 h4
    refine ⟨o2, ?_, q2, q3⟩
    rw [← q1]
    refine Loop_next ?_
    simp only [scansionref09_edges.b1]
    rw [if_pos (by simpa using hi)]
    refine h1.trans ?_
    unfold scansionref09_edges.k2
    rw [w64s (by omega)]
/-- The rising edges of sets; both find them. -/
theorem edges_both {S : List (List TRange)} (hok : ∀ x ∈ S.flatten, Ok x) (hl : S.flatten.length ≤ 1000000) (hs : S.length ≤ 1000000) : ∃ E, alphabet_edges S = some E ∧ scansionref09_edges S = some E ∧ E.Pairwise (· < ·) ∧ (∀ e, e ∈ E ↔ Edge S.flatten e) ∧ E.length ≤ 2 * S.flatten.length + 1 := by
  obtain ⟨E, h1, h2, h3, h4⟩ := edges_ok hok hl hs
  obtain ⟨D, q1, q2, q3⟩ := red_outer hok hl hs S.length 0 (by omega) [0] (List.pairwise_singleton _ _) (fun e => by simp [Edge]) (by simp)
  have : D = E := rise_unique q2 h2 fun x => by rw [q3, h3]
  subst this
  exact ⟨D, h1, q1, h2, h3, h4⟩
end Go.Val

/- part R14 -/
/- Plain lemmas: the classes of the program. -/
namespace Go.Val
set_option linter.unusedVariables false
set_option linter.unusedSimpArgs false
/-- One number of each class, where it is first. -/
def addR {α K : Type} [DecidableEq K] (f : α → K) (L : List α) (a : α) : List α := if f a ∈ L.map f then L else L ++ [a]
def reps {α K : Type} [DecidableEq K] (f : α → K) (l : List α) : List α := l.foldl (addR f) []
theorem reps_snoc {α K : Type} [DecidableEq K] {f : α → K} {l : List α} {a : α} : reps f (l ++ [a]) = addR f (reps f l) a := by
  unfold reps; rw [List.foldl_append]; rfl
theorem reps_map {α K : Type} [DecidableEq K] {f : α → K} {l : List α} : (reps f l).map f = firsts (l.map f) := by
  induction l using snoc_ind with
  | h0 => rfl
  | h1 l x ih =>
    rw [reps_snoc, List.map_append, List.map_singleton, firsts_snoc, ← ih]
    unfold addR addF
    split <;> simp
theorem reps_len {α K : Type} [DecidableEq K] {f : α → K} {l : List α} : (reps f l).length = (firsts (l.map f)).length := by rw [← reps_map, List.length_map]
/-- A number's mask. -/
def mkI (S : List (List TRange)) (r : Int) : Int := ((maskP S r S.length : Nat) : Int)
/-- The first pieces between edges, with their classes. -/
def pieces (f : Int → Int) (E : List Int) (k : Nat) : List TProp := (List.range k).map fun i => ⟨bnd E i, bnd E (i + 1) - 1, UInt8.ofNat (pos (firsts (E.map f)) (f (bnd E i)))⟩
theorem pieces_succ {f : Int → Int} {E : List Int} {k : Nat} : pieces f E (k + 1) = pieces f E k ++ [⟨bnd E k, bnd E (k + 1) - 1, UInt8.ofNat (pos (firsts (E.map f)) (f (bnd E k)))⟩] := by
  unfold pieces; rw [List.range_succ, List.map_append]; rfl
theorem pieces_len {f : Int → Int} {E : List Int} {k : Nat} : (pieces f E k).length = k := by simp [pieces]
theorem take_map_pre {f : Int → Int} {E : List Int} (k : Nat) : firsts ((E.take k).map f) <+: firsts (E.map f) := by
  have : E.map f = (E.take k).map f ++ (E.drop k).map f := by rw [← List.map_append, List.take_append_drop]
  rw [this]; exact firsts_pre
variable {S : List (List TRange)} {E : List Int}
theorem new_k3 {k c : Nat} {L M : List Int} {m : List (Int × Int)} (hk : k < E.length) (hb : ∀ e ∈ E, 0 ≤ e ∧ e ≤ 1114111) (hE : E.length ≤ 4096) (hm : m.length ≤ 200) (hc : c < 256) (hp : c = pos (firsts (E.map (mkI S))) (mkI S (bnd E k))) :
    alphabet_New.k3 E (pieces (mkI S) E k) (k : Int) E[k] (c : Int) M L m = some (.next (pieces (mkI S) E (k + 1), ((k + 1 : Nat) : Int), M, L, m)) := by
  unfold alphabet_New.k3
  rw [if_neg (by simp; omega), w64s (by omega)]
  have h4 : ∀ h : Int, h = bnd E (k + 1) - 1 → alphabet_New.k4 (pieces (mkI S) E k) (k : Int) E[k] (c : Int) M L m h = some (.next (pieces (mkI S) E (k + 1), ((k + 1 : Nat) : Int), M, L, m)) := by
    intro h e
    unfold alphabet_New.k4
    rw [room_ok (by rw [pieces_len]; omega), Option.bind_some, w64s (by omega), u8w_nat hc, pieces_succ, ← hp, bnd_at hk, e]
  by_cases h1 : k + 1 < E.length
  · have hx := hb _ (List.getElem_mem h1)
    rw [if_pos (decide_eq_true (by omega)), idx_nat, List.getElem?_eq_getElem h1, Option.bind_some]
    exact h4 _ (by rw [bnd_at h1, w64 (by omega) (by omega)])
  · rw [if_neg (by simp; omega)]
    have e : k + 1 = E.length := by omega
    exact h4 _ (by rw [e, bnd_end]; rfl)
theorem new_loop (hn : ∀ s ∈ S, Norm s) (hS : S.length ≤ 60) (hb : ∀ e ∈ E, 0 ≤ e ∧ e ≤ 1114111) (hE : E.length ≤ 4096) : ∀ (d k : Nat), k + d = E.length → ∀ m : List (Int × Int), Knows m (firsts ((E.take k).map (mkI S))) → (firsts ((E.take k).map (mkI S))).length ≤ 200 →
    Loop (alphabet_New.b1 S E) (pieces (mkI S) E k, (k : Int), firsts ((E.take k).map (mkI S)), reps (mkI S) (E.take k), m) = if (firsts (E.map (mkI S))).length ≤ 200 then alphabet_New.k2 (pieces (mkI S) E E.length) (firsts (E.map (mkI S))) (reps (mkI S) E) else some (none, 3)
  | 0, k, h, m, hK, hF => by
    obtain rfl : k = E.length := by omega
    rw [List.take_length] at hF ⊢
    rw [if_pos hF]
    refine Loop_end ?_
    simp only [alphabet_New.b1]
    rw [if_neg (by simp)]
  | d + 1, k, h, m, hK, hF => by
    have hk : k < E.length := by omega
    have hmask : alphabet_mask S E[k] = some (mkI S E[k]) := mask_eq hn hS E[k]
    have htk : (E.take (k + 1)).map (mkI S) = (E.take k).map (mkI S) ++ [mkI S E[k]] := by rw [take_snocP hk, List.map_append]; rfl
    have hr : reps (mkI S) (E.take (k + 1)) = addR (mkI S) (reps (mkI S) (E.take k)) E[k] := by rw [take_snocP hk, reps_snoc]
    have hpre := take_map_pre (f := mkI S) (E := E) (k + 1)
    have hmem : mkI S E[k] ∈ firsts ((E.take (k + 1)).map (mkI S)) := by rw [mem_firsts, htk]; simp
    have hrl := reps_len (f := mkI S) (l := E.take k)
    by_cases hin : mkI S E[k] ∈ firsts ((E.take k).map (mkI S))
    · have e1 : firsts ((E.take (k + 1)).map (mkI S)) = firsts ((E.take k).map (mkI S)) := by rw [htk, firsts_snoc, addF, if_pos hin]
      have e2 : reps (mkI S) (E.take (k + 1)) = reps (mkI S) (E.take k) := by rw [hr, addR, reps_map, if_pos hin]
      have ih := new_loop hn hS hb hE d (k + 1) (by omega) m (by rw [e1]; exact hK) (by rw [e1]; exact hF)
      rw [← ih, e1, e2]
      refine Loop_next ?_
      simp only [alphabet_New.b1]
      rw [if_pos (by simpa using hk), idx_nat, List.getElem?_eq_getElem hk, Option.bind_some, hmask, Option.bind_some, hK.some hin]
      simp only [Option.isSome_some, Bool.not_true, Bool.false_eq_true, if_false, Option.getD_some]
      have hlt := pos_lt hin
      refine new_k3 hk hb hE (by rw [hK.1]; exact hF) (by omega) ?_
      rw [bnd_at hk, pos_pre hpre hmem, e1]
    · have e1 : firsts ((E.take (k + 1)).map (mkI S)) = firsts ((E.take k).map (mkI S)) ++ [mkI S E[k]] := by rw [htk, firsts_snoc, addF, if_neg hin]
      have e2 : reps (mkI S) (E.take (k + 1)) = reps (mkI S) (E.take k) ++ [E[k]] := by rw [hr, addR, reps_map, if_neg hin]
      have hK2 := hK.new hin
      have hstep : alphabet_New.b1 S E (pieces (mkI S) E k, (k : Int), firsts ((E.take k).map (mkI S)), reps (mkI S) (E.take k), m) = alphabet_New.k3 E (pieces (mkI S) E k) (k : Int) E[k] ((firsts ((E.take k).map (mkI S))).length : Int) (firsts ((E.take k).map (mkI S)) ++ [mkI S E[k]]) (reps (mkI S) (E.take k) ++ [E[k]]) (aput (mkI S E[k]) ((firsts ((E.take k).map (mkI S))).length : Int) m) := by
        simp only [alphabet_New.b1]
        rw [if_pos (by simpa using hk), idx_nat, List.getElem?_eq_getElem hk, Option.bind_some, hmask, Option.bind_some, hK.none hin]
        simp only [Option.isSome_none, Bool.not_false, if_true]
        rw [room_ok (by omega), Option.bind_some, room_ok (by omega), Option.bind_some, hK.1]
      by_cases hf : (firsts ((E.take k).map (mkI S))).length < 200
      · have ih := new_loop hn hS hb hE d (k + 1) (by omega) _ (by rw [e1]; exact hK2) (by rw [e1, List.length_append, List.length_singleton]; omega)
        rw [← ih, e1, e2]
        refine Loop_next (hstep.trans (new_k3 hk hb hE (by rw [hK2.1, List.length_append, List.length_singleton]; omega) (by omega) ?_))
        rw [bnd_at hk, pos_pre hpre hmem, e1, pos_new hin]
      · have hlen := hpre.length_le
        rw [e1, List.length_append, List.length_singleton] at hlen
        rw [if_neg (by omega)]
        refine Loop_done (hstep.trans ?_)
        unfold alphabet_New.k3
        rw [if_pos (decide_eq_true (by rw [hK2.1, List.length_append, List.length_singleton]; omega))]
end Go.Val

/- part R15 -/
/- Plain lemmas: the classes of the reference; a number's value by the pieces. -/
namespace Go.Val
set_option linter.unusedVariables false
set_option linter.unusedSimpArgs false
variable {S : List (List TRange)} {E : List Int}
theorem find_eq {A : Tscansionref09_Alphabet} (hl : A.M.length ≤ 1000) (x : Int) : scansionref09_Alphabet_find A x = some (if x ∈ A.M then ((pos A.M x : Nat) : Int) else -1) := by
  unfold scansionref09_Alphabet_find
  have hle : pos A.M x ≤ A.M.length := List.idxOf_le_length
  have hrun := Loop_int (b := scansionref09_Alphabet_find.b1 A x) (i := 0) (n := pos A.M x) (Nat.zero_le _) (fun j _ hj => by
    have hjl : j < A.M.length := by omega
    have hne := pos_first hj
    rw [List.getElem?_eq_getElem hjl] at hne
    simp only [scansionref09_Alphabet_find.b1]
    rw [if_pos (by simpa using hjl), idx_nat, List.getElem?_eq_getElem hjl, Option.bind_some, if_neg (by simpa using hne), w64s (by omega)])
  simp only [Int.ofNat_zero, Int.natCast_zero] at hrun
  rw [hrun]
  by_cases hx : x ∈ A.M
  · rw [if_pos hx]
    refine Loop_done ?_
    simp only [scansionref09_Alphabet_find.b1]
    have hlt := pos_lt hx
    rw [if_pos (decide_eq_true (by omega)), idx_nat, pos_get hx, Option.bind_some, if_pos (by simp)]
  · rw [if_neg hx]
    have : pos A.M x = A.M.length := by
      unfold pos; exact List.idxOf_eq_length hx
    refine Loop_end (R := some (-1)) ?_
    simp only [scansionref09_Alphabet_find.b1]
    rw [if_neg (by simp; omega)]; rfl
theorem rnew_k3 {k c : Nat} {L M : List Int} (hk : k < E.length) (hb : ∀ e ∈ E, 0 ≤ e ∧ e ≤ 1114111) (hE : E.length ≤ 4096) (hm : M.length ≤ 200) (hc : c < 256) (hp : c = pos (firsts (E.map (mkI S))) (mkI S (bnd E k))) :
    scansionref09_New.k3 E (pieces (mkI S) E k) (k : Int) E[k] (c : Int) M L = some (.next (pieces (mkI S) E (k + 1), ((k + 1 : Nat) : Int), M, L)) := by
  unfold scansionref09_New.k3
  rw [if_neg (by simp; omega), w64s (by omega)]
  have h4 : ∀ h : Int, h = bnd E (k + 1) - 1 → scansionref09_New.k4 (pieces (mkI S) E k) (k : Int) E[k] (c : Int) M L h = some (.next (pieces (mkI S) E (k + 1), ((k + 1 : Nat) : Int), M, L)) := by
    intro h e
    unfold scansionref09_New.k4
    rw [room_ok (by rw [pieces_len]; omega), Option.bind_some, w64s (by omega), u8w_nat hc, pieces_succ, ← hp, bnd_at hk, e]
  by_cases h1 : k + 1 < E.length
  · have hx := hb _ (List.getElem_mem h1)
    rw [if_pos (decide_eq_true (by omega)), idx_nat, List.getElem?_eq_getElem h1, Option.bind_some]
    exact h4 _ (by rw [bnd_at h1, w64 (by omega) (by omega)])
  · rw [if_neg (by simp; omega)]
    have e : k + 1 = E.length := by omega
    exact h4 _ (by rw [e, bnd_end]; rfl)
theorem rnew_loop (hn : ∀ s ∈ S, s.length < 9223372036854775807) (hS : S.length ≤ 60) (hb : ∀ e ∈ E, 0 ≤ e ∧ e ≤ 1114111) (hE : E.length ≤ 4096) : ∀ (d k : Nat), k + d = E.length → (firsts ((E.take k).map (mkI S))).length ≤ 200 →
    Loop (scansionref09_New.b1 S E) (pieces (mkI S) E k, (k : Int), firsts ((E.take k).map (mkI S)), reps (mkI S) (E.take k)) = if (firsts (E.map (mkI S))).length ≤ 200 then scansionref09_New.k2 S (pieces (mkI S) E E.length) (firsts (E.map (mkI S))) (reps (mkI S) E) else some (none, 3)
  | 0, k, h, hF => by
    obtain rfl : k = E.length := by omega
    rw [List.take_length] at hF ⊢
    rw [if_pos hF]
    refine Loop_end ?_
    simp only [scansionref09_New.b1]
    rw [if_neg (by simp)]
  | d + 1, k, h, hF => by
    have hk : k < E.length := by omega
    have hmask : scansionref09_mask S E[k] = some (mkI S E[k]) := refMask_eq hn hS E[k]
    have htk : (E.take (k + 1)).map (mkI S) = (E.take k).map (mkI S) ++ [mkI S E[k]] := by rw [take_snocP hk, List.map_append]; rfl
    have hr : reps (mkI S) (E.take (k + 1)) = addR (mkI S) (reps (mkI S) (E.take k)) E[k] := by rw [take_snocP hk, reps_snoc]
    have hpre := take_map_pre (f := mkI S) (E := E) (k + 1)
    have hmem : mkI S E[k] ∈ firsts ((E.take (k + 1)).map (mkI S)) := by rw [mem_firsts, htk]; simp
    have hrl := reps_len (f := mkI S) (l := E.take k)
    have hfind := find_eq (A := ⟨S, firsts ((E.take k).map (mkI S)), reps (mkI S) (E.take k)⟩) (by show (firsts _).length ≤ 1000; omega) (mkI S E[k])
    simp only at hfind
    by_cases hin : mkI S E[k] ∈ firsts ((E.take k).map (mkI S))
    · have e1 : firsts ((E.take (k + 1)).map (mkI S)) = firsts ((E.take k).map (mkI S)) := by rw [htk, firsts_snoc, addF, if_pos hin]
      have e2 : reps (mkI S) (E.take (k + 1)) = reps (mkI S) (E.take k) := by rw [hr, addR, reps_map, if_pos hin]
      have ih := rnew_loop hn hS hb hE d (k + 1) (by omega) (by rw [e1]; exact hF)
      rw [← ih, e1, e2]
      refine Loop_next ?_
      simp only [scansionref09_New.b1]
      rw [if_pos (by simpa using hk), idx_nat, List.getElem?_eq_getElem hk, Option.bind_some, hmask, Option.bind_some, hfind, Option.bind_some, if_pos hin, if_neg (by simp)]
      have hlt := pos_lt hin
      refine rnew_k3 hk hb hE hF (by omega) ?_
      rw [bnd_at hk, pos_pre hpre hmem, e1]
    · have e1 : firsts ((E.take (k + 1)).map (mkI S)) = firsts ((E.take k).map (mkI S)) ++ [mkI S E[k]] := by rw [htk, firsts_snoc, addF, if_neg hin]
      have e2 : reps (mkI S) (E.take (k + 1)) = reps (mkI S) (E.take k) ++ [E[k]] := by rw [hr, addR, reps_map, if_neg hin]
      have hstep : scansionref09_New.b1 S E (pieces (mkI S) E k, (k : Int), firsts ((E.take k).map (mkI S)), reps (mkI S) (E.take k)) = scansionref09_New.k3 E (pieces (mkI S) E k) (k : Int) E[k] ((firsts ((E.take k).map (mkI S))).length : Int) (firsts ((E.take k).map (mkI S)) ++ [mkI S E[k]]) (reps (mkI S) (E.take k) ++ [E[k]]) := by
        simp only [scansionref09_New.b1]
        rw [if_pos (by simpa using hk), idx_nat, List.getElem?_eq_getElem hk, Option.bind_some, hmask, Option.bind_some, hfind, Option.bind_some, if_neg hin, if_pos (by decide), room_ok (by omega), Option.bind_some, room_ok (by omega), Option.bind_some]
      by_cases hf : (firsts ((E.take k).map (mkI S))).length < 200
      · have ih := rnew_loop hn hS hb hE d (k + 1) (by omega) (by rw [e1, List.length_append, List.length_singleton]; omega)
        rw [← ih, e1, e2]
        refine Loop_next (hstep.trans (rnew_k3 hk hb hE (by rw [List.length_append, List.length_singleton]; omega) (by omega) ?_))
        rw [bnd_at hk, pos_pre hpre hmem, e1, pos_new hin]
      · have hlen := hpre.length_le
        rw [e1, List.length_append, List.length_singleton] at hlen
        rw [if_neg (by omega)]
        refine Loop_done (hstep.trans ?_)
        unfold scansionref09_New.k3
        rw [if_pos (decide_eq_true (by rw [List.length_append, List.length_singleton]; omega))]
theorem bnd_mono (hp : E.Pairwise (· < ·)) (hE : ∀ e ∈ E, e ≤ 1114111) : ∀ (d i : Nat), i + d ≤ E.length → bnd E i ≤ bnd E (i + d)
  | 0, i, h => Int.le_refl _
  | d + 1, i, h => by
    have h1 := bnd_mono hp hE d i (by omega)
    have h2 := bnd_lt hp hE (k := i + d) (by omega)
    rw [← bnd_at (by omega)] at h2
    rw [← Nat.add_assoc]; omega
/-- Each number is in one piece. -/
theorem piece_at (hp : E.Pairwise (· < ·)) (hE : ∀ e ∈ E, 0 ≤ e ∧ e ≤ 1114111) (h0 : (0 : Int) ∈ E) {r : Int} (hr : 0 ≤ r) (hr2 : r ≤ 1114111) : ∃ k, k < E.length ∧ bnd E k ≤ r ∧ r < bnd E (k + 1) := by
  have hpos : 0 < E.length := List.length_pos_of_mem h0
  have hz : bnd E 0 = 0 := by
    rw [bnd_at hpos]
    obtain ⟨j, hj, e⟩ := List.getElem_of_mem h0
    have h1 := hE _ (List.getElem_mem hpos)
    rcases Nat.eq_zero_or_pos j with q | q
    · subst q; exact e
    · have := (List.pairwise_iff_getElem.1 hp) 0 j hpos hj q
      omega
  have key : ∀ n, n ≤ E.length → (∃ k, k < n ∧ bnd E k ≤ r ∧ r < bnd E (k + 1)) ∨ bnd E n ≤ r := by
    intro n
    induction n with
    | zero => exact fun _ => .inr (by omega)
    | succ n ih =>
      intro hn
      rcases ih (by omega) with ⟨k, h1, h2⟩ | h
      · exact .inl ⟨k, by omega, h2⟩
      · by_cases hc : bnd E (n + 1) ≤ r
        · exact .inr hc
        · exact .inl ⟨n, by omega, h, by omega⟩
  rcases key E.length (Nat.le_refl _) with h | h
  · exact h
  · rw [bnd_end] at h; omega
theorem pieces_val {f : Int → Int} (hp : E.Pairwise (· < ·)) (hE : ∀ e ∈ E, 0 ≤ e ∧ e ≤ 1114111) {k : Nat} (hk : k < E.length) {r : Int} (h1 : bnd E k ≤ r) (h2 : r < bnd E (k + 1)) : ∀ j, j ≤ E.length → valN (pieces f E j) r = if k < j then UInt8.ofNat (pos (firsts (E.map f)) (f (bnd E k))) else 0
  | 0, _ => by rw [if_neg (by omega)]; rfl
  | j + 1, hj => by
    rw [pieces_succ, valN_snoc, pieces_val hp hE hk h1 h2 j (by omega)]
    have hm := fun d i => bnd_mono hp (fun e he => (hE e he).2) d i
    by_cases e : j = k
    · subst e
      rw [if_pos ⟨h1, by show r ≤ bnd E (j + 1) - 1; omega⟩, if_pos (by omega)]
    · rw [if_neg]
      · by_cases hlt : k < j
        · rw [if_pos hlt, if_pos (by omega)]
        · rw [if_neg hlt, if_neg (by omega)]
      · show ¬ (bnd E j ≤ r ∧ r ≤ bnd E (j + 1) - 1)
        rintro ⟨a, b⟩
        rcases Nat.lt_or_ge j k with q | q
        · have := hm (k - (j + 1)) (j + 1) (by omega)
          rw [show j + 1 + (k - (j + 1)) = k by omega] at this; omega
        · have := hm (j - (k + 1)) (k + 1) (by omega)
          rw [show k + 1 + (j - (k + 1)) = j by omega] at this; omega
theorem pieces_ok {f : Int → Int} (hp : E.Pairwise (· < ·)) (hE : ∀ e ∈ E, 0 ≤ e ∧ e ≤ 1114111) : ∀ x ∈ pieces f E E.length, OkP x := by
  intro x hx
  unfold pieces at hx
  obtain ⟨i, hi, rfl⟩ := List.mem_map.1 hx
  have hi2 : i < E.length := List.mem_range.1 hi
  have h1 := bnd_lt hp (fun e he => (hE e he).2) hi2
  have h2 := hE _ (List.getElem_mem hi2)
  unfold OkP
  simp only
  rw [← bnd_at hi2] at h1 h2
  refine ⟨h2.1, by omega, ?_⟩
  by_cases h3 : i + 1 < E.length
  · have := hE _ (List.getElem_mem h3)
    rw [bnd_at h3]; omega
  · rw [show i + 1 = E.length by omega, bnd_end]; omega
end Go.Val

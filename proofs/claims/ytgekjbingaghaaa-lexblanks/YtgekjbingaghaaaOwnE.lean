/- A value semantics of the model's programs, sound against it, and functions read off the given program with the proofs that it runs so; no condition. -/
import Derived.Test.YtgekjbingaghaaaOwnD
import Derived.Test.YtgekjbingaghaaaOwnC
import Derived.Sort.AssemblyPlain
set_option linter.all false
set_option linter.unnecessarySimpa false
set_option linter.unusedVariables false
set_option linter.unusedSimpArgs false
/- part IW120 -/
/- slices.IndexFunc[[]scansion/api.Range,scansion/api.Range] runs as it is read off. -/
namespace Go.Val
set_option linter.unusedVariables false
set_option linter.unusedSimpArgs false
set_option maxRecDepth 20000
open Go.Proofs
theorem slices_IndexFunc_api_Range_api_Range_runs (s : List TRange) (f : TRange → Option Bool) (fid_f : FuncId) (caps_f : List DVal) {h : Heap} (h_f : ∀ os x0 r, f x0 = some r → Runs CT fid_f ([.cv (.val (.agg [.int .i64 x0.Low, .int .i64 x0.High]))] ++ sval caps_f) (h.on os) fun o h' => o = [.cv (.val (.bool r))] ∧ h' = h.on os) (d_f : ∀ i, CT.how fid_f i = .data) {a : Int} (e : slices_IndexFunc_api_Range_api_Range s f = some a) :
    Runs CT 120 [.cv (.val (.sl (List.map eRange s))), .cv (.val (.fn fid_f [] caps_f))] h fun o h' => o = [.cv (.val (.int .i64 a))] ∧ h' = h := by
  refine Runs.start Try.f120 _ Try.func120 rfl (by rw [Try.ntmps120]; simp) (by rfl) (by rfl) (fun hwf hu => ?_)
  have u_f : underL h.n caps_f := (hu (.cv (.val (.fn fid_f [] caps_f))) (by simp)).2
  have vu_f := fun k => under_add (k := k) u_f
  obtain ⟨D, hD, hr⟩ : ∃ D : Int → Prop, (∀ z, D z → z = a) ∧ Holds (slices_IndexFunc_api_Range_api_Range s f) D := ⟨fun z => z = a, fun _ h => h, Holds.intro e rfl⟩
  dsimp only [slices_IndexFunc_api_Range_api_Range] at hr
  change wpCode _ _ _ _ _ ⟨[(0, .cv (.val (.sl (List.map eRange s)))), (1, .cv (.val (.fn fid_f [] caps_f)))], h.on []⟩
  refine w_seq ?_
  refine A_region ?_
  refine w_n ?_
  refine w_seq ?_
  refine w_seq ?_
  refine A_region ?_
  refine w_n ?_
  refine w_K (D := D) (fun xX : Unit => ⟨[], h.on []⟩) (fun xX : Unit => slices_IndexFunc_api_Range_api_Range.k1) (fun xX s' hr ht => ?_) ?_
  · dsimp only [slices_IndexFunc_api_Range_api_Range.k1] at hr ht
    refine (w_nT ht ?_)
    refine w_seq ?_
    refine A_region ?_
    refine w_n ?_
    refine w_ret ?_
    obtain rfl := hD _ hr
    exact (A_endR (A_cut (os' := []) (sl := [(4, .cv (.val (.int .i64 (-1 : Int))))]) hwf) ⟨rfl, on_nil hwf⟩)
  · refine w_block ?_
    refine w_Loop (fun xX : Int => ⟨[(0, .cv (.val (.sl (List.map eRange s)))), (1, .cv (.val (.fn fid_f [] caps_f))), (7, .cv (.val (.int .i64 (s.length : Int)))), (8, .cv (.val (.int .i64 xX)))], h.on []⟩) hr (A_cut hwf) (fun W1 xX hr => ?_)
    obtain ⟨v, rfl⟩ : ∃ z, z = xX := ⟨xX, rfl⟩
    dsimp only [slices_IndexFunc_api_Range_api_Range.b1] at hr
    refine w_seq ?_
    refine A_region ?_
    refine w_n ?_
    refine w_seq ?_
    refine A_condH hr (fun cF1 hr => ?_) (fun cF1 hr => ?_)
    · refine w_skip ?_
      refine w_n ?_
      refine w_seq ?_
      refine w_block ?_
      refine w_seq ?_
      refine A_region ?_
      refine w_n ?_
      refine w_seq ?_
      refine A_ops ?_
      obtain ⟨x, nF2, eF3, gF4, hr⟩ := hr.idx
      refine A_upto 5 ?_
      obtain ⟨r, eF5, hr⟩ := hr.bind
      refine A_call (out := ?o_eF5) (hp := ?p_eF5) ?c_eF5 ?d_eF5 ?_
      case c_eF5 => exact h_f _ _ _ eF5
      case d_eF5 => rfl
      refine w_ops_nil ?_
      refine w_n ?_
      refine A_condH hr (fun cF6 hr => ?_) (fun cF6 hr => ?_)
      · refine w_seq ?_
        refine A_region ?_
        refine w_n ?_
        refine w_ret ?_
        obtain rfl := hD _ hr
        exact (w_br (w_tr (w_tr (w_br (w_tr (w_tr (A_endR (A_cut (os' := []) (sl := [(4, .cv (.val (.int .i64 v)))]) hwf) ⟨rfl, on_nil hwf⟩)))))))
      · refine w_skip ?_
        refine (w_bn (w_n ?_))
        refine A_region ?_
        exact (w_k ⟨(IntKind.i64.wrap (v + (1 : Int))), hr, (A_cut hwf)⟩)
    · refine w_exit ?_
      exact (w_te (w_te (w_bx (w_k ⟨(), (hr).map, (A_cut hwf)⟩))))
end Go.Val

/- part IW92 -/
/- slices.ContainsFunc[[]scansion/api.Range,scansion/api.Range] runs as it is read off. -/
namespace Go.Val
set_option linter.unusedVariables false
set_option linter.unusedSimpArgs false
set_option maxRecDepth 20000
open Go.Proofs
theorem slices_ContainsFunc_api_Range_api_Range_runs (s : List TRange) (f : TRange → Option Bool) (fid_f : FuncId) (caps_f : List DVal) {h : Heap} (h_f : ∀ os x0 r, f x0 = some r → Runs CT fid_f ([.cv (.val (.agg [.int .i64 x0.Low, .int .i64 x0.High]))] ++ sval caps_f) (h.on os) fun o h' => o = [.cv (.val (.bool r))] ∧ h' = h.on os) (d_f : ∀ i, CT.how fid_f i = .data) {a : Bool} (e : slices_ContainsFunc_api_Range_api_Range s f = some a) :
    Runs CT 92 [.cv (.val (.sl (List.map eRange s))), .cv (.val (.fn fid_f [] caps_f))] h fun o h' => o = [.cv (.val (.bool a))] ∧ h' = h := by
  refine Runs.start Try.f92 _ Try.func92 rfl (by rw [Try.ntmps92]; simp) (by rfl) (by rfl) (fun hwf hu => ?_)
  have u_f : underL h.n caps_f := (hu (.cv (.val (.fn fid_f [] caps_f))) (by simp)).2
  have vu_f := fun k => under_add (k := k) u_f
  obtain ⟨D, hD, hr⟩ : ∃ D : Bool → Prop, (∀ z, D z → z = a) ∧ Holds (slices_ContainsFunc_api_Range_api_Range s f) D := ⟨fun z => z = a, fun _ h => h, Holds.intro e rfl⟩
  dsimp only [slices_ContainsFunc_api_Range_api_Range] at hr
  change wpCode _ _ _ _ _ ⟨[(0, .cv (.val (.sl (List.map eRange s)))), (1, .cv (.val (.fn fid_f [] caps_f)))], h.on []⟩
  refine w_seq ?_
  refine A_region ?_
  refine w_n ?_
  refine w_seq ?_
  refine A_ops ?_
  refine A_upto 2 ?_
  obtain ⟨r, eF1, hr⟩ := hr.bind
  refine A_call (out := ?o_eF1) (hp := ?p_eF1) ?c_eF1 ?d_eF1 ?_
  case c_eF1 => (refine slices_IndexFunc_api_Range_api_Range_runs s f _ _ ?_ ?_ eF1; (exact (fun os x0 r e => by rw [on_on]; exact h_f _ x0 r e)); (exact d_f))
  case d_eF1 => rfl
  refine A_ops_end ?_
  refine w_n ?_
  refine w_ret ?_
  obtain rfl := hD _ hr
  exact (A_endR (A_cut (os' := []) (sl := [(4, .cv (.val (.bool (decide (r ≥ (0 : Int))))))]) hwf) ⟨rfl, on_nil hwf⟩)
end Go.Val

/- part IW97 -/
/- scansion/ranges.put runs as it is read off. -/
namespace Go.Val
set_option linter.unusedVariables false
set_option linter.unusedSimpArgs false
set_option maxRecDepth 20000
open Go.Proofs
theorem ranges_put_runs (l : List TRange) (x : TRange) {h : Heap} {a : List TRange} (e : ranges_put l x = some a) :
    Runs CT 97 [.cv (.row 80 (List.map eRange l)), .cv (.val (.agg [.int .i64 x.Low, .int .i64 x.High]))] h fun o h' => o = [.cv (.row 80 (List.map eRange a))] ∧ h' = h := by
  refine Runs.start Try.f97 _ Try.func97 rfl (by rw [Try.ntmps97]; simp) (by rfl) (by rfl) (fun hwf hu => ?_)
  obtain ⟨D, hD, hr⟩ : ∃ D : List TRange → Prop, (∀ z, D z → z = a) ∧ Holds (ranges_put l x) D := ⟨fun z => z = a, fun _ h => h, Holds.intro e rfl⟩
  dsimp only [ranges_put] at hr
  change wpCode _ _ _ _ _ ⟨[(0, .cv (.row 80 (List.map eRange l))), (1, .cv (.val (.agg [.int .i64 x.Low, .int .i64 x.High])))], h.on []⟩
  refine w_seq ?_
  refine A_region ?_
  refine w_n ?_
  refine w_seq ?_
  refine A_region ?_
  refine w_n ?_
  refine w_seq ?_
  obtain ⟨v, vF5, hr⟩ := hr.bind
  refine w_joinR (sj := ⟨[(0, .cv (.row 80 (List.map eRange l))), (3, .cv (.val (.ptr (some (h.n + 0, 0))))), (5, .cv (.val (.int .i64 (l.length : Int)))), (21, .cv (.val (.bool v)))], h.on [some (.cells [.val (.int .i64 x.Low), .val (.int .i64 x.High)])]⟩) (w_drawn [0, 1, 2, 3, 4, 5, 6, 7, 8, 9, 10, 11, 12, 13] (by rfl) ?_) ?_
  · have hr := Holds.intro (D := fun z => z = v) vF5 rfl
    refine p_run (l := [0, 1, 2]) (pend' := [2, 1, 0]) (by simp (disch := (apply Apart.mk; decide)) only [go_sem, Nat.reduceAdd, Nat.reduceLT, Nat.reduceMul, Nat.reduceLeDiff, Int.reduceToNat, Int.reduceLT, Int.reduceLE]; rfl) rfl ?_
    rcases hr.ite with ⟨cF1, hr⟩ | ⟨cF1, hr⟩
    · obtain ⟨x1, nF2, eF3, gF4, hr⟩ := hr.idx
      refine p_run (l := [3, 4, 5, 6, 7, 8, 9, 10, 11, 12, 13]) (pend' := [13, 12, 11, 10, 9, 8, 7, 6, 5, 4, 3, 2, 1, 0]) (by simp (disch := (apply Apart.mk; decide)) only [go_sem, Nat.reduceAdd, Nat.reduceLT, Nat.reduceMul, Nat.reduceLeDiff, Int.reduceToNat, Int.reduceLT, Int.reduceLE, cF1, nF2, eF3, gF4]; rfl) rfl ?_
      refine p_end (by simp (disch := (apply Apart.mk; decide)) only [go_sem, Nat.reduceAdd, Nat.reduceLT, Nat.reduceMul, Nat.reduceLeDiff, Int.reduceToNat, Int.reduceLT, Int.reduceLE, cF1, nF2, eF3, gF4]) ?_
      obtain rfl : _ = v := hr
      exact w_k (A_cut hwf)
    · refine p_run (l := [3, 4, 5, 6, 7, 8, 9, 10, 11, 12, 13]) (pend' := [13, 12, 11, 10, 9, 8, 7, 6, 5, 4, 3, 2, 1, 0]) (by simp (disch := (apply Apart.mk; decide)) only [go_sem, Nat.reduceAdd, Nat.reduceLT, Nat.reduceMul, Nat.reduceLeDiff, Int.reduceToNat, Int.reduceLT, Int.reduceLE, cF1]; rfl) rfl ?_
      refine p_end (by simp (disch := (apply Apart.mk; decide)) only [go_sem, Nat.reduceAdd, Nat.reduceLT, Nat.reduceMul, Nat.reduceLeDiff, Int.reduceToNat, Int.reduceLT, Int.reduceLE, cF1]) ?_
      obtain rfl : _ = v := hr
      exact w_k (A_cut hwf)
  refine A_condH hr (fun cF6 hr => ?_) (fun cF6 hr => ?_)
  · refine w_seq ?_
    refine w_drawn [0, 1, 2, 3, 4, 5, 6, 7, 8, 9, 10, 11, 12, 13, 14] (by rfl) ?_
    obtain ⟨x2, nF7, eF8, gF9, hr⟩ := hr.idx
    refine p_run (l := [0, 1, 2, 3, 4, 5, 6, 7, 8, 9, 10, 11, 12, 13]) (pend' := [13, 12, 11, 10, 9, 8, 7, 6, 5, 4, 3, 2, 1, 0]) (by simp (disch := (apply Apart.mk; decide)) only [go_sem, Nat.reduceAdd, Nat.reduceLT, Nat.reduceMul, Nat.reduceLeDiff, Int.reduceToNat, Int.reduceLT, Int.reduceLE, nF7, eF8, gF9]; rfl) rfl ?_
    refine p_op (pend' := []) rfl (by simp (disch := (apply Apart.mk; decide)) only [go_sem, Nat.reduceAdd, Nat.reduceLT, Nat.reduceMul, Nat.reduceLeDiff, Int.reduceToNat, Int.reduceLT, Int.reduceLE, nF7, eF8, gF9]) (by simp (disch := (apply Apart.mk; decide)) only [go_sem, Nat.reduceAdd, Nat.reduceLT, Nat.reduceMul, Nat.reduceLeDiff, Int.reduceToNat, Int.reduceLT, Int.reduceLE, nF7, eF8, gF9]; rfl) (by rfl) ?_
    refine p_end (by simp (disch := (apply Apart.mk; decide)) only [go_sem, Nat.reduceAdd, Nat.reduceLT, Nat.reduceMul, Nat.reduceLeDiff, Int.reduceToNat, Int.reduceLT, Int.reduceLE, nF7, eF8, gF9, nF7, eF8, gF9]) ?_
    refine w_n ?_
    refine w_seq ?_
    refine A_region ?_
    refine w_n ?_
    refine w_ret ?_
    obtain rfl := hD _ hr
    exact (w_tr (A_endR (A_cut (os' := []) (sl := [(4, .cv (.row 80 (List.map eRange (List.set l (Int.toNat (IntKind.i64.wrap ((l.length : Int) - (1 : Int)))) (TRange.mk x2.Low (mx x2.High x.High))))))]) hwf) ⟨rfl, on_nil hwf⟩))
  · refine w_skip ?_
    refine w_n ?_
    refine w_seq ?_
    obtain ⟨nF10, hr⟩ := hr.room
    refine A_region ?_
    refine w_n ?_
    refine w_ret ?_
    obtain rfl := hD _ hr
    exact (A_endR (A_cut (os' := []) (sl := [(4, .cv (.row 80 (List.map eRange (l ++ ([x])))))]) hwf) ⟨rfl, on_nil hwf⟩)
end Go.Val

/- part IW64 -/
/- scansion/ranges.Make runs as it is read off. -/
namespace Go.Val
set_option linter.unusedVariables false
set_option linter.unusedSimpArgs false
set_option maxRecDepth 20000
open Go.Proofs
theorem ranges_Make_runs (l : List TRange) {h : Heap} {a : (List TRange × Int)} (e : ranges_Make l = some a) :
    Runs CT 64 [.cv (.val (.sl (List.map eRange l)))] h fun o h' => o = [.cv (.val (.sl (List.map eRange a.1))), .cv (.val (.int .i64 a.2))] ∧ h' = h := by
  refine Runs.start Try.f64 _ Try.func64 rfl (by rw [Try.ntmps64]; simp) (by rfl) (by rfl) (fun hwf hu => ?_)
  obtain ⟨D, hD, hr⟩ : ∃ D : (List TRange × Int) → Prop, (∀ z, D z → z = a) ∧ Holds (ranges_Make l) D := ⟨fun z => z = a, fun _ h => h, Holds.intro e rfl⟩
  dsimp only [ranges_Make] at hr
  change wpCode _ _ _ _ _ ⟨[(0, .cv (.val (.sl (List.map eRange l))))], h.on []⟩
  refine w_seq ?_
  refine A_region ?_
  refine w_n ?_
  refine w_seq ?_
  refine A_region ?_
  refine w_n ?_
  refine w_seq ?_
  refine w_seq ?_
  refine A_ops ?_
  refine A_upto 2 ?_
  obtain ⟨r, eF1, hr⟩ := hr.bind
  refine A_call (out := ?o_eF1) (hp := ?p_eF1) ?c_eF1 ?d_eF1 ?_
  case c_eF1 => (refine slices_ContainsFunc_api_Range_api_Range_runs l (ranges_Make_1) _ _ ?_ ?_ eF1; (exact (fun os x0 r e => ranges_Make_1_runs x0 e)); (exact (fun i => by simp [CT])))
  case d_eF1 => rfl
  refine w_ops_nil ?_
  refine w_n ?_
  refine A_condH hr (fun cF2 hr => ?_) (fun cF2 hr => ?_)
  · refine w_seq ?_
    refine A_region ?_
    refine w_n ?_
    refine w_ret ?_
    obtain rfl := hD _ hr
    exact (w_tr (A_endR (A_cut (os' := []) (sl := [(2, .cv (.val (.sl (List.map eRange ([] : List TRange))))), (3, .cv (.val (.int .i64 (1 : Int))))]) hwf) ⟨rfl, on_nil hwf⟩))
  · refine w_skip ?_
    refine w_n ?_
    refine w_seq ?_
    refine A_ops ?_
    refine A_upto 1 ?_
    obtain ⟨r1, eF3, hr⟩ := hr.bind
    refine A_call (out := ?o_eF3) (hp := ?p_eF3) ?c_eF3 ?d_eF3 ?_
    case c_eF3 => exact slices_Clone_api_Range_api_Range_runs l eF3
    case d_eF3 => rfl
    refine A_ops_end ?_
    refine w_n ?_
    refine w_seq ?_
    refine A_ops ?_
    refine A_upto 1 ?_
    obtain ⟨l1, eF4, hr⟩ := hr.bind
    refine w_ext rfl (by simp (disch := (apply Apart.mk; decide)) only [go_sem, Nat.reduceAdd, Nat.reduceLT, Nat.reduceMul, Nat.reduceLeDiff, Int.reduceToNat, Int.reduceLT, Int.reduceLE, Option.getD_some] <;> rfl) rfl (by simp (disch := (apply Apart.mk; decide)) only [go_sem, Nat.reduceAdd, Nat.reduceLT, Nat.reduceMul, Nat.reduceLeDiff, Int.reduceToNat, Int.reduceLT, Int.reduceLE, Option.getD_some] <;> rfl) (by simp (disch := (apply Apart.mk; decide)) only [go_sem, Nat.reduceAdd, Nat.reduceLT, Nat.reduceMul, Nat.reduceLeDiff, Int.reduceToNat, Int.reduceLT, Int.reduceLE, Option.getD_some] <;> rfl) (by simp (disch := (apply Apart.mk; decide)) only [go_sem, Nat.reduceAdd, Nat.reduceLT, Nat.reduceMul, Nat.reduceLeDiff, Int.reduceToNat, Int.reduceLT, Int.reduceLE, Option.getD_some] <;> rfl) (by rfl) (ext_sortR eF4) ?_
    refine w_ops_nil ?_
    refine w_n ?_
    refine w_seq ?_
    refine A_region ?_
    refine w_n ?_
    refine w_seq ?_
    refine w_seq ?_
    refine A_region ?_
    refine w_n ?_
    refine w_K (D := D) (fun xX : List TRange => ⟨[(6, .cv (.row 80 (List.map eRange xX)))], h.on []⟩) (fun xX : List TRange => ranges_Make.k1 xX) (fun xX s' hr ht => ?_) ?_
    · obtain ⟨out, rfl⟩ : ∃ z, z = xX := ⟨xX, rfl⟩
      dsimp only [ranges_Make.k1] at hr ht
      refine (w_nT ht ?_)
      refine w_seq ?_
      refine A_region ?_
      refine w_n ?_
      refine w_ret ?_
      obtain rfl := hD _ hr
      exact (A_endR (.fix _ _ (.slot 2) 80 _ (by simp (disch := (apply Apart.mk; decide)) only [go_sem, Nat.reduceAdd, Nat.reduceLT, Nat.reduceMul, Nat.reduceLeDiff, Int.reduceToNat, Int.reduceLT, Int.reduceLE, cF2]; rfl) (A_cut (os' := []) (sl := [(2, .cv (.val (.sl (List.map eRange out)))), (3, .cv (.val (.int .i64 (0 : Int))))]) hwf)) ⟨rfl, on_nil hwf⟩)
    · refine w_block ?_
      refine w_Loop (fun xX : (List TRange × Int) => ⟨[(5, .cv (.row 80 (List.map eRange l1))), (6, .cv (.row 80 (List.map eRange xX.1))), (16, .alias (.slot 5)), (17, .cv (.val (.int .i64 (l1.length : Int)))), (18, .cv (.val (.int .i64 xX.2)))], h.on []⟩) hr (A_cut hwf) (fun W1 xX hr => ?_)
      obtain ⟨out1, v⟩ := xX
      dsimp only [ranges_Make.b1] at hr
      refine w_seq ?_
      refine A_region ?_
      refine w_n ?_
      refine w_seq ?_
      refine A_condH hr (fun cF5 hr => ?_) (fun cF5 hr => ?_)
      · refine w_skip ?_
        refine w_n ?_
        refine w_seq ?_
        refine w_block ?_
        refine w_seq ?_
        obtain ⟨x, nF6, eF7, gF8, hr⟩ := hr.idx
        refine A_region ?_
        refine w_n ?_
        refine A_ops ?_
        refine A_upto 2 ?_
        obtain ⟨r2, eF9, hr⟩ := hr.bind
        refine A_call (out := ?o_eF9) (hp := ?p_eF9) ?c_eF9 ?d_eF9 ?_
        case c_eF9 => exact ranges_put_runs out1 x eF9
        case d_eF9 => rfl
        refine A_ops_end ?_
        refine (w_bn (w_n ?_))
        refine A_region ?_
        exact (w_k ⟨(r2, (IntKind.i64.wrap (v + (1 : Int)))), hr, (A_cut hwf)⟩)
      · refine w_exit ?_
        exact (w_te (w_te (w_bx (w_k ⟨out1, (hr).map, (A_cut hwf)⟩))))
end Go.Val

/- part IW84 -/
/- (*scansion/lex.reader).set runs as it is read off. -/
namespace Go.Val
set_option linter.unusedVariables false
set_option linter.unusedSimpArgs false
set_option maxRecDepth 20000
open Go.Proofs
theorem lex_reader_set_runs (r : Tlex_reader) (l0 : Nat) {h : Heap} (ha0 : h.at_ l0 = some (.cells [.val (.sl (List.map eUnit r.units)), .val (.int .i64 r.place), .val (.int .i64 r.whole), .val (.int .i64 r.fault)])) {a : (List TRange × Tlex_reader)} (e : lex_reader_set r = some a) :
    Runs CT 84 [.cv (.val (.ptr (some (l0, 0))))] h fun o h' => o = [.cv (.val (.sl (List.map eRange a.1)))] ∧ h' = (h.upd l0 (.cells [.val (.sl (List.map eUnit a.2.units)), .val (.int .i64 a.2.place), .val (.int .i64 a.2.whole), .val (.int .i64 a.2.fault)])) := by
  refine Runs.start Try.f84 _ Try.func84 rfl (by rw [Try.ntmps84]; simp) (by rfl) (by rfl) (fun hwf hu => ?_)
  have hl0 := (hwf _ _ ha0).1
  have kl0 := locF hl0
  obtain ⟨D, hD, hr⟩ : ∃ D : (List TRange × Tlex_reader) → Prop, (∀ z, D z → z = a) ∧ Holds (lex_reader_set r) D := ⟨fun z => z = a, fun _ h => h, Holds.intro e rfl⟩
  dsimp only [lex_reader_set] at hr
  change wpCode _ _ _ _ _ ⟨[(0, .cv (.val (.ptr (some (l0, 0)))))], h.on []⟩
  refine w_seq ?_
  refine w_region rfl (by simp (disch := (apply Apart.mk; decide)) only [go_sem, Nat.reduceAdd, Nat.reduceLT, Nat.reduceMul, Nat.reduceLeDiff, Int.reduceToNat, Int.reduceLT, Int.reduceLE, ha0, on_atB hl0, lt_add hl0, lt_at hl0, on_updB hl0, on_atU hl0, on_updU hl0, upd_same ha0]; rfl) ?_
  refine w_n ?_
  refine w_seq ?_
  refine w_region rfl (by simp (disch := (apply Apart.mk; decide)) only [go_sem, Nat.reduceAdd, Nat.reduceLT, Nat.reduceMul, Nat.reduceLeDiff, Int.reduceToNat, Int.reduceLT, Int.reduceLE, ha0, on_atB hl0, lt_add hl0, lt_at hl0, on_updB hl0, on_atU hl0, on_updU hl0, upd_same ha0]; rfl) ?_
  refine w_n ?_
  refine w_seq ?_
  refine w_K (D := D) (fun xX : (List TRange × List TUnit × Int × Int × Int) => ⟨[(0, .cv (.val (.ptr (some (l0, 0))))), (3, .cv (.row 80 (List.map eRange xX.1)))], (h.upd l0 (.cells [.val (.sl (List.map eUnit xX.2.1)), .val (.int .i64 xX.2.2.1), .val (.int .i64 xX.2.2.2.1), .val (.int .i64 xX.2.2.2.2)])).on []⟩) (fun xX : (List TRange × List TUnit × Int × Int × Int) => lex_reader_set.k1 xX.1 xX.2.1 xX.2.2.1 xX.2.2.2.1 xX.2.2.2.2) (fun xX s' hr ht => ?_) ?_
  · obtain ⟨l, units, place, whole, fault⟩ := xX
    dsimp only [lex_reader_set.k1] at hr ht
    refine (w_nT ht ?_)
    refine w_seq ?_
    refine w_region rfl (by simp (disch := (apply Apart.mk; decide)) only [go_sem, Nat.reduceAdd, Nat.reduceLT, Nat.reduceMul, Nat.reduceLeDiff, Int.reduceToNat, Int.reduceLT, Int.reduceLE, ha0, on_atB hl0, lt_add hl0, lt_at hl0, on_updB hl0, on_atU hl0, on_updU hl0, upd_same ha0]; rfl) ?_
    refine w_n ?_
    refine w_seq ?_
    refine A_ops ?_
    refine w_upto 1 rfl (by simp (disch := (apply Apart.mk; decide)) only [go_sem, Nat.reduceAdd, Nat.reduceLT, Nat.reduceMul, Nat.reduceLeDiff, Int.reduceToNat, Int.reduceLT, Int.reduceLE, ha0, on_atB hl0, lt_add hl0, lt_at hl0, on_updB hl0, on_atU hl0, on_updU hl0, upd_same ha0]; rfl) ?_
    obtain ⟨r1, eF1, hr⟩ := hr.bind
    refine w_call' (out := ?o_eF1) (hp := ?p_eF1) rfl (by simp (disch := (apply Apart.mk; decide)) only [go_sem, Nat.reduceAdd, Nat.reduceLT, Nat.reduceMul, Nat.reduceLeDiff, Int.reduceToNat, Int.reduceLT, Int.reduceLE, ha0, on_atB hl0, lt_add hl0, lt_at hl0, on_updB hl0, on_atU hl0, on_updU hl0, upd_same ha0, Option.getD_some]; rfl) (by simp (disch := (apply Apart.mk; decide)) only [go_sem, Nat.reduceAdd, Nat.reduceLT, Nat.reduceMul, Nat.reduceLeDiff, Int.reduceToNat, Int.reduceLT, Int.reduceLE, ha0, on_atB hl0, lt_add hl0, lt_at hl0, on_updB hl0, on_atU hl0, on_updU hl0, upd_same ha0, Option.getD_some]; rfl) (by simp (disch := (apply Apart.mk; decide)) only [go_sem, Nat.reduceAdd, Nat.reduceLT, Nat.reduceMul, Nat.reduceLeDiff, Int.reduceToNat, Int.reduceLT, Int.reduceLE, ha0, on_atB hl0, lt_add hl0, lt_at hl0, on_updB hl0, on_atU hl0, on_updU hl0, upd_same ha0, Option.getD_some]; rfl) ?c_eF1 ?d_eF1 ?_
    case c_eF1 => exact ranges_Make_runs l eF1
    case d_eF1 => rfl
    refine w_ops_end (by simp (disch := (apply Apart.mk; decide)) only [go_sem, Nat.reduceAdd, Nat.reduceLT, Nat.reduceMul, Nat.reduceLeDiff, Int.reduceToNat, Int.reduceLT, Int.reduceLE, ha0, on_atB hl0, lt_add hl0, lt_at hl0, on_updB hl0, on_atU hl0, on_updU hl0, upd_same ha0]; rfl) ?_
    refine w_n ?_
    refine w_seq ?_
    refine w_region rfl (by simp (disch := (apply Apart.mk; decide)) only [go_sem, Nat.reduceAdd, Nat.reduceLT, Nat.reduceMul, Nat.reduceLeDiff, Int.reduceToNat, Int.reduceLT, Int.reduceLE, ha0, on_atB hl0, lt_add hl0, lt_at hl0, on_updB hl0, on_atU hl0, on_updU hl0, upd_same ha0]; rfl) ?_
    refine w_n ?_
    refine w_ret ?_
    obtain rfl := hD _ hr
    exact (w_endR (To.cut (os' := []) (sl := [(2, .cv (.val (.sl (List.map eRange r1.1))))]) (h := (h.upd l0 (.cells [.val (.sl (List.map eUnit units)), .val (.int .i64 (IntKind.i64.wrap (place + (1 : Int)))), .val (.int .i64 whole), .val (.int .i64 fault)]))) (WF.upd hwf hl0 (by simp (disch := (apply Apart.mk; decide)) only [go_sem, Nat.reduceAdd, Nat.reduceLT, Nat.reduceMul, Nat.reduceLeDiff, Int.reduceToNat, Int.reduceLT, Int.reduceLE, ha0, on_atB hl0, lt_add hl0, lt_at hl0, on_updB hl0, on_atU hl0, on_updU hl0, upd_same ha0])) (Nat.le_refl _) (by first | rfl | (simp (disch := (apply Apart.mk; decide)) only [go_sem, Nat.reduceAdd, Nat.reduceLT, Nat.reduceMul, Nat.reduceLeDiff, Int.reduceToNat, Int.reduceLT, Int.reduceLE, ha0, on_atB hl0, lt_add hl0, lt_at hl0, on_updB hl0, on_atU hl0, on_updU hl0, upd_same ha0]; rfl)) (by simp (disch := (apply Apart.mk; decide)) only [go_sem, Nat.reduceAdd, Nat.reduceLT, Nat.reduceMul, Nat.reduceLeDiff, Int.reduceToNat, Int.reduceLT, Int.reduceLE, ha0, on_atB hl0, lt_add hl0, lt_at hl0, on_updB hl0, on_atU hl0, on_updU hl0, upd_same ha0])) (by simp (disch := (apply Apart.mk; decide)) only [go_sem, Nat.reduceAdd, Nat.reduceLT, Nat.reduceMul, Nat.reduceLeDiff, Int.reduceToNat, Int.reduceLT, Int.reduceLE, ha0, on_atB hl0, lt_add hl0, lt_at hl0, on_updB hl0, on_atU hl0, on_updU hl0, upd_same ha0, Try.results84, results_data CT_gives84, resCell, resVal.eq_2, loadOp_sv]) ⟨rfl, on_nil (h := (h.upd l0 (.cells [.val (.sl (List.map eUnit units)), .val (.int .i64 (IntKind.i64.wrap (place + (1 : Int)))), .val (.int .i64 whole), .val (.int .i64 fault)]))) (WF.upd hwf hl0 (by simp (disch := (apply Apart.mk; decide)) only [go_sem, Nat.reduceAdd, Nat.reduceLT, Nat.reduceMul, Nat.reduceLeDiff, Int.reduceToNat, Int.reduceLT, Int.reduceLE, ha0, on_atB hl0, lt_add hl0, lt_at hl0, on_updB hl0, on_atU hl0, on_updU hl0, upd_same ha0]))⟩)
  · refine w_block ?_
    refine w_Loop (fun xX : (List TRange × List TUnit × Int × Int × Int) => ⟨[(0, .cv (.val (.ptr (some (l0, 0))))), (3, .cv (.row 80 (List.map eRange xX.1)))], (h.upd l0 (.cells [.val (.sl (List.map eUnit xX.2.1)), .val (.int .i64 xX.2.2.1), .val (.int .i64 xX.2.2.2.1), .val (.int .i64 xX.2.2.2.2)])).on []⟩) hr (To.cut (h := (h.upd l0 (.cells [.val (.sl (List.map eUnit r.units)), .val (.int .i64 r.place), .val (.int .i64 r.whole), .val (.int .i64 r.fault)]))) (WF.upd hwf hl0 (by simp (disch := (apply Apart.mk; decide)) only [go_sem, Nat.reduceAdd, Nat.reduceLT, Nat.reduceMul, Nat.reduceLeDiff, Int.reduceToNat, Int.reduceLT, Int.reduceLE, ha0, on_atB hl0, lt_add hl0, lt_at hl0, on_updB hl0, on_atU hl0, on_updU hl0, upd_same ha0])) (Nat.le_refl _) (by first | rfl | (simp (disch := (apply Apart.mk; decide)) only [go_sem, Nat.reduceAdd, Nat.reduceLT, Nat.reduceMul, Nat.reduceLeDiff, Int.reduceToNat, Int.reduceLT, Int.reduceLE, ha0, on_atB hl0, lt_add hl0, lt_at hl0, on_updB hl0, on_atU hl0, on_updU hl0, upd_same ha0]; rfl)) (by simp (disch := (apply Apart.mk; decide)) only [go_sem, Nat.reduceAdd, Nat.reduceLT, Nat.reduceMul, Nat.reduceLeDiff, Int.reduceToNat, Int.reduceLT, Int.reduceLE, ha0, on_atB hl0, lt_add hl0, lt_at hl0, on_updB hl0, on_atU hl0, on_updU hl0, upd_same ha0])) (fun W1 xX hr => ?_)
    obtain ⟨l1, units1, place1, whole1, fault1⟩ := xX
    dsimp only [lex_reader_set.b1] at hr
    refine w_seq ?_
    refine w_seq ?_
    refine A_ops ?_
    refine w_upto 1 rfl (by simp (disch := (apply Apart.mk; decide)) only [go_sem, Nat.reduceAdd, Nat.reduceLT, Nat.reduceMul, Nat.reduceLeDiff, Int.reduceToNat, Int.reduceLT, Int.reduceLE, ha0, on_atB hl0, lt_add hl0, lt_at hl0, on_updB hl0, on_atU hl0, on_updU hl0, upd_same ha0]; rfl) ?_
    obtain ⟨r2, eF2, hr⟩ := hr.bind
    refine w_call' (out := ?o_eF2) (hp := ?p_eF2) rfl (by simp (disch := (apply Apart.mk; decide)) only [go_sem, Nat.reduceAdd, Nat.reduceLT, Nat.reduceMul, Nat.reduceLeDiff, Int.reduceToNat, Int.reduceLT, Int.reduceLE, ha0, on_atB hl0, lt_add hl0, lt_at hl0, on_updB hl0, on_atU hl0, on_updU hl0, upd_same ha0, Option.getD_some]; rfl) (by simp (disch := (apply Apart.mk; decide)) only [go_sem, Nat.reduceAdd, Nat.reduceLT, Nat.reduceMul, Nat.reduceLeDiff, Int.reduceToNat, Int.reduceLT, Int.reduceLE, ha0, on_atB hl0, lt_add hl0, lt_at hl0, on_updB hl0, on_atU hl0, on_updU hl0, upd_same ha0, Option.getD_some]; rfl) (by simp (disch := (apply Apart.mk; decide)) only [go_sem, Nat.reduceAdd, Nat.reduceLT, Nat.reduceMul, Nat.reduceLeDiff, Int.reduceToNat, Int.reduceLT, Int.reduceLE, ha0, on_atB hl0, lt_add hl0, lt_at hl0, on_updB hl0, on_atU hl0, on_updU hl0, upd_same ha0, Option.getD_some]; rfl) ?c_eF2 ?d_eF2 ?_
    case c_eF2 => (refine lex_reader_now_runs (Tlex_reader.mk units1 place1 whole1 fault1) (l0) ?_ eF2; (simp (disch := (apply Apart.mk; decide)) only [go_sem, Nat.reduceAdd, Nat.reduceLT, Nat.reduceMul, Nat.reduceLeDiff, Int.reduceToNat, Int.reduceLT, Int.reduceLE, ha0, on_atB hl0, lt_add hl0, lt_at hl0, on_updB hl0, on_atU hl0, on_updU hl0, upd_same ha0]))
    case d_eF2 => rfl
    refine w_ops_end (by simp (disch := (apply Apart.mk; decide)) only [go_sem, Nat.reduceAdd, Nat.reduceLT, Nat.reduceMul, Nat.reduceLeDiff, Int.reduceToNat, Int.reduceLT, Int.reduceLE, ha0, on_atB hl0, lt_add hl0, lt_at hl0, on_updB hl0, on_atU hl0, on_updU hl0, upd_same ha0]; rfl) ?_
    refine w_n ?_
    refine w_condH (by simp (disch := (apply Apart.mk; decide)) only [go_sem, Nat.reduceAdd, Nat.reduceLT, Nat.reduceMul, Nat.reduceLeDiff, Int.reduceToNat, Int.reduceLT, Int.reduceLE, ha0, on_atB hl0, lt_add hl0, lt_at hl0, on_updB hl0, on_atU hl0, on_updU hl0, upd_same ha0]) hr (fun cF3 hr => ?_) (fun cF3 hr => ?_)
    · refine w_skip ?_
      refine w_n ?_
      refine w_block ?_
      refine w_seq ?_
      refine w_region rfl (by simp (disch := (apply Apart.mk; decide)) only [go_sem, Nat.reduceAdd, Nat.reduceLT, Nat.reduceMul, Nat.reduceLeDiff, Int.reduceToNat, Int.reduceLT, Int.reduceLE, ha0, on_atB hl0, lt_add hl0, lt_at hl0, on_updB hl0, on_atU hl0, on_updU hl0, upd_same ha0, cF3]; rfl) ?_
      refine w_n ?_
      refine w_seq ?_
      refine A_ops ?_
      refine w_upto 1 rfl (by simp (disch := (apply Apart.mk; decide)) only [go_sem, Nat.reduceAdd, Nat.reduceLT, Nat.reduceMul, Nat.reduceLeDiff, Int.reduceToNat, Int.reduceLT, Int.reduceLE, ha0, on_atB hl0, lt_add hl0, lt_at hl0, on_updB hl0, on_atU hl0, on_updU hl0, upd_same ha0]; rfl) ?_
      obtain ⟨r3, eF4, hr⟩ := hr.bind
      refine w_call' (out := ?o_eF4) (hp := ?p_eF4) rfl (by simp (disch := (apply Apart.mk; decide)) only [go_sem, Nat.reduceAdd, Nat.reduceLT, Nat.reduceMul, Nat.reduceLeDiff, Int.reduceToNat, Int.reduceLT, Int.reduceLE, ha0, on_atB hl0, lt_add hl0, lt_at hl0, on_updB hl0, on_atU hl0, on_updU hl0, upd_same ha0, Option.getD_some]; rfl) (by simp (disch := (apply Apart.mk; decide)) only [go_sem, Nat.reduceAdd, Nat.reduceLT, Nat.reduceMul, Nat.reduceLeDiff, Int.reduceToNat, Int.reduceLT, Int.reduceLE, ha0, on_atB hl0, lt_add hl0, lt_at hl0, on_updB hl0, on_atU hl0, on_updU hl0, upd_same ha0, Option.getD_some]; rfl) (by simp (disch := (apply Apart.mk; decide)) only [go_sem, Nat.reduceAdd, Nat.reduceLT, Nat.reduceMul, Nat.reduceLeDiff, Int.reduceToNat, Int.reduceLT, Int.reduceLE, ha0, on_atB hl0, lt_add hl0, lt_at hl0, on_updB hl0, on_atU hl0, on_updU hl0, upd_same ha0, Option.getD_some]; rfl) ?c_eF4 ?d_eF4 ?_
      case c_eF4 => (refine lex_reader_letter_runs (Tlex_reader.mk units1 place1 whole1 fault1) (l0) ?_ eF4; (simp (disch := (apply Apart.mk; decide)) only [go_sem, Nat.reduceAdd, Nat.reduceLT, Nat.reduceMul, Nat.reduceLeDiff, Int.reduceToNat, Int.reduceLT, Int.reduceLE, ha0, on_atB hl0, lt_add hl0, lt_at hl0, on_updB hl0, on_atU hl0, on_updU hl0, upd_same ha0]))
      case d_eF4 => rfl
      refine w_ops_end (by simp (disch := (apply Apart.mk; decide)) only [go_sem, Nat.reduceAdd, Nat.reduceLT, Nat.reduceMul, Nat.reduceLeDiff, Int.reduceToNat, Int.reduceLT, Int.reduceLE, ha0, on_atB hl0, lt_add hl0, lt_at hl0, on_updB hl0, on_atU hl0, on_updU hl0, upd_same ha0]; rfl) ?_
      refine w_n ?_
      refine w_seq ?_
      refine w_region rfl (by simp (disch := (apply Apart.mk; decide)) only [go_sem, Nat.reduceAdd, Nat.reduceLT, Nat.reduceMul, Nat.reduceLeDiff, Int.reduceToNat, Int.reduceLT, Int.reduceLE, ha0, on_atB hl0, lt_add hl0, lt_at hl0, on_updB hl0, on_atU hl0, on_updU hl0, upd_same ha0, cF3]; rfl) ?_
      refine w_n ?_
      refine w_seq ?_
      obtain ⟨v, vF7, hr⟩ := hr.bind
      refine w_joinR (sj := ⟨[(0, .cv (.val (.ptr (some (l0, 0))))), (3, .cv (.row 80 (List.map eRange l1))), (4, .cv (.val (.int .i64 place1))), (5, .cv (.val (.ptr (some (h.n + 0, 0))))), (30, .cv (.val (.bool v)))], (h.upd l0 (.cells [.val (.sl (List.map eUnit r3.2.units)), .val (.int .i64 r3.2.place), .val (.int .i64 r3.2.whole), .val (.int .i64 r3.2.fault)])).on [some (.cells [.val (.int .i64 r3.1), .val (.int .i64 r3.1)])]⟩) (A_ops ?_) ?_
      · have hr := Holds.intro (D := fun z => z = v) vF7 rfl
        refine w_upto 1 rfl (by simp (disch := (apply Apart.mk; decide)) only [go_sem, Nat.reduceAdd, Nat.reduceLT, Nat.reduceMul, Nat.reduceLeDiff, Int.reduceToNat, Int.reduceLT, Int.reduceLE, ha0, on_atB hl0, lt_add hl0, lt_at hl0, on_updB hl0, on_atU hl0, on_updU hl0, upd_same ha0]; rfl) ?_
        obtain ⟨r4, eF5, hr⟩ := hr.bind
        refine w_call' (out := ?o_eF5) (hp := ?p_eF5) rfl (by simp (disch := (apply Apart.mk; decide)) only [go_sem, Nat.reduceAdd, Nat.reduceLT, Nat.reduceMul, Nat.reduceLeDiff, Int.reduceToNat, Int.reduceLT, Int.reduceLE, ha0, on_atB hl0, lt_add hl0, lt_at hl0, on_updB hl0, on_atU hl0, on_updU hl0, upd_same ha0, Option.getD_some]; rfl) (by simp (disch := (apply Apart.mk; decide)) only [go_sem, Nat.reduceAdd, Nat.reduceLT, Nat.reduceMul, Nat.reduceLeDiff, Int.reduceToNat, Int.reduceLT, Int.reduceLE, ha0, on_atB hl0, lt_add hl0, lt_at hl0, on_updB hl0, on_atU hl0, on_updU hl0, upd_same ha0, Option.getD_some]; rfl) (by simp (disch := (apply Apart.mk; decide)) only [go_sem, Nat.reduceAdd, Nat.reduceLT, Nat.reduceMul, Nat.reduceLeDiff, Int.reduceToNat, Int.reduceLT, Int.reduceLE, ha0, on_atB hl0, lt_add hl0, lt_at hl0, on_updB hl0, on_atU hl0, on_updU hl0, upd_same ha0, Option.getD_some]; rfl) ?c_eF5 ?d_eF5 ?_
        case c_eF5 => (refine lex_reader_now_runs r3.2 (l0) ?_ eF5; (simp (disch := (apply Apart.mk; decide)) only [go_sem, Nat.reduceAdd, Nat.reduceLT, Nat.reduceMul, Nat.reduceLeDiff, Int.reduceToNat, Int.reduceLT, Int.reduceLE, ha0, on_atB hl0, lt_add hl0, lt_at hl0, on_updB hl0, on_atU hl0, on_updU hl0, upd_same ha0]))
        case d_eF5 => rfl
        refine w_upto 2 rfl (by simp (disch := (apply Apart.mk; decide)) only [go_sem, Nat.reduceAdd, Nat.reduceLT, Nat.reduceMul, Nat.reduceLeDiff, Int.reduceToNat, Int.reduceLT, Int.reduceLE, ha0, on_atB hl0, lt_add hl0, lt_at hl0, on_updB hl0, on_atU hl0, on_updU hl0, upd_same ha0]; rfl) ?_
        rcases hr.ite with ⟨cF6, hr⟩ | ⟨cF6, hr⟩
        · refine w_ops_end (by simp (disch := (apply Apart.mk; decide)) only [go_sem, Nat.reduceAdd, Nat.reduceLT, Nat.reduceMul, Nat.reduceLeDiff, Int.reduceToNat, Int.reduceLT, Int.reduceLE, ha0, on_atB hl0, lt_add hl0, lt_at hl0, on_updB hl0, on_atU hl0, on_updU hl0, upd_same ha0, cF6]; rfl) ?_
          obtain rfl : _ = v := hr
          exact w_k (To.cut (h := (h.upd l0 (.cells [.val (.sl (List.map eUnit r3.2.units)), .val (.int .i64 r3.2.place), .val (.int .i64 r3.2.whole), .val (.int .i64 r3.2.fault)]))) (WF.upd hwf hl0 (by simp (disch := (apply Apart.mk; decide)) only [go_sem, Nat.reduceAdd, Nat.reduceLT, Nat.reduceMul, Nat.reduceLeDiff, Int.reduceToNat, Int.reduceLT, Int.reduceLE, ha0, on_atB hl0, lt_add hl0, lt_at hl0, on_updB hl0, on_atU hl0, on_updU hl0, upd_same ha0])) (Nat.le_refl _) (by first | rfl | (simp (disch := (apply Apart.mk; decide)) only [go_sem, Nat.reduceAdd, Nat.reduceLT, Nat.reduceMul, Nat.reduceLeDiff, Int.reduceToNat, Int.reduceLT, Int.reduceLE, ha0, on_atB hl0, lt_add hl0, lt_at hl0, on_updB hl0, on_atU hl0, on_updU hl0, upd_same ha0, cF3, cF6]; rfl)) (by simp (disch := (apply Apart.mk; decide)) only [go_sem, Nat.reduceAdd, Nat.reduceLT, Nat.reduceMul, Nat.reduceLeDiff, Int.reduceToNat, Int.reduceLT, Int.reduceLE, ha0, on_atB hl0, lt_add hl0, lt_at hl0, on_updB hl0, on_atU hl0, on_updU hl0, upd_same ha0, cF3, cF6]))
        · refine w_ops_end (by simp (disch := (apply Apart.mk; decide)) only [go_sem, Nat.reduceAdd, Nat.reduceLT, Nat.reduceMul, Nat.reduceLeDiff, Int.reduceToNat, Int.reduceLT, Int.reduceLE, ha0, on_atB hl0, lt_add hl0, lt_at hl0, on_updB hl0, on_atU hl0, on_updU hl0, upd_same ha0, cF6]; rfl) ?_
          obtain rfl : _ = v := hr
          exact w_k (To.cut (h := (h.upd l0 (.cells [.val (.sl (List.map eUnit r3.2.units)), .val (.int .i64 r3.2.place), .val (.int .i64 r3.2.whole), .val (.int .i64 r3.2.fault)]))) (WF.upd hwf hl0 (by simp (disch := (apply Apart.mk; decide)) only [go_sem, Nat.reduceAdd, Nat.reduceLT, Nat.reduceMul, Nat.reduceLeDiff, Int.reduceToNat, Int.reduceLT, Int.reduceLE, ha0, on_atB hl0, lt_add hl0, lt_at hl0, on_updB hl0, on_atU hl0, on_updU hl0, upd_same ha0])) (Nat.le_refl _) (by first | rfl | (simp (disch := (apply Apart.mk; decide)) only [go_sem, Nat.reduceAdd, Nat.reduceLT, Nat.reduceMul, Nat.reduceLeDiff, Int.reduceToNat, Int.reduceLT, Int.reduceLE, ha0, on_atB hl0, lt_add hl0, lt_at hl0, on_updB hl0, on_atU hl0, on_updU hl0, upd_same ha0, cF3, cF6]; rfl)) (by simp (disch := (apply Apart.mk; decide)) only [go_sem, Nat.reduceAdd, Nat.reduceLT, Nat.reduceMul, Nat.reduceLeDiff, Int.reduceToNat, Int.reduceLT, Int.reduceLE, ha0, on_atB hl0, lt_add hl0, lt_at hl0, on_updB hl0, on_atU hl0, on_updU hl0, upd_same ha0, cF3, cF6]))
      refine w_K (D := (Aft W1 D)) (fun xX : (Int × List TUnit × Int × Int × Int) => ⟨[(0, .cv (.val (.ptr (some (l0, 0))))), (3, .cv (.row 80 (List.map eRange l1))), (4, .cv (.val (.int .i64 place1))), (5, .cv (.val (.ptr (some (h.n + 0, 0)))))], (h.upd l0 (.cells [.val (.sl (List.map eUnit xX.2.1)), .val (.int .i64 xX.2.2.1), .val (.int .i64 xX.2.2.2.1), .val (.int .i64 xX.2.2.2.2)])).on [some (.cells [.val (.int .i64 r3.1), .val (.int .i64 xX.1)])]⟩) (fun xX : (Int × List TUnit × Int × Int × Int) => lex_reader_set.k2 l1 place1 r3 xX.1 xX.2.1 xX.2.2.1 xX.2.2.2.1 xX.2.2.2.2) (fun xX s' hr ht => ?_) ?_
      · obtain ⟨High, units2, place2, whole2, fault2⟩ := xX
        dsimp only [lex_reader_set.k2] at hr ht
        refine (w_nT ht ?_)
        refine w_seq ?_
        refine w_block ?_
        refine w_seq ?_
        refine w_region rfl (by simp (disch := (apply Apart.mk; decide)) only [go_sem, Nat.reduceAdd, Nat.reduceLT, Nat.reduceMul, Nat.reduceLeDiff, Int.reduceToNat, Int.reduceLT, Int.reduceLE, ha0, on_atB hl0, lt_add hl0, lt_at hl0, on_updB hl0, on_atU hl0, on_updU hl0, upd_same ha0, cF3]; rfl) ?_
        refine w_n ?_
        refine w_condH (by simp (disch := (apply Apart.mk; decide)) only [go_sem, Nat.reduceAdd, Nat.reduceLT, Nat.reduceMul, Nat.reduceLeDiff, Int.reduceToNat, Int.reduceLT, Int.reduceLE, ha0, on_atB hl0, lt_add hl0, lt_at hl0, on_updB hl0, on_atU hl0, on_updU hl0, upd_same ha0, cF3]) hr (fun cF8 hr => ?_) (fun cF8 hr => ?_)
        · refine w_seq ?_
          refine w_region rfl (by simp (disch := (apply Apart.mk; decide)) only [go_sem, Nat.reduceAdd, Nat.reduceLT, Nat.reduceMul, Nat.reduceLeDiff, Int.reduceToNat, Int.reduceLT, Int.reduceLE, ha0, on_atB hl0, lt_add hl0, lt_at hl0, on_updB hl0, on_atU hl0, on_updU hl0, upd_same ha0, cF3, cF8]; rfl) ?_
          refine w_n ?_
          refine w_ret ?_
          obtain rfl := hD _ hr
          exact (w_br (w_tr (w_br (w_tr (w_br (w_tr (w_tr (w_endR (To.cut (os' := []) (sl := [(2, .cv (.val (.sl (List.map eRange ([] : List TRange)))))]) (h := (h.upd l0 (.cells [.val (.sl (List.map eUnit units2)), .val (.int .i64 place2), .val (.int .i64 whole2), .val (.int .i64 fault2)]))) (WF.upd hwf hl0 (by simp (disch := (apply Apart.mk; decide)) only [go_sem, Nat.reduceAdd, Nat.reduceLT, Nat.reduceMul, Nat.reduceLeDiff, Int.reduceToNat, Int.reduceLT, Int.reduceLE, ha0, on_atB hl0, lt_add hl0, lt_at hl0, on_updB hl0, on_atU hl0, on_updU hl0, upd_same ha0])) (Nat.le_refl _) (by first | rfl | (simp (disch := (apply Apart.mk; decide)) only [go_sem, Nat.reduceAdd, Nat.reduceLT, Nat.reduceMul, Nat.reduceLeDiff, Int.reduceToNat, Int.reduceLT, Int.reduceLE, ha0, on_atB hl0, lt_add hl0, lt_at hl0, on_updB hl0, on_atU hl0, on_updU hl0, upd_same ha0, cF3, cF8]; rfl)) (by simp (disch := (apply Apart.mk; decide)) only [go_sem, Nat.reduceAdd, Nat.reduceLT, Nat.reduceMul, Nat.reduceLeDiff, Int.reduceToNat, Int.reduceLT, Int.reduceLE, ha0, on_atB hl0, lt_add hl0, lt_at hl0, on_updB hl0, on_atU hl0, on_updU hl0, upd_same ha0, cF3, cF8])) (by simp (disch := (apply Apart.mk; decide)) only [go_sem, Nat.reduceAdd, Nat.reduceLT, Nat.reduceMul, Nat.reduceLeDiff, Int.reduceToNat, Int.reduceLT, Int.reduceLE, ha0, on_atB hl0, lt_add hl0, lt_at hl0, on_updB hl0, on_atU hl0, on_updU hl0, upd_same ha0, Try.results84, results_data CT_gives84, resCell, resVal.eq_2, loadOp_sv, cF3, cF8]) ⟨rfl, on_nil (h := (h.upd l0 (.cells [.val (.sl (List.map eUnit units2)), .val (.int .i64 place2), .val (.int .i64 whole2), .val (.int .i64 fault2)]))) (WF.upd hwf hl0 (by simp (disch := (apply Apart.mk; decide)) only [go_sem, Nat.reduceAdd, Nat.reduceLT, Nat.reduceMul, Nat.reduceLeDiff, Int.reduceToNat, Int.reduceLT, Int.reduceLE, ha0, on_atB hl0, lt_add hl0, lt_at hl0, on_updB hl0, on_atU hl0, on_updU hl0, upd_same ha0]))⟩))))))))
        · refine w_joinR (sj := ⟨[(0, .cv (.val (.ptr (some (l0, 0))))), (3, .cv (.row 80 (List.map eRange l1))), (4, .cv (.val (.int .i64 place1))), (5, .cv (.val (.ptr (some (h.n + 0, 0))))), (47, .cv (.val (.bool ((decide (r3.1 > High)) || (decide (High > (1114111 : Int)))))))], (h.upd l0 (.cells [.val (.sl (List.map eUnit units2)), .val (.int .i64 place2), .val (.int .i64 whole2), .val (.int .i64 fault2)])).on [some (.cells [.val (.int .i64 r3.1), .val (.int .i64 High)])]⟩) (A_ops ?_) ?_
          · refine w_upto 6 rfl (by simp (disch := (apply Apart.mk; decide)) only [go_sem, Nat.reduceAdd, Nat.reduceLT, Nat.reduceMul, Nat.reduceLeDiff, Int.reduceToNat, Int.reduceLT, Int.reduceLE, ha0, on_atB hl0, lt_add hl0, lt_at hl0, on_updB hl0, on_atU hl0, on_updU hl0, upd_same ha0]; rfl) ?_
            rcases Bool.eq_false_or_eq_true (decide (r3.1 > High)) with cF9 | cF9
            · refine w_ops_end (by simp (disch := (apply Apart.mk; decide)) only [go_sem, Nat.reduceAdd, Nat.reduceLT, Nat.reduceMul, Nat.reduceLeDiff, Int.reduceToNat, Int.reduceLT, Int.reduceLE, ha0, on_atB hl0, lt_add hl0, lt_at hl0, on_updB hl0, on_atU hl0, on_updU hl0, upd_same ha0, cF9]; rfl) ?_
              exact w_k (To.cut (h := (h.upd l0 (.cells [.val (.sl (List.map eUnit units2)), .val (.int .i64 place2), .val (.int .i64 whole2), .val (.int .i64 fault2)]))) (WF.upd hwf hl0 (by simp (disch := (apply Apart.mk; decide)) only [go_sem, Nat.reduceAdd, Nat.reduceLT, Nat.reduceMul, Nat.reduceLeDiff, Int.reduceToNat, Int.reduceLT, Int.reduceLE, ha0, on_atB hl0, lt_add hl0, lt_at hl0, on_updB hl0, on_atU hl0, on_updU hl0, upd_same ha0])) (Nat.le_refl _) (by first | rfl | (simp (disch := (apply Apart.mk; decide)) only [go_sem, Nat.reduceAdd, Nat.reduceLT, Nat.reduceMul, Nat.reduceLeDiff, Int.reduceToNat, Int.reduceLT, Int.reduceLE, ha0, on_atB hl0, lt_add hl0, lt_at hl0, on_updB hl0, on_atU hl0, on_updU hl0, upd_same ha0, cF3, cF8, cF9]; rfl)) (by simp (disch := (apply Apart.mk; decide)) only [go_sem, Nat.reduceAdd, Nat.reduceLT, Nat.reduceMul, Nat.reduceLeDiff, Int.reduceToNat, Int.reduceLT, Int.reduceLE, ha0, on_atB hl0, lt_add hl0, lt_at hl0, on_updB hl0, on_atU hl0, on_updU hl0, upd_same ha0, cF3, cF8, cF9]))
            · refine w_ops_end (by simp (disch := (apply Apart.mk; decide)) only [go_sem, Nat.reduceAdd, Nat.reduceLT, Nat.reduceMul, Nat.reduceLeDiff, Int.reduceToNat, Int.reduceLT, Int.reduceLE, ha0, on_atB hl0, lt_add hl0, lt_at hl0, on_updB hl0, on_atU hl0, on_updU hl0, upd_same ha0, cF9]; rfl) ?_
              exact w_k (To.cut (h := (h.upd l0 (.cells [.val (.sl (List.map eUnit units2)), .val (.int .i64 place2), .val (.int .i64 whole2), .val (.int .i64 fault2)]))) (WF.upd hwf hl0 (by simp (disch := (apply Apart.mk; decide)) only [go_sem, Nat.reduceAdd, Nat.reduceLT, Nat.reduceMul, Nat.reduceLeDiff, Int.reduceToNat, Int.reduceLT, Int.reduceLE, ha0, on_atB hl0, lt_add hl0, lt_at hl0, on_updB hl0, on_atU hl0, on_updU hl0, upd_same ha0])) (Nat.le_refl _) (by first | rfl | (simp (disch := (apply Apart.mk; decide)) only [go_sem, Nat.reduceAdd, Nat.reduceLT, Nat.reduceMul, Nat.reduceLeDiff, Int.reduceToNat, Int.reduceLT, Int.reduceLE, ha0, on_atB hl0, lt_add hl0, lt_at hl0, on_updB hl0, on_atU hl0, on_updU hl0, upd_same ha0, cF3, cF8, cF9]; rfl)) (by simp (disch := (apply Apart.mk; decide)) only [go_sem, Nat.reduceAdd, Nat.reduceLT, Nat.reduceMul, Nat.reduceLeDiff, Int.reduceToNat, Int.reduceLT, Int.reduceLE, ha0, on_atB hl0, lt_add hl0, lt_at hl0, on_updB hl0, on_atU hl0, on_updU hl0, upd_same ha0, cF3, cF8, cF9]))
          refine w_condH (by simp (disch := (apply Apart.mk; decide)) only [go_sem, Nat.reduceAdd, Nat.reduceLT, Nat.reduceMul, Nat.reduceLeDiff, Int.reduceToNat, Int.reduceLT, Int.reduceLE, ha0, on_atB hl0, lt_add hl0, lt_at hl0, on_updB hl0, on_atU hl0, on_updU hl0, upd_same ha0, cF3, cF8]) hr (fun cF10 hr => ?_) (fun cF10 hr => ?_)
          · refine w_seq ?_
            refine w_region rfl (by simp (disch := (apply Apart.mk; decide)) only [go_sem, Nat.reduceAdd, Nat.reduceLT, Nat.reduceMul, Nat.reduceLeDiff, Int.reduceToNat, Int.reduceLT, Int.reduceLE, ha0, on_atB hl0, lt_add hl0, lt_at hl0, on_updB hl0, on_atU hl0, on_updU hl0, upd_same ha0, cF3, cF8, cF10]; rfl) ?_
            refine w_n ?_
            refine w_seq ?_
            refine w_region rfl (by simp (disch := (apply Apart.mk; decide)) only [go_sem, Nat.reduceAdd, Nat.reduceLT, Nat.reduceMul, Nat.reduceLeDiff, Int.reduceToNat, Int.reduceLT, Int.reduceLE, ha0, on_atB hl0, lt_add hl0, lt_at hl0, on_updB hl0, on_atU hl0, on_updU hl0, upd_same ha0, cF3, cF8, cF10]; rfl) ?_
            refine w_n ?_
            refine w_ret ?_
            obtain rfl := hD _ hr
            exact (w_br (w_tr (w_br (w_tr (w_br (w_tr (w_tr (w_endR (To.cut (os' := []) (sl := [(2, .cv (.val (.sl (List.map eRange ([] : List TRange)))))]) (h := (h.upd l0 (.cells [.val (.sl (List.map eUnit units2)), .val (.int .i64 place1), .val (.int .i64 whole2), .val (.int .i64 (1 : Int))]))) (WF.upd hwf hl0 (by simp (disch := (apply Apart.mk; decide)) only [go_sem, Nat.reduceAdd, Nat.reduceLT, Nat.reduceMul, Nat.reduceLeDiff, Int.reduceToNat, Int.reduceLT, Int.reduceLE, ha0, on_atB hl0, lt_add hl0, lt_at hl0, on_updB hl0, on_atU hl0, on_updU hl0, upd_same ha0])) (Nat.le_refl _) (by first | rfl | (simp (disch := (apply Apart.mk; decide)) only [go_sem, Nat.reduceAdd, Nat.reduceLT, Nat.reduceMul, Nat.reduceLeDiff, Int.reduceToNat, Int.reduceLT, Int.reduceLE, ha0, on_atB hl0, lt_add hl0, lt_at hl0, on_updB hl0, on_atU hl0, on_updU hl0, upd_same ha0, cF3, cF8, cF10]; rfl)) (by simp (disch := (apply Apart.mk; decide)) only [go_sem, Nat.reduceAdd, Nat.reduceLT, Nat.reduceMul, Nat.reduceLeDiff, Int.reduceToNat, Int.reduceLT, Int.reduceLE, ha0, on_atB hl0, lt_add hl0, lt_at hl0, on_updB hl0, on_atU hl0, on_updU hl0, upd_same ha0, cF3, cF8, cF10])) (by simp (disch := (apply Apart.mk; decide)) only [go_sem, Nat.reduceAdd, Nat.reduceLT, Nat.reduceMul, Nat.reduceLeDiff, Int.reduceToNat, Int.reduceLT, Int.reduceLE, ha0, on_atB hl0, lt_add hl0, lt_at hl0, on_updB hl0, on_atU hl0, on_updU hl0, upd_same ha0, Try.results84, results_data CT_gives84, resCell, resVal.eq_2, loadOp_sv, cF3, cF8, cF10]) ⟨rfl, on_nil (h := (h.upd l0 (.cells [.val (.sl (List.map eUnit units2)), .val (.int .i64 place1), .val (.int .i64 whole2), .val (.int .i64 (1 : Int))]))) (WF.upd hwf hl0 (by simp (disch := (apply Apart.mk; decide)) only [go_sem, Nat.reduceAdd, Nat.reduceLT, Nat.reduceMul, Nat.reduceLeDiff, Int.reduceToNat, Int.reduceLT, Int.reduceLE, ha0, on_atB hl0, lt_add hl0, lt_at hl0, on_updB hl0, on_atU hl0, on_updU hl0, upd_same ha0]))⟩))))))))
          · refine w_skip ?_
            refine (w_bn (w_n ?_))
            obtain ⟨nF11, hr⟩ := hr.room
            refine w_region rfl (by simp (disch := (apply Apart.mk; decide)) only [go_sem, Nat.reduceAdd, Nat.reduceLT, Nat.reduceMul, Nat.reduceLeDiff, Int.reduceToNat, Int.reduceLT, Int.reduceLE, ha0, on_atB hl0, lt_add hl0, lt_at hl0, on_updB hl0, on_atU hl0, on_updU hl0, upd_same ha0, nF11, cF3, cF8, cF10]; rfl) ?_
            exact (w_bn (w_k ⟨((l1 ++ ([(TRange.mk r3.1 High)])), units2, place2, whole2, fault2), hr, (To.cut (h := (h.upd l0 (.cells [.val (.sl (List.map eUnit units2)), .val (.int .i64 place2), .val (.int .i64 whole2), .val (.int .i64 fault2)]))) (WF.upd hwf hl0 (by simp (disch := (apply Apart.mk; decide)) only [go_sem, Nat.reduceAdd, Nat.reduceLT, Nat.reduceMul, Nat.reduceLeDiff, Int.reduceToNat, Int.reduceLT, Int.reduceLE, ha0, on_atB hl0, lt_add hl0, lt_at hl0, on_updB hl0, on_atU hl0, on_updU hl0, upd_same ha0])) (Nat.le_refl _) (by first | rfl | (simp (disch := (apply Apart.mk; decide)) only [go_sem, Nat.reduceAdd, Nat.reduceLT, Nat.reduceMul, Nat.reduceLeDiff, Int.reduceToNat, Int.reduceLT, Int.reduceLE, ha0, on_atB hl0, lt_add hl0, lt_at hl0, on_updB hl0, on_atU hl0, on_updU hl0, upd_same ha0, cF3, cF8, cF10]; rfl)) (by simp (disch := (apply Apart.mk; decide)) only [go_sem, Nat.reduceAdd, Nat.reduceLT, Nat.reduceMul, Nat.reduceLeDiff, Int.reduceToNat, Int.reduceLT, Int.reduceLE, ha0, on_atB hl0, lt_add hl0, lt_at hl0, on_updB hl0, on_atU hl0, on_updU hl0, upd_same ha0, cF3, cF8, cF10]))⟩))
      · refine w_condH (by simp (disch := (apply Apart.mk; decide)) only [go_sem, Nat.reduceAdd, Nat.reduceLT, Nat.reduceMul, Nat.reduceLeDiff, Int.reduceToNat, Int.reduceLT, Int.reduceLE, ha0, on_atB hl0, lt_add hl0, lt_at hl0, on_updB hl0, on_atU hl0, on_updU hl0, upd_same ha0, cF3]) hr (fun cF12 hr => ?_) (fun cF12 hr => ?_)
        · refine w_seq ?_
          refine w_region rfl (by simp (disch := (apply Apart.mk; decide)) only [go_sem, Nat.reduceAdd, Nat.reduceLT, Nat.reduceMul, Nat.reduceLeDiff, Int.reduceToNat, Int.reduceLT, Int.reduceLE, ha0, on_atB hl0, lt_add hl0, lt_at hl0, on_updB hl0, on_atU hl0, on_updU hl0, upd_same ha0, cF3, cF12]; rfl) ?_
          refine w_n ?_
          refine A_ops ?_
          refine w_upto 1 rfl (by simp (disch := (apply Apart.mk; decide)) only [go_sem, Nat.reduceAdd, Nat.reduceLT, Nat.reduceMul, Nat.reduceLeDiff, Int.reduceToNat, Int.reduceLT, Int.reduceLE, ha0, on_atB hl0, lt_add hl0, lt_at hl0, on_updB hl0, on_atU hl0, on_updU hl0, upd_same ha0]; rfl) ?_
          obtain ⟨r5, eF13, hr⟩ := hr.bind
          refine w_call' (out := ?o_eF13) (hp := ?p_eF13) rfl (by simp (disch := (apply Apart.mk; decide)) only [go_sem, Nat.reduceAdd, Nat.reduceLT, Nat.reduceMul, Nat.reduceLeDiff, Int.reduceToNat, Int.reduceLT, Int.reduceLE, ha0, on_atB hl0, lt_add hl0, lt_at hl0, on_updB hl0, on_atU hl0, on_updU hl0, upd_same ha0, Option.getD_some]; rfl) (by simp (disch := (apply Apart.mk; decide)) only [go_sem, Nat.reduceAdd, Nat.reduceLT, Nat.reduceMul, Nat.reduceLeDiff, Int.reduceToNat, Int.reduceLT, Int.reduceLE, ha0, on_atB hl0, lt_add hl0, lt_at hl0, on_updB hl0, on_atU hl0, on_updU hl0, upd_same ha0, Option.getD_some]; rfl) (by simp (disch := (apply Apart.mk; decide)) only [go_sem, Nat.reduceAdd, Nat.reduceLT, Nat.reduceMul, Nat.reduceLeDiff, Int.reduceToNat, Int.reduceLT, Int.reduceLE, ha0, on_atB hl0, lt_add hl0, lt_at hl0, on_updB hl0, on_atU hl0, on_updU hl0, upd_same ha0, Option.getD_some]; rfl) ?c_eF13 ?d_eF13 ?_
          case c_eF13 => (refine lex_reader_letter_runs (Tlex_reader.mk r3.2.units (IntKind.i64.wrap (r3.2.place + (1 : Int))) r3.2.whole r3.2.fault) (l0) ?_ eF13; (simp (disch := (apply Apart.mk; decide)) only [go_sem, Nat.reduceAdd, Nat.reduceLT, Nat.reduceMul, Nat.reduceLeDiff, Int.reduceToNat, Int.reduceLT, Int.reduceLE, ha0, on_atB hl0, lt_add hl0, lt_at hl0, on_updB hl0, on_atU hl0, on_updU hl0, upd_same ha0]))
          case d_eF13 => rfl
          refine w_ops_end (by simp (disch := (apply Apart.mk; decide)) only [go_sem, Nat.reduceAdd, Nat.reduceLT, Nat.reduceMul, Nat.reduceLeDiff, Int.reduceToNat, Int.reduceLT, Int.reduceLE, ha0, on_atB hl0, lt_add hl0, lt_at hl0, on_updB hl0, on_atU hl0, on_updU hl0, upd_same ha0]; rfl) ?_
          exact (w_k ⟨(r5.1, r5.2.units, r5.2.place, r5.2.whole, r5.2.fault), hr, (To.cut (h := (h.upd l0 (.cells [.val (.sl (List.map eUnit r5.2.units)), .val (.int .i64 r5.2.place), .val (.int .i64 r5.2.whole), .val (.int .i64 r5.2.fault)]))) (WF.upd hwf hl0 (by simp (disch := (apply Apart.mk; decide)) only [go_sem, Nat.reduceAdd, Nat.reduceLT, Nat.reduceMul, Nat.reduceLeDiff, Int.reduceToNat, Int.reduceLT, Int.reduceLE, ha0, on_atB hl0, lt_add hl0, lt_at hl0, on_updB hl0, on_atU hl0, on_updU hl0, upd_same ha0])) (Nat.le_refl _) (by first | rfl | (simp (disch := (apply Apart.mk; decide)) only [go_sem, Nat.reduceAdd, Nat.reduceLT, Nat.reduceMul, Nat.reduceLeDiff, Int.reduceToNat, Int.reduceLT, Int.reduceLE, ha0, on_atB hl0, lt_add hl0, lt_at hl0, on_updB hl0, on_atU hl0, on_updU hl0, upd_same ha0, cF3, cF12]; rfl)) (by simp (disch := (apply Apart.mk; decide)) only [go_sem, Nat.reduceAdd, Nat.reduceLT, Nat.reduceMul, Nat.reduceLeDiff, Int.reduceToNat, Int.reduceLT, Int.reduceLE, ha0, on_atB hl0, lt_add hl0, lt_at hl0, on_updB hl0, on_atU hl0, on_updU hl0, upd_same ha0, cF3, cF12]))⟩)
        · refine w_skip ?_
          exact (w_k ⟨(r3.1, r3.2.units, r3.2.place, r3.2.whole, r3.2.fault), hr, (To.cut (h := (h.upd l0 (.cells [.val (.sl (List.map eUnit r3.2.units)), .val (.int .i64 r3.2.place), .val (.int .i64 r3.2.whole), .val (.int .i64 r3.2.fault)]))) (WF.upd hwf hl0 (by simp (disch := (apply Apart.mk; decide)) only [go_sem, Nat.reduceAdd, Nat.reduceLT, Nat.reduceMul, Nat.reduceLeDiff, Int.reduceToNat, Int.reduceLT, Int.reduceLE, ha0, on_atB hl0, lt_add hl0, lt_at hl0, on_updB hl0, on_atU hl0, on_updU hl0, upd_same ha0])) (Nat.le_refl _) (by first | rfl | (simp (disch := (apply Apart.mk; decide)) only [go_sem, Nat.reduceAdd, Nat.reduceLT, Nat.reduceMul, Nat.reduceLeDiff, Int.reduceToNat, Int.reduceLT, Int.reduceLE, ha0, on_atB hl0, lt_add hl0, lt_at hl0, on_updB hl0, on_atU hl0, on_updU hl0, upd_same ha0, cF3, cF12]; rfl)) (by simp (disch := (apply Apart.mk; decide)) only [go_sem, Nat.reduceAdd, Nat.reduceLT, Nat.reduceMul, Nat.reduceLeDiff, Int.reduceToNat, Int.reduceLT, Int.reduceLE, ha0, on_atB hl0, lt_add hl0, lt_at hl0, on_updB hl0, on_atU hl0, on_updU hl0, upd_same ha0, cF3, cF12]))⟩)
    · refine w_exit ?_
      exact (w_te (w_te (w_bx (w_k ⟨(l1, units1, place1, whole1, fault1), (hr).map, (To.cut (h := (h.upd l0 (.cells [.val (.sl (List.map eUnit units1)), .val (.int .i64 place1), .val (.int .i64 whole1), .val (.int .i64 fault1)]))) (WF.upd hwf hl0 (by simp (disch := (apply Apart.mk; decide)) only [go_sem, Nat.reduceAdd, Nat.reduceLT, Nat.reduceMul, Nat.reduceLeDiff, Int.reduceToNat, Int.reduceLT, Int.reduceLE, ha0, on_atB hl0, lt_add hl0, lt_at hl0, on_updB hl0, on_atU hl0, on_updU hl0, upd_same ha0])) (Nat.le_refl _) (by first | rfl | (simp (disch := (apply Apart.mk; decide)) only [go_sem, Nat.reduceAdd, Nat.reduceLT, Nat.reduceMul, Nat.reduceLeDiff, Int.reduceToNat, Int.reduceLT, Int.reduceLE, ha0, on_atB hl0, lt_add hl0, lt_at hl0, on_updB hl0, on_atU hl0, on_updU hl0, upd_same ha0, cF3]; rfl)) (by simp (disch := (apply Apart.mk; decide)) only [go_sem, Nat.reduceAdd, Nat.reduceLT, Nat.reduceMul, Nat.reduceLeDiff, Int.reduceToNat, Int.reduceLT, Int.reduceLE, ha0, on_atB hl0, lt_add hl0, lt_at hl0, on_updB hl0, on_atU hl0, on_updU hl0, upd_same ha0, cF3]))⟩))))
end Go.Val

/- part IW58 -/
/- scansion/lex.goes runs as it is read off. -/
namespace Go.Val
set_option linter.unusedVariables false
set_option linter.unusedSimpArgs false
set_option maxRecDepth 20000
open Go.Proofs
theorem lex_goes_runs (r : Int) {h : Heap} {a : Bool} (e : lex_goes r = some a) :
    Runs CT 58 [.cv (.val (.int .i64 r))] h fun o h' => o = [.cv (.val (.bool a))] ∧ h' = h := by
  refine Runs.start Try.f58 _ Try.func58 rfl (by rw [Try.ntmps58]; simp) (by rfl) (by rfl) (fun hwf hu => ?_)
  obtain ⟨D, hD, hr⟩ : ∃ D : Bool → Prop, (∀ z, D z → z = a) ∧ Holds (lex_goes r) D := ⟨fun z => z = a, fun _ h => h, Holds.intro e rfl⟩
  dsimp only [lex_goes] at hr
  change wpCode _ _ _ _ _ ⟨[(0, .cv (.val (.int .i64 r)))], h.on []⟩
  refine w_seq ?_
  refine A_region ?_
  refine w_n ?_
  obtain ⟨v, vF5, hr⟩ := hr.bind
  refine w_joinR (sj := ⟨[(2, .cv (.val (.bool v)))], h.on []⟩) (A_ops ?_) ?_
  · have hr := Holds.intro (D := fun z => z = v) vF5 rfl
    refine A_upto 1 ?_
    obtain ⟨r1, eF1, hr⟩ := hr.bind
    refine A_call (out := ?o_eF1) (hp := ?p_eF1) ?c_eF1 ?d_eF1 ?_
    case c_eF1 => exact lex_lower_runs r eF1
    case d_eF1 => rfl
    refine A_upto 1 ?_
    rcases hr.ite with ⟨cF2, hr⟩ | ⟨cF2, hr⟩
    · refine A_ops_end ?_
      obtain rfl : _ = v := hr
      exact w_k (A_cut hwf)
    · refine A_upto 3 ?_
      rcases hr.ite with ⟨cF3, hr⟩ | ⟨cF3, hr⟩
      · refine A_upto 5 ?_
        rcases hr.ite with ⟨cF4, hr⟩ | ⟨cF4, hr⟩
        · refine A_ops_end ?_
          obtain rfl : _ = v := hr
          exact w_k (A_cut hwf)
        · refine A_ops_end ?_
          obtain rfl : _ = v := hr
          exact w_k (A_cut hwf)
      · refine A_ops_end ?_
        obtain rfl : _ = v := hr
        exact w_k (A_cut hwf)
  refine w_ret ?_
  obtain rfl := hD _ hr
  exact (A_endR (A_cut (os' := []) (sl := [(2, .cv (.val (.bool v)))]) hwf) ⟨rfl, on_nil hwf⟩)
end Go.Val

/- part IW45 -/
/- (*scansion/lex.reader).token runs as it is read off. -/
namespace Go.Val
set_option linter.unusedVariables false
set_option linter.unusedSimpArgs false
set_option maxRecDepth 20000
open Go.Proofs
theorem lex_reader_token_runs (r : Tlex_reader) (b : List UInt8) (l0 : Nat) {h : Heap} (ha0 : h.at_ l0 = some (.cells [.val (.sl (List.map eUnit r.units)), .val (.int .i64 r.place), .val (.int .i64 r.whole), .val (.int .i64 r.fault)])) {a : (TToken × Tlex_reader)} (e : lex_reader_token r b = some a) :
    Runs CT 45 [.cv (.val (.ptr (some (l0, 0)))), .cv (.val (.sl (List.map eU b)))] h fun o h' => o = [.cv (.val (.agg [.int .i64 a.1.Kind, .int .i64 a.1.At, .str (bs a.1.Text), .sl (List.map eRange a.1.Set)]))] ∧ h' = (h.upd l0 (.cells [.val (.sl (List.map eUnit a.2.units)), .val (.int .i64 a.2.place), .val (.int .i64 a.2.whole), .val (.int .i64 a.2.fault)])) := by
  refine Runs.start Try.f45 _ Try.func45 rfl (by rw [Try.ntmps45]; simp) (by rfl) (by rfl) (fun hwf hu => ?_)
  have hl0 := (hwf _ _ ha0).1
  have kl0 := locF hl0
  obtain ⟨D, hD, hr⟩ : ∃ D : (TToken × Tlex_reader) → Prop, (∀ z, D z → z = a) ∧ Holds (lex_reader_token r b) D := ⟨fun z => z = a, fun _ h => h, Holds.intro e rfl⟩
  dsimp only [lex_reader_token] at hr
  change wpCode _ _ _ _ _ ⟨[(0, .cv (.val (.ptr (some (l0, 0))))), (1, .cv (.val (.sl (List.map eU b))))], h.on []⟩
  refine w_seq ?_
  refine w_region rfl (by simp (disch := (apply Apart.mk; decide)) only [go_sem, Nat.reduceAdd, Nat.reduceLT, Nat.reduceMul, Nat.reduceLeDiff, Int.reduceToNat, Int.reduceLT, Int.reduceLE, ha0, on_atB hl0, lt_add hl0, lt_at hl0, on_updB hl0, on_atU hl0, on_updU hl0, upd_same ha0]; rfl) ?_
  refine w_n ?_
  refine w_seq ?_
  refine A_ops ?_
  refine w_upto 1 rfl (by simp (disch := (apply Apart.mk; decide)) only [go_sem, Nat.reduceAdd, Nat.reduceLT, Nat.reduceMul, Nat.reduceLeDiff, Int.reduceToNat, Int.reduceLT, Int.reduceLE, ha0, on_atB hl0, lt_add hl0, lt_at hl0, on_updB hl0, on_atU hl0, on_updU hl0, upd_same ha0]; rfl) ?_
  obtain ⟨r1, eF1, hr⟩ := hr.bind
  refine w_call' (out := ?o_eF1) (hp := ?p_eF1) rfl (by simp (disch := (apply Apart.mk; decide)) only [go_sem, Nat.reduceAdd, Nat.reduceLT, Nat.reduceMul, Nat.reduceLeDiff, Int.reduceToNat, Int.reduceLT, Int.reduceLE, ha0, on_atB hl0, lt_add hl0, lt_at hl0, on_updB hl0, on_atU hl0, on_updU hl0, upd_same ha0, Option.getD_some]; rfl) (by simp (disch := (apply Apart.mk; decide)) only [go_sem, Nat.reduceAdd, Nat.reduceLT, Nat.reduceMul, Nat.reduceLeDiff, Int.reduceToNat, Int.reduceLT, Int.reduceLE, ha0, on_atB hl0, lt_add hl0, lt_at hl0, on_updB hl0, on_atU hl0, on_updU hl0, upd_same ha0, Option.getD_some]; rfl) (by simp (disch := (apply Apart.mk; decide)) only [go_sem, Nat.reduceAdd, Nat.reduceLT, Nat.reduceMul, Nat.reduceLeDiff, Int.reduceToNat, Int.reduceLT, Int.reduceLE, ha0, on_atB hl0, lt_add hl0, lt_at hl0, on_updB hl0, on_atU hl0, on_updU hl0, upd_same ha0, Option.getD_some]; rfl) ?c_eF1 ?d_eF1 ?_
  case c_eF1 => (refine lex_reader_at_runs r (l0) ?_ eF1; (simp (disch := (apply Apart.mk; decide)) only [go_sem, Nat.reduceAdd, Nat.reduceLT, Nat.reduceMul, Nat.reduceLeDiff, Int.reduceToNat, Int.reduceLT, Int.reduceLE, ha0, on_atB hl0, lt_add hl0, lt_at hl0, on_updB hl0, on_atU hl0, on_updU hl0, upd_same ha0]))
  case d_eF1 => rfl
  refine w_ops_end (by simp (disch := (apply Apart.mk; decide)) only [go_sem, Nat.reduceAdd, Nat.reduceLT, Nat.reduceMul, Nat.reduceLeDiff, Int.reduceToNat, Int.reduceLT, Int.reduceLE, ha0, on_atB hl0, lt_add hl0, lt_at hl0, on_updB hl0, on_atU hl0, on_updU hl0, upd_same ha0]; rfl) ?_
  refine w_n ?_
  refine w_seq ?_
  refine A_ops ?_
  refine w_upto 1 rfl (by simp (disch := (apply Apart.mk; decide)) only [go_sem, Nat.reduceAdd, Nat.reduceLT, Nat.reduceMul, Nat.reduceLeDiff, Int.reduceToNat, Int.reduceLT, Int.reduceLE, ha0, on_atB hl0, lt_add hl0, lt_at hl0, on_updB hl0, on_atU hl0, on_updU hl0, upd_same ha0]; rfl) ?_
  obtain ⟨r2, eF2, hr⟩ := hr.bind
  refine w_call' (out := ?o_eF2) (hp := ?p_eF2) rfl (by simp (disch := (apply Apart.mk; decide)) only [go_sem, Nat.reduceAdd, Nat.reduceLT, Nat.reduceMul, Nat.reduceLeDiff, Int.reduceToNat, Int.reduceLT, Int.reduceLE, ha0, on_atB hl0, lt_add hl0, lt_at hl0, on_updB hl0, on_atU hl0, on_updU hl0, upd_same ha0, Option.getD_some]; rfl) (by simp (disch := (apply Apart.mk; decide)) only [go_sem, Nat.reduceAdd, Nat.reduceLT, Nat.reduceMul, Nat.reduceLeDiff, Int.reduceToNat, Int.reduceLT, Int.reduceLE, ha0, on_atB hl0, lt_add hl0, lt_at hl0, on_updB hl0, on_atU hl0, on_updU hl0, upd_same ha0, Option.getD_some]; rfl) (by simp (disch := (apply Apart.mk; decide)) only [go_sem, Nat.reduceAdd, Nat.reduceLT, Nat.reduceMul, Nat.reduceLeDiff, Int.reduceToNat, Int.reduceLT, Int.reduceLE, ha0, on_atB hl0, lt_add hl0, lt_at hl0, on_updB hl0, on_atU hl0, on_updU hl0, upd_same ha0, Option.getD_some]; rfl) ?c_eF2 ?d_eF2 ?_
  case c_eF2 => (refine lex_reader_take_runs r (lex_reader_token_1) (l0) _ _ ?_ ?_ ?_ eF2; (exact (fun os x0 r e => lex_reader_token_1_runs x0 e)); (exact (fun i => by simp [CT])); (simp (disch := (apply Apart.mk; decide)) only [go_sem, Nat.reduceAdd, Nat.reduceLT, Nat.reduceMul, Nat.reduceLeDiff, Int.reduceToNat, Int.reduceLT, Int.reduceLE, ha0, on_atB hl0, lt_add hl0, lt_at hl0, on_updB hl0, on_atU hl0, on_updU hl0, upd_same ha0]))
  case d_eF2 => rfl
  refine w_ops_end (by simp (disch := (apply Apart.mk; decide)) only [go_sem, Nat.reduceAdd, Nat.reduceLT, Nat.reduceMul, Nat.reduceLeDiff, Int.reduceToNat, Int.reduceLT, Int.reduceLE, ha0, on_atB hl0, lt_add hl0, lt_at hl0, on_updB hl0, on_atU hl0, on_updU hl0, upd_same ha0]; rfl) ?_
  refine w_n ?_
  refine w_seq ?_
  refine w_K (D := D) (fun xX : (Int × List TUnit × Int × Int × Int) => ⟨[(0, .cv (.val (.ptr (some (l0, 0))))), (1, .cv (.val (.sl (List.map eU b)))), (4, .cv (.val (.ptr (some (h.n + 0, 0))))), (5, .cv (.val (.ptr (some (h.n + 1, 0)))))], (h.upd l0 (.cells [.val (.sl (List.map eUnit xX.2.1)), .val (.int .i64 xX.2.2.1), .val (.int .i64 xX.2.2.2.1), .val (.int .i64 xX.2.2.2.2)])).on [some (.cells [.val (.int .i64 (0 : Int)), .val (.int .i64 (0 : Int)), .val (.str (bs ([] : Str))), .nil]), some (.cells [.val (.int .i64 xX.1), .val (.int .i64 r1), .val (.str (bs ([] : Str))), .nil])]⟩) (fun xX : (Int × List TUnit × Int × Int × Int) => lex_reader_token.k1 b r1 xX.1 xX.2.1 xX.2.2.1 xX.2.2.2.1 xX.2.2.2.2) (fun xX s' hr ht => ?_) ?_
  · obtain ⟨Kind, units, place, whole, fault⟩ := xX
    dsimp only [lex_reader_token.k1] at hr ht
    refine (w_nT ht ?_)
    refine w_seq ?_
    refine w_drawn [0, 1, 2, 3, 4, 5, 6, 7, 8] (by rfl) ?_
    refine p_run (l := [0, 1, 2, 3]) (pend' := [3, 2, 1, 0]) (by simp (disch := (apply Apart.mk; decide)) only [go_sem, Nat.reduceAdd, Nat.reduceLT, Nat.reduceMul, Nat.reduceLeDiff, Int.reduceToNat, Int.reduceLT, Int.reduceLE, ha0, on_atB hl0, lt_add hl0, lt_at hl0, on_updB hl0, on_atU hl0, on_updU hl0, upd_same ha0]; rfl) rfl ?_
    obtain ⟨r3, eF3, hr⟩ := hr.bind
    refine p_call (out := ?o_eF3) (hp := ?p_eF3) (pend' := [2, 1, 0]) rfl (by simp (disch := (apply Apart.mk; decide)) only [go_sem, Nat.reduceAdd, Nat.reduceLT, Nat.reduceMul, Nat.reduceLeDiff, Int.reduceToNat, Int.reduceLT, Int.reduceLE, ha0, on_atB hl0, lt_add hl0, lt_at hl0, on_updB hl0, on_atU hl0, on_updU hl0, upd_same ha0, Option.getD_some]) rfl (by simp (disch := (apply Apart.mk; decide)) only [go_sem, Nat.reduceAdd, Nat.reduceLT, Nat.reduceMul, Nat.reduceLeDiff, Int.reduceToNat, Int.reduceLT, Int.reduceLE, ha0, on_atB hl0, lt_add hl0, lt_at hl0, on_updB hl0, on_atU hl0, on_updU hl0, upd_same ha0, Option.getD_some]; rfl) (by simp (disch := (apply Apart.mk; decide)) only [go_sem, Nat.reduceAdd, Nat.reduceLT, Nat.reduceMul, Nat.reduceLeDiff, Int.reduceToNat, Int.reduceLT, Int.reduceLE, ha0, on_atB hl0, lt_add hl0, lt_at hl0, on_updB hl0, on_atU hl0, on_updU hl0, upd_same ha0, Option.getD_some]; rfl) (by simp (disch := (apply Apart.mk; decide)) only [go_sem, Nat.reduceAdd, Nat.reduceLT, Nat.reduceMul, Nat.reduceLeDiff, Int.reduceToNat, Int.reduceLT, Int.reduceLE, ha0, on_atB hl0, lt_add hl0, lt_at hl0, on_updB hl0, on_atU hl0, on_updU hl0, upd_same ha0, Option.getD_some]; rfl) (by rfl) ?c_eF3 ?d_eF3 ?_
    case c_eF3 => (refine lex_reader_at_runs (Tlex_reader.mk units place whole fault) (l0) ?_ eF3; (simp (disch := (apply Apart.mk; decide)) only [go_sem, Nat.reduceAdd, Nat.reduceLT, Nat.reduceMul, Nat.reduceLeDiff, Int.reduceToNat, Int.reduceLT, Int.reduceLE, ha0, on_atB hl0, lt_add hl0, lt_at hl0, on_updB hl0, on_atU hl0, on_updU hl0, upd_same ha0]))
    case d_eF3 => rfl
    obtain ⟨nF4, nF5, nF6, nF7, hr⟩ := hr.cut
    refine p_run (l := [5, 6, 7]) (pend' := [7, 6, 5, 2, 1, 0]) (by simp (disch := (apply Apart.mk; decide)) only [go_sem, Nat.reduceAdd, Nat.reduceLT, Nat.reduceMul, Nat.reduceLeDiff, Int.reduceToNat, Int.reduceLT, Int.reduceLE, ha0, on_atB hl0, lt_add hl0, lt_at hl0, on_updB hl0, on_atU hl0, on_updU hl0, upd_same ha0, nF4, nF5, nF6, nF7]; rfl) rfl ?_
    refine p_op (pend' := []) rfl (by simp (disch := (apply Apart.mk; decide)) only [go_sem, Nat.reduceAdd, Nat.reduceLT, Nat.reduceMul, Nat.reduceLeDiff, Int.reduceToNat, Int.reduceLT, Int.reduceLE, ha0, on_atB hl0, lt_add hl0, lt_at hl0, on_updB hl0, on_atU hl0, on_updU hl0, upd_same ha0, nF4, nF5, nF6, nF7]) (by simp (disch := (apply Apart.mk; decide)) only [go_sem, Nat.reduceAdd, Nat.reduceLT, Nat.reduceMul, Nat.reduceLeDiff, Int.reduceToNat, Int.reduceLT, Int.reduceLE, ha0, on_atB hl0, lt_add hl0, lt_at hl0, on_updB hl0, on_atU hl0, on_updU hl0, upd_same ha0, nF4, nF5, nF6, nF7]; rfl) (by rfl) ?_
    refine p_end (by simp (disch := (apply Apart.mk; decide)) only [go_sem, Nat.reduceAdd, Nat.reduceLT, Nat.reduceMul, Nat.reduceLeDiff, Int.reduceToNat, Int.reduceLT, Int.reduceLE, ha0, on_atB hl0, lt_add hl0, lt_at hl0, on_updB hl0, on_atU hl0, on_updU hl0, upd_same ha0, nF4, nF5, nF6, nF7]) ?_
    refine w_n ?_
    refine w_seq ?_
    refine w_region rfl (by simp (disch := (apply Apart.mk; decide)) only [go_sem, Nat.reduceAdd, Nat.reduceLT, Nat.reduceMul, Nat.reduceLeDiff, Int.reduceToNat, Int.reduceLT, Int.reduceLE, ha0, on_atB hl0, lt_add hl0, lt_at hl0, on_updB hl0, on_atU hl0, on_updU hl0, upd_same ha0]; rfl) ?_
    refine w_n ?_
    refine w_ret ?_
    obtain rfl := hD _ hr
    exact (w_endRD (To.cut (os' := [some (.cells [.val (.int .i64 (TToken.mk Kind r1 (List.drop (Int.toNat r1) (List.take (Int.toNat r3) b)) []).Kind), .val (.int .i64 (TToken.mk Kind r1 (List.drop (Int.toNat r1) (List.take (Int.toNat r3) b)) []).At), .val (.str (bs (TToken.mk Kind r1 (List.drop (Int.toNat r1) (List.take (Int.toNat r3) b)) []).Text)), .val (.sl (List.map eRange (TToken.mk Kind r1 (List.drop (Int.toNat r1) (List.take (Int.toNat r3) b)) []).Set))])]) (sl := [(4, .cv (.val (.ptr (some (h.n + 0, 0)))))]) (h := (h.upd l0 (.cells [.val (.sl (List.map eUnit units)), .val (.int .i64 place), .val (.int .i64 whole), .val (.int .i64 fault)]))) (WF.upd hwf hl0 (by simp (disch := (apply Apart.mk; decide)) only [go_sem, Nat.reduceAdd, Nat.reduceLT, Nat.reduceMul, Nat.reduceLeDiff, Int.reduceToNat, Int.reduceLT, Int.reduceLE, ha0, on_atB hl0, lt_add hl0, lt_at hl0, on_updB hl0, on_atU hl0, on_updU hl0, upd_same ha0])) (Nat.le_refl _) (by first | rfl | (simp (disch := (apply Apart.mk; decide)) only [go_sem, Nat.reduceAdd, Nat.reduceLT, Nat.reduceMul, Nat.reduceLeDiff, Int.reduceToNat, Int.reduceLT, Int.reduceLE, ha0, on_atB hl0, lt_add hl0, lt_at hl0, on_updB hl0, on_atU hl0, on_updU hl0, upd_same ha0]; rfl)) (by simp (disch := (apply Apart.mk; decide)) only [go_sem, Nat.reduceAdd, Nat.reduceLT, Nat.reduceMul, Nat.reduceLeDiff, Int.reduceToNat, Int.reduceLT, Int.reduceLE, ha0, on_atB hl0, lt_add hl0, lt_at hl0, on_updB hl0, on_atU hl0, on_updU hl0, upd_same ha0])) (by simp (disch := (apply Apart.mk; decide)) only [go_sem, Nat.reduceAdd, Nat.reduceLT, Nat.reduceMul, Nat.reduceLeDiff, Int.reduceToNat, Int.reduceLT, Int.reduceLE, ha0, on_atB hl0, lt_add hl0, lt_at hl0, on_updB hl0, on_atU hl0, on_updU hl0, upd_same ha0, Try.results45, results_data CT_gives45, resCell, resVal.eq_2, loadOp_sv]) (Drops.on (h := (h.upd l0 (.cells [.val (.sl (List.map eUnit units)), .val (.int .i64 place), .val (.int .i64 whole), .val (.int .i64 fault)]))) (os := [some (.cells [.val (.int .i64 (TToken.mk Kind r1 (List.drop (Int.toNat r1) (List.take (Int.toNat r3) b)) []).Kind), .val (.int .i64 (TToken.mk Kind r1 (List.drop (Int.toNat r1) (List.take (Int.toNat r3) b)) []).At), .val (.str (bs (TToken.mk Kind r1 (List.drop (Int.toNat r1) (List.take (Int.toNat r3) b)) []).Text)), .val (.sl (List.map eRange (TToken.mk Kind r1 (List.drop (Int.toNat r1) (List.take (Int.toNat r3) b)) []).Set))])]) (os' := []) (WF.upd hwf hl0 (by simp (disch := (apply Apart.mk; decide)) only [go_sem, Nat.reduceAdd, Nat.reduceLT, Nat.reduceMul, Nat.reduceLeDiff, Int.reduceToNat, Int.reduceLT, Int.reduceLE, ha0, on_atB hl0, lt_add hl0, lt_at hl0, on_updB hl0, on_atU hl0, on_updU hl0, upd_same ha0])) (Nat.le_refl _) (by simp (disch := (apply Apart.mk; decide)) only [go_sem, Nat.reduceAdd, Nat.reduceLT, Nat.reduceMul, Nat.reduceLeDiff, Int.reduceToNat, Int.reduceLT, Int.reduceLE, ha0, on_atB hl0, lt_add hl0, lt_at hl0, on_updB hl0, on_atU hl0, on_updU hl0, upd_same ha0])) ⟨rfl, on_nil (h := (h.upd l0 (.cells [.val (.sl (List.map eUnit units)), .val (.int .i64 place), .val (.int .i64 whole), .val (.int .i64 fault)]))) (WF.upd hwf hl0 (by simp (disch := (apply Apart.mk; decide)) only [go_sem, Nat.reduceAdd, Nat.reduceLT, Nat.reduceMul, Nat.reduceLeDiff, Int.reduceToNat, Int.reduceLT, Int.reduceLE, ha0, on_atB hl0, lt_add hl0, lt_at hl0, on_updB hl0, on_atU hl0, on_updU hl0, upd_same ha0]))⟩)
  · refine w_block ?_
    refine w_seq ?_
    refine w_region rfl (by simp (disch := (apply Apart.mk; decide)) only [go_sem, Nat.reduceAdd, Nat.reduceLT, Nat.reduceMul, Nat.reduceLeDiff, Int.reduceToNat, Int.reduceLT, Int.reduceLE, ha0, on_atB hl0, lt_add hl0, lt_at hl0, on_updB hl0, on_atU hl0, on_updU hl0, upd_same ha0]; rfl) ?_
    refine w_n ?_
    refine w_condH (by simp (disch := (apply Apart.mk; decide)) only [go_sem, Nat.reduceAdd, Nat.reduceLT, Nat.reduceMul, Nat.reduceLeDiff, Int.reduceToNat, Int.reduceLT, Int.reduceLE, ha0, on_atB hl0, lt_add hl0, lt_at hl0, on_updB hl0, on_atU hl0, on_updU hl0, upd_same ha0]) hr (fun cF8 hr => ?_) (fun cF8 hr => ?_)
    · refine w_seq ?_
      refine A_ops ?_
      refine w_upto 1 rfl (by simp (disch := (apply Apart.mk; decide)) only [go_sem, Nat.reduceAdd, Nat.reduceLT, Nat.reduceMul, Nat.reduceLeDiff, Int.reduceToNat, Int.reduceLT, Int.reduceLE, ha0, on_atB hl0, lt_add hl0, lt_at hl0, on_updB hl0, on_atU hl0, on_updU hl0, upd_same ha0]; rfl) ?_
      obtain ⟨r4, eF9, hr⟩ := hr.bind
      refine w_call' (out := ?o_eF9) (hp := ?p_eF9) rfl (by simp (disch := (apply Apart.mk; decide)) only [go_sem, Nat.reduceAdd, Nat.reduceLT, Nat.reduceMul, Nat.reduceLeDiff, Int.reduceToNat, Int.reduceLT, Int.reduceLE, ha0, on_atB hl0, lt_add hl0, lt_at hl0, on_updB hl0, on_atU hl0, on_updU hl0, upd_same ha0, Option.getD_some]; rfl) (by simp (disch := (apply Apart.mk; decide)) only [go_sem, Nat.reduceAdd, Nat.reduceLT, Nat.reduceMul, Nat.reduceLeDiff, Int.reduceToNat, Int.reduceLT, Int.reduceLE, ha0, on_atB hl0, lt_add hl0, lt_at hl0, on_updB hl0, on_atU hl0, on_updU hl0, upd_same ha0, Option.getD_some]; rfl) (by simp (disch := (apply Apart.mk; decide)) only [go_sem, Nat.reduceAdd, Nat.reduceLT, Nat.reduceMul, Nat.reduceLeDiff, Int.reduceToNat, Int.reduceLT, Int.reduceLE, ha0, on_atB hl0, lt_add hl0, lt_at hl0, on_updB hl0, on_atU hl0, on_updU hl0, upd_same ha0, Option.getD_some]; rfl) ?c_eF9 ?d_eF9 ?_
      case c_eF9 => (refine lex_reader_set_runs r2.2 (l0) ?_ eF9; (simp (disch := (apply Apart.mk; decide)) only [go_sem, Nat.reduceAdd, Nat.reduceLT, Nat.reduceMul, Nat.reduceLeDiff, Int.reduceToNat, Int.reduceLT, Int.reduceLE, ha0, on_atB hl0, lt_add hl0, lt_at hl0, on_updB hl0, on_atU hl0, on_updU hl0, upd_same ha0]))
      case d_eF9 => rfl
      refine w_ops_end (by simp (disch := (apply Apart.mk; decide)) only [go_sem, Nat.reduceAdd, Nat.reduceLT, Nat.reduceMul, Nat.reduceLeDiff, Int.reduceToNat, Int.reduceLT, Int.reduceLE, ha0, on_atB hl0, lt_add hl0, lt_at hl0, on_updB hl0, on_atU hl0, on_updU hl0, upd_same ha0]; rfl) ?_
      refine w_n ?_
      refine w_seq ?_
      refine w_region rfl (by simp (disch := (apply Apart.mk; decide)) only [go_sem, Nat.reduceAdd, Nat.reduceLT, Nat.reduceMul, Nat.reduceLeDiff, Int.reduceToNat, Int.reduceLT, Int.reduceLE, ha0, on_atB hl0, lt_add hl0, lt_at hl0, on_updB hl0, on_atU hl0, on_updU hl0, upd_same ha0, cF8]; rfl) ?_
      refine w_n ?_
      refine w_ret ?_
      obtain rfl := hD _ hr
      exact (w_br (w_tr (w_tr (w_endRD (To.cut (os' := [some (.cells [.val (.int .i64 (TToken.mk (3 : Int) r1 ([] : Str) r4.1).Kind), .val (.int .i64 (TToken.mk (3 : Int) r1 ([] : Str) r4.1).At), .val (.str (bs (TToken.mk (3 : Int) r1 ([] : Str) r4.1).Text)), .val (.sl (List.map eRange (TToken.mk (3 : Int) r1 ([] : Str) r4.1).Set))])]) (sl := [(4, .cv (.val (.ptr (some (h.n + 0, 0)))))]) (h := (h.upd l0 (.cells [.val (.sl (List.map eUnit r4.2.units)), .val (.int .i64 r4.2.place), .val (.int .i64 r4.2.whole), .val (.int .i64 r4.2.fault)]))) (WF.upd hwf hl0 (by simp (disch := (apply Apart.mk; decide)) only [go_sem, Nat.reduceAdd, Nat.reduceLT, Nat.reduceMul, Nat.reduceLeDiff, Int.reduceToNat, Int.reduceLT, Int.reduceLE, ha0, on_atB hl0, lt_add hl0, lt_at hl0, on_updB hl0, on_atU hl0, on_updU hl0, upd_same ha0])) (Nat.le_refl _) (by first | rfl | (simp (disch := (apply Apart.mk; decide)) only [go_sem, Nat.reduceAdd, Nat.reduceLT, Nat.reduceMul, Nat.reduceLeDiff, Int.reduceToNat, Int.reduceLT, Int.reduceLE, ha0, on_atB hl0, lt_add hl0, lt_at hl0, on_updB hl0, on_atU hl0, on_updU hl0, upd_same ha0, cF8]; rfl)) (by simp (disch := (apply Apart.mk; decide)) only [go_sem, Nat.reduceAdd, Nat.reduceLT, Nat.reduceMul, Nat.reduceLeDiff, Int.reduceToNat, Int.reduceLT, Int.reduceLE, ha0, on_atB hl0, lt_add hl0, lt_at hl0, on_updB hl0, on_atU hl0, on_updU hl0, upd_same ha0, cF8])) (by simp (disch := (apply Apart.mk; decide)) only [go_sem, Nat.reduceAdd, Nat.reduceLT, Nat.reduceMul, Nat.reduceLeDiff, Int.reduceToNat, Int.reduceLT, Int.reduceLE, ha0, on_atB hl0, lt_add hl0, lt_at hl0, on_updB hl0, on_atU hl0, on_updU hl0, upd_same ha0, Try.results45, results_data CT_gives45, resCell, resVal.eq_2, loadOp_sv, cF8]) (Drops.on (h := (h.upd l0 (.cells [.val (.sl (List.map eUnit r4.2.units)), .val (.int .i64 r4.2.place), .val (.int .i64 r4.2.whole), .val (.int .i64 r4.2.fault)]))) (os := [some (.cells [.val (.int .i64 (TToken.mk (3 : Int) r1 ([] : Str) r4.1).Kind), .val (.int .i64 (TToken.mk (3 : Int) r1 ([] : Str) r4.1).At), .val (.str (bs (TToken.mk (3 : Int) r1 ([] : Str) r4.1).Text)), .val (.sl (List.map eRange (TToken.mk (3 : Int) r1 ([] : Str) r4.1).Set))])]) (os' := []) (WF.upd hwf hl0 (by simp (disch := (apply Apart.mk; decide)) only [go_sem, Nat.reduceAdd, Nat.reduceLT, Nat.reduceMul, Nat.reduceLeDiff, Int.reduceToNat, Int.reduceLT, Int.reduceLE, ha0, on_atB hl0, lt_add hl0, lt_at hl0, on_updB hl0, on_atU hl0, on_updU hl0, upd_same ha0])) (Nat.le_refl _) (by simp (disch := (apply Apart.mk; decide)) only [go_sem, Nat.reduceAdd, Nat.reduceLT, Nat.reduceMul, Nat.reduceLeDiff, Int.reduceToNat, Int.reduceLT, Int.reduceLE, ha0, on_atB hl0, lt_add hl0, lt_at hl0, on_updB hl0, on_atU hl0, on_updU hl0, upd_same ha0, cF8])) ⟨rfl, on_nil (h := (h.upd l0 (.cells [.val (.sl (List.map eUnit r4.2.units)), .val (.int .i64 r4.2.place), .val (.int .i64 r4.2.whole), .val (.int .i64 r4.2.fault)]))) (WF.upd hwf hl0 (by simp (disch := (apply Apart.mk; decide)) only [go_sem, Nat.reduceAdd, Nat.reduceLT, Nat.reduceMul, Nat.reduceLeDiff, Int.reduceToNat, Int.reduceLT, Int.reduceLE, ha0, on_atB hl0, lt_add hl0, lt_at hl0, on_updB hl0, on_atU hl0, on_updU hl0, upd_same ha0]))⟩))))
    · refine w_seq ?_
      refine A_ops ?_
      refine w_upto 1 rfl (by simp (disch := (apply Apart.mk; decide)) only [go_sem, Nat.reduceAdd, Nat.reduceLT, Nat.reduceMul, Nat.reduceLeDiff, Int.reduceToNat, Int.reduceLT, Int.reduceLE, ha0, on_atB hl0, lt_add hl0, lt_at hl0, on_updB hl0, on_atU hl0, on_updU hl0, upd_same ha0]; rfl) ?_
      obtain ⟨r5, eF10, hr⟩ := hr.bind
      refine w_call' (out := ?o_eF10) (hp := ?p_eF10) rfl (by simp (disch := (apply Apart.mk; decide)) only [go_sem, Nat.reduceAdd, Nat.reduceLT, Nat.reduceMul, Nat.reduceLeDiff, Int.reduceToNat, Int.reduceLT, Int.reduceLE, ha0, on_atB hl0, lt_add hl0, lt_at hl0, on_updB hl0, on_atU hl0, on_updU hl0, upd_same ha0, Option.getD_some]; rfl) (by simp (disch := (apply Apart.mk; decide)) only [go_sem, Nat.reduceAdd, Nat.reduceLT, Nat.reduceMul, Nat.reduceLeDiff, Int.reduceToNat, Int.reduceLT, Int.reduceLE, ha0, on_atB hl0, lt_add hl0, lt_at hl0, on_updB hl0, on_atU hl0, on_updU hl0, upd_same ha0, Option.getD_some]; rfl) (by simp (disch := (apply Apart.mk; decide)) only [go_sem, Nat.reduceAdd, Nat.reduceLT, Nat.reduceMul, Nat.reduceLeDiff, Int.reduceToNat, Int.reduceLT, Int.reduceLE, ha0, on_atB hl0, lt_add hl0, lt_at hl0, on_updB hl0, on_atU hl0, on_updU hl0, upd_same ha0, Option.getD_some]; rfl) ?c_eF10 ?d_eF10 ?_
      case c_eF10 => exact lex_lower_runs r2.1 eF10
      case d_eF10 => rfl
      refine w_ops_end (by simp (disch := (apply Apart.mk; decide)) only [go_sem, Nat.reduceAdd, Nat.reduceLT, Nat.reduceMul, Nat.reduceLeDiff, Int.reduceToNat, Int.reduceLT, Int.reduceLE, ha0, on_atB hl0, lt_add hl0, lt_at hl0, on_updB hl0, on_atU hl0, on_updU hl0, upd_same ha0]; rfl) ?_
      refine w_n ?_
      refine w_condH (by simp (disch := (apply Apart.mk; decide)) only [go_sem, Nat.reduceAdd, Nat.reduceLT, Nat.reduceMul, Nat.reduceLeDiff, Int.reduceToNat, Int.reduceLT, Int.reduceLE, ha0, on_atB hl0, lt_add hl0, lt_at hl0, on_updB hl0, on_atU hl0, on_updU hl0, upd_same ha0, cF8]) hr (fun cF11 hr => ?_) (fun cF11 hr => ?_)
      · refine w_seq ?_
        refine w_region rfl (by simp (disch := (apply Apart.mk; decide)) only [go_sem, Nat.reduceAdd, Nat.reduceLT, Nat.reduceMul, Nat.reduceLeDiff, Int.reduceToNat, Int.reduceLT, Int.reduceLE, ha0, on_atB hl0, lt_add hl0, lt_at hl0, on_updB hl0, on_atU hl0, on_updU hl0, upd_same ha0, cF8, cF11]; rfl) ?_
        refine w_n ?_
        refine A_ops ?_
        refine w_upto 1 rfl (by simp (disch := (apply Apart.mk; decide)) only [go_sem, Nat.reduceAdd, Nat.reduceLT, Nat.reduceMul, Nat.reduceLeDiff, Int.reduceToNat, Int.reduceLT, Int.reduceLE, ha0, on_atB hl0, lt_add hl0, lt_at hl0, on_updB hl0, on_atU hl0, on_updU hl0, upd_same ha0]; rfl) ?_
        obtain ⟨r6, eF12, hr⟩ := hr.bind
        refine w_call' (out := ?o_eF12) (hp := ?p_eF12) rfl (by simp (disch := (apply Apart.mk; decide)) only [go_sem, Nat.reduceAdd, Nat.reduceLT, Nat.reduceMul, Nat.reduceLeDiff, Int.reduceToNat, Int.reduceLT, Int.reduceLE, ha0, on_atB hl0, lt_add hl0, lt_at hl0, on_updB hl0, on_atU hl0, on_updU hl0, upd_same ha0, Option.getD_some]; rfl) (by simp (disch := (apply Apart.mk; decide)) only [go_sem, Nat.reduceAdd, Nat.reduceLT, Nat.reduceMul, Nat.reduceLeDiff, Int.reduceToNat, Int.reduceLT, Int.reduceLE, ha0, on_atB hl0, lt_add hl0, lt_at hl0, on_updB hl0, on_atU hl0, on_updU hl0, upd_same ha0, Option.getD_some]; rfl) (by simp (disch := (apply Apart.mk; decide)) only [go_sem, Nat.reduceAdd, Nat.reduceLT, Nat.reduceMul, Nat.reduceLeDiff, Int.reduceToNat, Int.reduceLT, Int.reduceLE, ha0, on_atB hl0, lt_add hl0, lt_at hl0, on_updB hl0, on_atU hl0, on_updU hl0, upd_same ha0, Option.getD_some]; rfl) ?c_eF12 ?d_eF12 ?_
        case c_eF12 => (refine lex_reader_skip_runs r2.2 (lex_goes) (l0) _ _ ?_ ?_ ?_ eF12; (exact (fun os x0 r e => lex_goes_runs x0 e)); (exact (fun i => by simp [CT])); (simp (disch := (apply Apart.mk; decide)) only [go_sem, Nat.reduceAdd, Nat.reduceLT, Nat.reduceMul, Nat.reduceLeDiff, Int.reduceToNat, Int.reduceLT, Int.reduceLE, ha0, on_atB hl0, lt_add hl0, lt_at hl0, on_updB hl0, on_atU hl0, on_updU hl0, upd_same ha0]))
        case d_eF12 => rfl
        refine w_ops_nil ?_
        exact (w_bn (w_k ⟨((1 : Int), r6.units, r6.place, r6.whole, r6.fault), hr, (To.cut (h := (h.upd l0 (.cells [.val (.sl (List.map eUnit r6.units)), .val (.int .i64 r6.place), .val (.int .i64 r6.whole), .val (.int .i64 r6.fault)]))) (WF.upd hwf hl0 (by simp (disch := (apply Apart.mk; decide)) only [go_sem, Nat.reduceAdd, Nat.reduceLT, Nat.reduceMul, Nat.reduceLeDiff, Int.reduceToNat, Int.reduceLT, Int.reduceLE, ha0, on_atB hl0, lt_add hl0, lt_at hl0, on_updB hl0, on_atU hl0, on_updU hl0, upd_same ha0])) (Nat.le_refl _) (by first | rfl | (simp (disch := (apply Apart.mk; decide)) only [go_sem, Nat.reduceAdd, Nat.reduceLT, Nat.reduceMul, Nat.reduceLeDiff, Int.reduceToNat, Int.reduceLT, Int.reduceLE, ha0, on_atB hl0, lt_add hl0, lt_at hl0, on_updB hl0, on_atU hl0, on_updU hl0, upd_same ha0, cF8, cF11]; rfl)) (by simp (disch := (apply Apart.mk; decide)) only [go_sem, Nat.reduceAdd, Nat.reduceLT, Nat.reduceMul, Nat.reduceLeDiff, Int.reduceToNat, Int.reduceLT, Int.reduceLE, ha0, on_atB hl0, lt_add hl0, lt_at hl0, on_updB hl0, on_atU hl0, on_updU hl0, upd_same ha0, cF8, cF11]))⟩))
      · refine w_region rfl (by simp (disch := (apply Apart.mk; decide)) only [go_sem, Nat.reduceAdd, Nat.reduceLT, Nat.reduceMul, Nat.reduceLeDiff, Int.reduceToNat, Int.reduceLT, Int.reduceLE, ha0, on_atB hl0, lt_add hl0, lt_at hl0, on_updB hl0, on_atU hl0, on_updU hl0, upd_same ha0, cF8, cF11]; rfl) ?_
        exact (w_bn (w_k ⟨((2 : Int), r2.2.units, r2.2.place, r2.2.whole, r2.2.fault), hr, (To.cut (h := (h.upd l0 (.cells [.val (.sl (List.map eUnit r2.2.units)), .val (.int .i64 r2.2.place), .val (.int .i64 r2.2.whole), .val (.int .i64 r2.2.fault)]))) (WF.upd hwf hl0 (by simp (disch := (apply Apart.mk; decide)) only [go_sem, Nat.reduceAdd, Nat.reduceLT, Nat.reduceMul, Nat.reduceLeDiff, Int.reduceToNat, Int.reduceLT, Int.reduceLE, ha0, on_atB hl0, lt_add hl0, lt_at hl0, on_updB hl0, on_atU hl0, on_updU hl0, upd_same ha0])) (Nat.le_refl _) (by first | rfl | (simp (disch := (apply Apart.mk; decide)) only [go_sem, Nat.reduceAdd, Nat.reduceLT, Nat.reduceMul, Nat.reduceLeDiff, Int.reduceToNat, Int.reduceLT, Int.reduceLE, ha0, on_atB hl0, lt_add hl0, lt_at hl0, on_updB hl0, on_atU hl0, on_updU hl0, upd_same ha0, cF8, cF11]; rfl)) (by simp (disch := (apply Apart.mk; decide)) only [go_sem, Nat.reduceAdd, Nat.reduceLT, Nat.reduceMul, Nat.reduceLeDiff, Int.reduceToNat, Int.reduceLT, Int.reduceLE, ha0, on_atB hl0, lt_add hl0, lt_at hl0, on_updB hl0, on_atU hl0, on_updU hl0, upd_same ha0, cF8, cF11]))⟩))
end Go.Val

/- part IW15 -/
/- scansion/lex.Tokens runs as it is read off. -/
namespace Go.Val
set_option linter.unusedVariables false
set_option linter.unusedSimpArgs false
set_option maxRecDepth 20000
open Go.Proofs
theorem lex_Tokens_runs (b : List UInt8) {h : Heap} {a : (List TToken × Int × Int)} (e : lex_Tokens b = some a) :
    Runs CT 15 [.cv (.val (.sl (List.map eU b)))] h fun o h' => o = [.cv (.val (.sl (List.map eToken a.1))), .cv (.val (.int .i64 a.2.1)), .cv (.val (.int .i64 a.2.2))] ∧ h' = h := by
  refine Runs.start Try.f15 _ Try.func15 rfl (by rw [Try.ntmps15]; simp) (by rfl) (by rfl) (fun hwf hu => ?_)
  obtain ⟨D, hD, hr⟩ : ∃ D : (List TToken × Int × Int) → Prop, (∀ z, D z → z = a) ∧ Holds (lex_Tokens b) D := ⟨fun z => z = a, fun _ h => h, Holds.intro e rfl⟩
  dsimp only [lex_Tokens] at hr
  change wpCode _ _ _ _ _ ⟨[(0, .cv (.val (.sl (List.map eU b))))], h.on []⟩
  refine w_seq ?_
  refine A_region ?_
  refine w_n ?_
  refine w_seq ?_
  refine w_seq ?_
  refine A_region ?_
  refine w_n ?_
  refine A_condH hr (fun cF1 hr => ?_) (fun cF1 hr => ?_)
  · refine w_seq ?_
    refine A_region ?_
    refine w_n ?_
    refine w_ret ?_
    obtain rfl := hD _ hr
    exact (w_tr (A_endR (A_cut (os' := []) (sl := [(2, .cv (.val (.sl (List.map eToken ([] : List TToken))))), (3, .cv (.val (.int .i64 (0 : Int)))), (4, .cv (.val (.int .i64 (3 : Int))))]) hwf) ⟨rfl, on_nil hwf⟩))
  · refine w_skip ?_
    refine w_n ?_
    refine w_seq ?_
    refine A_ops ?_
    refine A_upto 1 ?_
    obtain ⟨r, eF2, hr⟩ := hr.bind
    refine A_call (out := ?o_eF2) (hp := ?p_eF2) ?c_eF2 ?d_eF2 ?_
    case c_eF2 => exact utf_Decode_runs b eF2
    case d_eF2 => rfl
    refine A_ops_end ?_
    refine w_n ?_
    refine w_seq ?_
    refine A_region ?_
    refine w_n ?_
    refine w_seq ?_
    refine w_seq ?_
    refine A_ops ?_
    refine A_upto 1 ?_
    obtain ⟨r1, eF3, hr⟩ := hr.bind
    refine A_call (out := ?o_eF3) (hp := ?p_eF3) ?c_eF3 ?d_eF3 ?_
    case c_eF3 => (refine lex_reader_blank_runs (Tlex_reader.mk r (0 : Int) (b.length : Int) (0 : Int)) (h.n + 0) ?_ eF3; (simp (disch := (apply Apart.mk; decide)) only [go_sem, Nat.reduceAdd, Nat.reduceLT, Nat.reduceMul, Nat.reduceLeDiff, Int.reduceToNat, Int.reduceLT, Int.reduceLE]))
    case d_eF3 => rfl
    refine w_ops_nil ?_
    refine w_n ?_
    refine w_K (D := D) (fun xX : List TToken => ⟨[(0, .cv (.val (.sl (List.map eU b)))), (6, .cv (.row 33 (List.map eToken xX)))], h.on []⟩) (fun xX : List TToken => lex_Tokens.k1 b xX) (fun xX s' hr ht => ?_) ?_
    · obtain ⟨out, rfl⟩ : ∃ z, z = xX := ⟨xX, rfl⟩
      dsimp only [lex_Tokens.k1] at hr ht
      refine (w_nT ht ?_)
      refine w_seq ?_
      obtain ⟨nF4, hr⟩ := hr.room
      refine A_region ?_
      refine w_n ?_
      refine w_ret ?_
      obtain rfl := hD _ hr
      exact (A_endR (.fix _ _ (.slot 2) 33 _ (by simp (disch := (apply Apart.mk; decide)) only [go_sem, Nat.reduceAdd, Nat.reduceLT, Nat.reduceMul, Nat.reduceLeDiff, Int.reduceToNat, Int.reduceLT, Int.reduceLE, cF1]; rfl) (A_cut (os' := []) (sl := [(2, .cv (.val (.sl (List.map eToken (out ++ ([(TToken.mk (4 : Int) (b.length : Int) ([] : Str) [])])))))), (3, .cv (.val (.int .i64 (0 : Int)))), (4, .cv (.val (.int .i64 (0 : Int))))]) hwf)) ⟨rfl, on_nil hwf⟩)
    · refine w_block ?_
      refine w_Loop (fun xX : (List TToken × List TUnit × Int × Int × Int) => ⟨[(0, .cv (.val (.sl (List.map eU b)))), (5, .cv (.val (.ptr (some (h.n + 0, 0))))), (6, .cv (.row 33 (List.map eToken xX.1)))], h.on [some (.cells [.val (.sl (List.map eUnit xX.2.1)), .val (.int .i64 xX.2.2.1), .val (.int .i64 xX.2.2.2.1), .val (.int .i64 xX.2.2.2.2)])]⟩) hr (A_cut hwf) (fun W1 xX hr => ?_)
      obtain ⟨out1, units, place, whole, fault⟩ := xX
      dsimp only [lex_Tokens.b1] at hr
      refine w_seq ?_
      refine w_seq ?_
      refine A_ops ?_
      refine A_upto 1 ?_
      obtain ⟨r2, eF5, hr⟩ := hr.bind
      refine A_call (out := ?o_eF5) (hp := ?p_eF5) ?c_eF5 ?d_eF5 ?_
      case c_eF5 => (refine lex_reader_now_runs (Tlex_reader.mk units place whole fault) (h.n + 0) ?_ eF5; (simp (disch := (apply Apart.mk; decide)) only [go_sem, Nat.reduceAdd, Nat.reduceLT, Nat.reduceMul, Nat.reduceLeDiff, Int.reduceToNat, Int.reduceLT, Int.reduceLE]))
      case d_eF5 => rfl
      refine A_ops_end ?_
      refine w_n ?_
      refine A_condH hr (fun cF6 hr => ?_) (fun cF6 hr => ?_)
      · refine w_skip ?_
        refine w_n ?_
        refine w_seq ?_
        refine w_block ?_
        refine w_seq ?_
        refine A_ops ?_
        refine A_upto 3 ?_
        obtain ⟨r3, eF7, hr⟩ := hr.bind
        refine A_call (out := ?o_eF7) (hp := ?p_eF7) ?c_eF7 ?d_eF7 ?_
        case c_eF7 => (refine lex_reader_token_runs (Tlex_reader.mk units place whole fault) b (h.n + 0) ?_ eF7; (simp (disch := (apply Apart.mk; decide)) only [go_sem, Nat.reduceAdd, Nat.reduceLT, Nat.reduceMul, Nat.reduceLeDiff, Int.reduceToNat, Int.reduceLT, Int.reduceLE]))
        case d_eF7 => rfl
        obtain ⟨nF8, hr⟩ := hr.room
        refine A_ops_end ?_
        refine w_n ?_
        refine w_seq ?_
        refine A_region ?_
        refine w_n ?_
        refine A_condH hr (fun cF9 hr => ?_) (fun cF9 hr => ?_)
        · refine w_seq ?_
          refine w_drawn [0, 2, 3, 4, 5, 1, 6, 7, 8] (by rfl) ?_
          refine p_run (l := [0, 2, 3, 4, 5]) (pend' := [5, 4, 3, 2, 0]) (by simp (disch := (apply Apart.mk; decide)) only [go_sem, Nat.reduceAdd, Nat.reduceLT, Nat.reduceMul, Nat.reduceLeDiff, Int.reduceToNat, Int.reduceLT, Int.reduceLE]; rfl) rfl ?_
          obtain ⟨r4, eF10, hr⟩ := hr.bind
          refine p_call (out := ?o_eF10) (hp := ?p_eF10) (pend' := [5, 4, 3, 2]) rfl (by simp (disch := (apply Apart.mk; decide)) only [go_sem, Nat.reduceAdd, Nat.reduceLT, Nat.reduceMul, Nat.reduceLeDiff, Int.reduceToNat, Int.reduceLT, Int.reduceLE, Option.getD_some]) rfl (by simp (disch := (apply Apart.mk; decide)) only [go_sem, Nat.reduceAdd, Nat.reduceLT, Nat.reduceMul, Nat.reduceLeDiff, Int.reduceToNat, Int.reduceLT, Int.reduceLE, Option.getD_some]; rfl) (by simp (disch := (apply Apart.mk; decide)) only [go_sem, Nat.reduceAdd, Nat.reduceLT, Nat.reduceMul, Nat.reduceLeDiff, Int.reduceToNat, Int.reduceLT, Int.reduceLE, Option.getD_some]; rfl) (by simp (disch := (apply Apart.mk; decide)) only [go_sem, Nat.reduceAdd, Nat.reduceLT, Nat.reduceMul, Nat.reduceLeDiff, Int.reduceToNat, Int.reduceLT, Int.reduceLE, Option.getD_some]; rfl) (by rfl) ?c_eF10 ?d_eF10 ?_
          case c_eF10 => (refine lex_reader_at_runs r3.2 (h.n + 0) ?_ eF10; (simp (disch := (apply Apart.mk; decide)) only [go_sem, Nat.reduceAdd, Nat.reduceLT, Nat.reduceMul, Nat.reduceLeDiff, Int.reduceToNat, Int.reduceLT, Int.reduceLE]))
          case d_eF10 => rfl
          refine p_op (pend' := [5, 4, 3, 2]) rfl (by simp (disch := (apply Apart.mk; decide)) only [go_sem, Nat.reduceAdd, Nat.reduceLT, Nat.reduceMul, Nat.reduceLeDiff, Int.reduceToNat, Int.reduceLT, Int.reduceLE]) (by simp (disch := (apply Apart.mk; decide)) only [go_sem, Nat.reduceAdd, Nat.reduceLT, Nat.reduceMul, Nat.reduceLeDiff, Int.reduceToNat, Int.reduceLT, Int.reduceLE]; rfl) (by rfl) ?_
          refine p_op (pend' := [5, 4, 3, 2]) rfl (by simp (disch := (apply Apart.mk; decide)) only [go_sem, Nat.reduceAdd, Nat.reduceLT, Nat.reduceMul, Nat.reduceLeDiff, Int.reduceToNat, Int.reduceLT, Int.reduceLE]) (by simp (disch := (apply Apart.mk; decide)) only [go_sem, Nat.reduceAdd, Nat.reduceLT, Nat.reduceMul, Nat.reduceLeDiff, Int.reduceToNat, Int.reduceLT, Int.reduceLE]; rfl) (by rfl) ?_
          refine p_op (pend' := []) rfl (by simp (disch := (apply Apart.mk; decide)) only [go_sem, Nat.reduceAdd, Nat.reduceLT, Nat.reduceMul, Nat.reduceLeDiff, Int.reduceToNat, Int.reduceLT, Int.reduceLE]) (by simp (disch := (apply Apart.mk; decide)) only [go_sem, Nat.reduceAdd, Nat.reduceLT, Nat.reduceMul, Nat.reduceLeDiff, Int.reduceToNat, Int.reduceLT, Int.reduceLE]; rfl) (by rfl) ?_
          refine p_end (by simp (disch := (apply Apart.mk; decide)) only [go_sem, Nat.reduceAdd, Nat.reduceLT, Nat.reduceMul, Nat.reduceLeDiff, Int.reduceToNat, Int.reduceLT, Int.reduceLE]) ?_
          refine w_n ?_
          refine w_ret ?_
          obtain rfl := hD _ hr
          exact (w_br (w_tr (w_tr (w_br (w_tr (w_tr (A_endR (A_cut (os' := []) (sl := [(2, .cv (.val (.sl (List.map eToken ([] : List TToken))))), (3, .cv (.val (.int .i64 r4))), (4, .cv (.val (.int .i64 r3.2.fault)))]) hwf) ⟨rfl, on_nil hwf⟩)))))))
        · refine w_skip ?_
          refine (w_bn (w_n ?_))
          refine A_ops ?_
          refine A_upto 1 ?_
          obtain ⟨r5, eF11, hr⟩ := hr.bind
          refine A_call (out := ?o_eF11) (hp := ?p_eF11) ?c_eF11 ?d_eF11 ?_
          case c_eF11 => (refine lex_reader_blank_runs r3.2 (h.n + 0) ?_ eF11; (simp (disch := (apply Apart.mk; decide)) only [go_sem, Nat.reduceAdd, Nat.reduceLT, Nat.reduceMul, Nat.reduceLeDiff, Int.reduceToNat, Int.reduceLT, Int.reduceLE]))
          case d_eF11 => rfl
          refine w_ops_nil ?_
          exact (w_k ⟨((out1 ++ ([r3.1])), r5.units, r5.place, r5.whole, r5.fault), hr, (A_cut hwf)⟩)
      · refine w_exit ?_
        exact (w_te (w_te (w_bx (w_k ⟨out1, (hr).map, (A_cut hwf)⟩))))
end Go.Val

/- part IW14 -/
/- scansion/scansionlaw07.awake runs as it is read off. -/
namespace Go.Val
set_option linter.unusedVariables false
set_option linter.unusedSimpArgs false
set_option maxRecDepth 20000
open Go.Proofs
theorem scansionlaw07_awake_runs {h : Heap} {a : Bool} (e : scansionlaw07_awake = some a) :
    Runs CT 14 [] h fun o h' => o = [.cv (.val (.bool a))] ∧ h' = h := by
  refine Runs.start Try.f14 _ Try.func14 rfl (by rw [Try.ntmps14]; simp) (by rfl) (by rfl) (fun hwf hu => ?_)
  obtain ⟨D, hD, hr⟩ : ∃ D : Bool → Prop, (∀ z, D z → z = a) ∧ Holds (scansionlaw07_awake) D := ⟨fun z => z = a, fun _ h => h, Holds.intro e rfl⟩
  dsimp only [scansionlaw07_awake] at hr
  change wpCode _ _ _ _ _ ⟨[], h.on []⟩
  refine w_seq ?_
  refine A_region ?_
  refine w_n ?_
  refine w_seq ?_
  refine A_ops ?_
  refine A_upto 2 ?_
  obtain ⟨r, eF1, hr⟩ := hr.bind
  refine A_call (out := ?o_eF1) (hp := ?p_eF1) ?c_eF1 ?d_eF1 ?_
  case c_eF1 => exact lex_Tokens_runs ([(u8 (115 : Int)), (u8 (101 : Int)), (u8 (116 : Int)), (u8 (32 : Int)), (u8 (97 : Int)), (u8 (32 : Int)), (u8 (61 : Int)), (u8 (32 : Int)), (u8 (91 : Int)), (u8 (97 : Int)), (u8 (45 : Int)), (u8 (99 : Int)), (u8 (93 : Int)), (u8 (59 : Int))]) eF1
  case d_eF1 => rfl
  refine A_ops_end ?_
  refine w_n ?_
  obtain ⟨v, vF10, hr⟩ := hr.bind
  refine w_joinR (sj := ⟨[(0, .cv (.val (.bool v)))], h.on []⟩) (A_ops ?_) ?_
  · have hr := Holds.intro (D := fun z => z = v) vF10 rfl
    refine A_upto 3 ?_
    rcases hr.ite with ⟨cF2, hr⟩ | ⟨cF2, hr⟩
    · refine A_upto 5 ?_
      rcases hr.ite with ⟨cF3, hr⟩ | ⟨cF3, hr⟩
      · obtain ⟨x, eF4, gF5, hr⟩ := hr.idxK
        refine A_upto 7 ?_
        rcases hr.ite with ⟨cF6, hr⟩ | ⟨cF6, hr⟩
        · refine A_upto 8 ?_
          rcases hr.ite with ⟨cF7, hr⟩ | ⟨cF7, hr⟩
          · obtain ⟨x1, eF8, gF9, hr⟩ := hr.idxK
            refine A_ops_end ?_
            obtain rfl : _ = v := hr
            exact w_k (A_cut hwf)
          · refine A_ops_end ?_
            obtain rfl : _ = v := hr
            exact w_k (A_cut hwf)
        · refine A_ops_end ?_
          obtain rfl : _ = v := hr
          exact w_k (A_cut hwf)
      · refine A_ops_end ?_
        obtain rfl : _ = v := hr
        exact w_k (A_cut hwf)
    · refine A_ops_end ?_
      obtain rfl : _ = v := hr
      exact w_k (A_cut hwf)
  refine w_ret ?_
  obtain rfl := hD _ hr
  exact (A_endR (A_cut (os' := []) (sl := [(0, .cv (.val (.bool v)))]) hwf) ⟨rfl, on_nil hwf⟩)
end Go.Val

/- part IW18 -/
/- scansion/scansionref02.Same runs as it is read off. -/
namespace Go.Val
set_option linter.unusedVariables false
set_option linter.unusedSimpArgs false
set_option maxRecDepth 20000
open Go.Proofs
theorem scansionref02_Same_runs (a_ : List TRange) (b : List TRange) {h : Heap} {a : Bool} (e : scansionref02_Same a_ b = some a) :
    Runs CT 18 [.cv (.val (.sl (List.map eRange a_))), .cv (.val (.sl (List.map eRange b)))] h fun o h' => o = [.cv (.val (.bool a))] ∧ h' = h := by
  refine Runs.start Try.f18 _ Try.func18 rfl (by rw [Try.ntmps18]; simp) (by rfl) (by rfl) (fun hwf hu => ?_)
  obtain ⟨D, hD, hr⟩ : ∃ D : Bool → Prop, (∀ z, D z → z = a) ∧ Holds (scansionref02_Same a_ b) D := ⟨fun z => z = a, fun _ h => h, Holds.intro e rfl⟩
  dsimp only [scansionref02_Same] at hr
  change wpCode _ _ _ _ _ ⟨[(0, .cv (.val (.sl (List.map eRange a_)))), (1, .cv (.val (.sl (List.map eRange b))))], h.on []⟩
  refine w_seq ?_
  refine A_region ?_
  refine w_n ?_
  refine w_seq ?_
  refine w_seq ?_
  refine A_region ?_
  refine w_n ?_
  refine A_condH hr (fun cF1 hr => ?_) (fun cF1 hr => ?_)
  · refine w_seq ?_
    refine A_region ?_
    refine w_n ?_
    refine w_ret ?_
    obtain rfl := hD _ hr
    exact (w_tr (A_endR (A_cut (os' := []) (sl := [(4, .cv (.val (.bool false)))]) hwf) ⟨rfl, on_nil hwf⟩))
  · refine w_skip ?_
    refine w_n ?_
    refine w_seq ?_
    refine w_seq ?_
    refine A_region ?_
    refine w_n ?_
    refine w_K (D := D) (fun xX : Unit => ⟨[], h.on []⟩) (fun xX : Unit => scansionref02_Same.k1) (fun xX s' hr ht => ?_) ?_
    · dsimp only [scansionref02_Same.k1] at hr ht
      refine (w_nT ht ?_)
      refine w_seq ?_
      refine A_region ?_
      refine w_n ?_
      refine w_ret ?_
      obtain rfl := hD _ hr
      exact (A_endR (A_cut (os' := []) (sl := [(4, .cv (.val (.bool true)))]) hwf) ⟨rfl, on_nil hwf⟩)
    · refine w_block ?_
      refine w_Loop (fun xX : Int => ⟨[(0, .cv (.val (.sl (List.map eRange a_)))), (1, .cv (.val (.sl (List.map eRange b)))), (5, .cv (.val (.int .i64 xX)))], h.on []⟩) hr (A_cut hwf) (fun W1 xX hr => ?_)
      obtain ⟨i, rfl⟩ : ∃ z, z = xX := ⟨xX, rfl⟩
      dsimp only [scansionref02_Same.b1] at hr
      refine w_seq ?_
      refine w_seq ?_
      refine A_region ?_
      refine w_n ?_
      refine A_condH hr (fun cF2 hr => ?_) (fun cF2 hr => ?_)
      · refine w_skip ?_
        refine w_n ?_
        refine w_seq ?_
        refine w_block ?_
        refine w_seq ?_
        refine w_drawn [0, 1, 2, 3, 4, 5, 6, 7, 8] (by rfl) ?_
        obtain ⟨x, nF3, eF4, gF5, hr⟩ := hr.idx
        obtain ⟨x1, nF6, eF7, gF8, hr⟩ := hr.idx
        refine p_run (l := [0, 1, 2, 3, 4, 5, 6, 7, 8]) (pend' := [8, 7, 6, 5, 4, 3, 2, 1, 0]) (by simp (disch := (apply Apart.mk; decide)) only [go_sem, Nat.reduceAdd, Nat.reduceLT, Nat.reduceMul, Nat.reduceLeDiff, Int.reduceToNat, Int.reduceLT, Int.reduceLE, nF3, eF4, gF5, nF6, eF7, gF8]; rfl) rfl ?_
        refine p_end (by simp (disch := (apply Apart.mk; decide)) only [go_sem, Nat.reduceAdd, Nat.reduceLT, Nat.reduceMul, Nat.reduceLeDiff, Int.reduceToNat, Int.reduceLT, Int.reduceLE, nF3, eF4, gF5, nF6, eF7, gF8]) ?_
        refine w_n ?_
        refine A_condH hr (fun cF9 hr => ?_) (fun cF9 hr => ?_)
        · refine w_seq ?_
          refine A_region ?_
          refine w_n ?_
          refine w_ret ?_
          obtain rfl := hD _ hr
          exact (w_br (w_tr (w_tr (w_br (w_tr (w_tr (A_endR (A_cut (os' := []) (sl := [(4, .cv (.val (.bool false)))]) hwf) ⟨rfl, on_nil hwf⟩)))))))
        · refine w_skip ?_
          refine (w_bn (w_n ?_))
          refine A_region ?_
          exact (w_k ⟨(IntKind.i64.wrap (i + (1 : Int))), hr, (A_cut hwf)⟩)
      · refine w_exit ?_
        exact (w_te (w_te (w_bx (w_k ⟨(), (hr).map, (A_cut hwf)⟩))))
end Go.Val

/- part IW4 -/
/- scansion/scansionlaw07.LexBlanks runs as it is read off. -/
namespace Go.Val
set_option linter.unusedVariables false
set_option linter.unusedSimpArgs false
set_option maxRecDepth 20000
set_option maxHeartbeats 2000000
open Go.Proofs
theorem scansionlaw07_LexBlanks_runs (t : List UInt8) (o : List (List UInt8)) {h : Heap} {a : Bool} (e : scansionlaw07_LexBlanks t o = some a) :
    Runs CT 4 [.cv (.val (.sl (List.map eU t))), .cv (.val (.sl (List.map (eL eU) o)))] h fun o h' => o = [.cv (.val (.bool a))] ∧ h' = h := by
  refine Runs.start Try.f4 _ Try.func4 rfl (by rw [Try.ntmps4]; simp) (by rfl) (by rfl) (fun hwf hu => ?_)
  obtain ⟨D, hD, hr⟩ : ∃ D : Bool → Prop, (∀ z, D z → z = a) ∧ Holds (scansionlaw07_LexBlanks t o) D := ⟨fun z => z = a, fun _ h => h, Holds.intro e rfl⟩
  dsimp only [scansionlaw07_LexBlanks] at hr
  change wpCode _ _ _ _ _ ⟨[(0, .cv (.val (.sl (List.map eU t)))), (1, .cv (.val (.sl (List.map (eL eU) o))))], h.on []⟩
  refine w_seq ?_
  refine A_region ?_
  refine w_n ?_
  refine w_seq ?_
  refine A_ops ?_
  obtain ⟨r, eF1, hr⟩ := hr.bind
  refine A_call (out := ?o_eF1) (hp := ?p_eF1) ?c_eF1 ?d_eF1 ?_
  case c_eF1 => exact scansionlaw07_awake_runs  eF1
  case d_eF1 => rfl
  refine A_ops_end ?_
  refine w_n ?_
  refine w_seq ?_
  refine w_joinR (sj := ⟨[(0, .cv (.val (.sl (List.map eU t)))), (1, .cv (.val (.sl (List.map (eL eU) o)))), (5, .cv (.val (.bool r))), (29, .cv (.val (.bool ((!r) || ((decide ((t.length : Int) > (500 : Int))) || (decide ((o.length : Int) > (100 : Int))))))))], h.on []⟩) (A_ops ?_) ?_
  · refine A_upto 3 ?_
    rcases Bool.eq_false_or_eq_true (!r) with cF2 | cF2
    · refine A_ops_end ?_
      exact w_k (A_cut hwf)
    · refine A_upto 5 ?_
      rcases Bool.eq_false_or_eq_true (decide ((t.length : Int) > (500 : Int))) with cF3 | cF3
      · refine A_ops_end ?_
        exact w_k (A_cut hwf)
      · refine A_ops_end ?_
        exact w_k (A_cut hwf)
  refine A_condH hr (fun cF4 hr => ?_) (fun cF4 hr => ?_)
  · refine w_seq ?_
    refine A_region ?_
    refine w_n ?_
    refine w_ret ?_
    obtain rfl := hD _ hr
    exact (w_tr (A_endR (A_cut (os' := []) (sl := [(4, .cv (.val (.bool r)))]) hwf) ⟨rfl, on_nil hwf⟩))
  · refine w_skip ?_
    refine w_n ?_
    refine w_seq ?_
    refine A_ops ?_
    refine A_upto 1 ?_
    obtain ⟨r1, eF5, hr⟩ := hr.bind
    refine A_call (out := ?o_eF5) (hp := ?p_eF5) ?c_eF5 ?d_eF5 ?_
    case c_eF5 => exact lex_Tokens_runs t eF5
    case d_eF5 => rfl
    refine A_ops_end ?_
    refine w_n ?_
    refine w_seq ?_
    refine w_seq ?_
    refine A_region ?_
    refine w_n ?_
    refine A_condH hr (fun cF6 hr => ?_) (fun cF6 hr => ?_)
    · refine w_seq ?_
      refine A_region ?_
      refine w_n ?_
      refine w_ret ?_
      obtain rfl := hD _ hr
      exact (w_tr (A_endR (A_cut (os' := []) (sl := [(4, .cv (.val (.bool true)))]) hwf) ⟨rfl, on_nil hwf⟩))
    · refine w_skip ?_
      refine w_n ?_
      refine w_seq ?_
      refine A_region ?_
      refine w_n ?_
      refine w_seq ?_
      refine w_seq ?_
      refine A_region ?_
      refine w_n ?_
      refine w_K (D := D) (fun xX : List UInt8 => ⟨[(6, .cv (.val (.sl (List.map eToken r1.1)))), (9, .cv (.row 5 (List.map eU xX)))], h.on []⟩) (fun xX : List UInt8 => scansionlaw07_LexBlanks.k1 r1 xX) (fun xX s' hr ht => ?_) ?_
      · obtain ⟨v1, rfl⟩ : ∃ z, z = xX := ⟨xX, rfl⟩
        dsimp only [scansionlaw07_LexBlanks.k1] at hr ht
        refine (w_nT ht ?_)
        refine w_seq ?_
        refine A_ops ?_
        refine A_upto 1 ?_
        obtain ⟨r2, eF7, hr⟩ := hr.bind
        refine A_call (out := ?o_eF7) (hp := ?p_eF7) ?c_eF7 ?d_eF7 ?_
        case c_eF7 => exact lex_Tokens_runs v1 eF7
        case d_eF7 => rfl
        refine A_ops_end ?_
        refine w_n ?_
        refine w_seq ?_
        refine w_joinR (sj := ⟨[(6, .cv (.val (.sl (List.map eToken r1.1)))), (12, .cv (.val (.sl (List.map eToken r2.1)))), (118, .cv (.val (.bool ((r2.2.2 != (0 : Int)) || ((r2.1.length : Int) != (r1.1.length : Int))))))], h.on []⟩) (A_ops ?_) ?_
        · refine A_upto 3 ?_
          rcases Bool.eq_false_or_eq_true (r2.2.2 != (0 : Int)) with cF8 | cF8
          · refine A_ops_end ?_
            exact w_k (A_cut hwf)
          · refine A_ops_end ?_
            exact w_k (A_cut hwf)
        refine A_condH hr (fun cF9 hr => ?_) (fun cF9 hr => ?_)
        · refine w_seq ?_
          refine A_region ?_
          refine w_n ?_
          refine w_ret ?_
          obtain rfl := hD _ hr
          exact (w_tr (A_endR (A_cut (os' := []) (sl := [(4, .cv (.val (.bool false)))]) hwf) ⟨rfl, on_nil hwf⟩))
        · refine w_skip ?_
          refine w_n ?_
          refine w_seq ?_
          refine w_seq ?_
          refine A_region ?_
          refine w_n ?_
          refine w_K (D := D) (fun xX : Unit => ⟨[], h.on []⟩) (fun xX : Unit => scansionlaw07_LexBlanks.k2) (fun xX s' hr ht => ?_) ?_
          · dsimp only [scansionlaw07_LexBlanks.k2] at hr ht
            refine (w_nT ht ?_)
            refine w_seq ?_
            refine A_region ?_
            refine w_n ?_
            refine w_ret ?_
            obtain rfl := hD _ hr
            exact (A_endR (A_cut (os' := []) (sl := [(4, .cv (.val (.bool true)))]) hwf) ⟨rfl, on_nil hwf⟩)
          · refine w_block ?_
            refine w_Loop (fun xX : Int => ⟨[(6, .cv (.val (.sl (List.map eToken r1.1)))), (12, .cv (.val (.sl (List.map eToken r2.1)))), (15, .cv (.val (.int .i64 xX)))], h.on []⟩) hr (A_cut hwf) (fun W1 xX hr => ?_)
            obtain ⟨v3, rfl⟩ : ∃ z, z = xX := ⟨xX, rfl⟩
            dsimp only [scansionlaw07_LexBlanks.b1] at hr
            refine w_seq ?_
            refine w_seq ?_
            refine A_region ?_
            refine w_n ?_
            refine A_condH hr (fun cF10 hr => ?_) (fun cF10 hr => ?_)
            · refine w_skip ?_
              refine w_n ?_
              refine w_seq ?_
              refine w_block ?_
              refine w_seq ?_
              refine w_drawn [0, 1, 2, 3, 4, 5, 6, 7, 8, 9, 10, 11] (by rfl) ?_
              obtain ⟨x, nF11, eF12, gF13, hr⟩ := hr.idx
              obtain ⟨x1, nF14, eF15, gF16, hr⟩ := hr.idx
              refine p_run (l := [0, 1, 2, 3, 4, 5, 6, 7, 8, 9]) (pend' := [9, 8, 7, 6, 5, 4, 3, 2, 1, 0]) (by simp (disch := (apply Apart.mk; decide)) only [go_sem, Nat.reduceAdd, Nat.reduceLT, Nat.reduceMul, Nat.reduceLeDiff, Int.reduceToNat, Int.reduceLT, Int.reduceLE, nF11, eF12, gF13, nF14, eF15, gF16]; rfl) rfl ?_
              obtain ⟨r3, eF17, hr⟩ := hr.bind
              refine p_call (out := ?o_eF17) (hp := ?p_eF17) (pend' := []) rfl (by simp (disch := (apply Apart.mk; decide)) only [go_sem, Nat.reduceAdd, Nat.reduceLT, Nat.reduceMul, Nat.reduceLeDiff, Int.reduceToNat, Int.reduceLT, Int.reduceLE, Option.getD_some, nF11, eF12, gF13, nF14, eF15, gF16]) rfl (by simp (disch := (apply Apart.mk; decide)) only [go_sem, Nat.reduceAdd, Nat.reduceLT, Nat.reduceMul, Nat.reduceLeDiff, Int.reduceToNat, Int.reduceLT, Int.reduceLE, Option.getD_some, nF11, eF12, gF13, nF14, eF15, gF16]; rfl) (by simp (disch := (apply Apart.mk; decide)) only [go_sem, Nat.reduceAdd, Nat.reduceLT, Nat.reduceMul, Nat.reduceLeDiff, Int.reduceToNat, Int.reduceLT, Int.reduceLE, Option.getD_some, nF11, eF12, gF13, nF14, eF15, gF16]; rfl) (by simp (disch := (apply Apart.mk; decide)) only [go_sem, Nat.reduceAdd, Nat.reduceLT, Nat.reduceMul, Nat.reduceLeDiff, Int.reduceToNat, Int.reduceLT, Int.reduceLE, Option.getD_some, nF11, eF12, gF13, nF14, eF15, gF16]; rfl) (by rfl) ?c_eF17 ?d_eF17 ?_
              case c_eF17 => exact scansionref02_Same_runs x.Set x1.Set eF17
              case d_eF17 => rfl
              refine p_op (pend' := []) rfl (by simp (disch := (apply Apart.mk; decide)) only [go_sem, Nat.reduceAdd, Nat.reduceLT, Nat.reduceMul, Nat.reduceLeDiff, Int.reduceToNat, Int.reduceLT, Int.reduceLE, nF11, eF12, gF13, nF14, eF15, gF16]) (by simp (disch := (apply Apart.mk; decide)) only [go_sem, Nat.reduceAdd, Nat.reduceLT, Nat.reduceMul, Nat.reduceLeDiff, Int.reduceToNat, Int.reduceLT, Int.reduceLE, nF11, eF12, gF13, nF14, eF15, gF16]; rfl) (by rfl) ?_
              refine p_end (by simp (disch := (apply Apart.mk; decide)) only [go_sem, Nat.reduceAdd, Nat.reduceLT, Nat.reduceMul, Nat.reduceLeDiff, Int.reduceToNat, Int.reduceLT, Int.reduceLE, nF11, eF12, gF13, nF14, eF15, gF16]) ?_
              refine w_n ?_
              obtain ⟨v4, vF25, hr⟩ := hr.bind
              refine w_joinR (sj := ⟨[(6, .cv (.val (.sl (List.map eToken r1.1)))), (12, .cv (.val (.sl (List.map eToken r2.1)))), (15, .cv (.val (.int .i64 v3))), (181, .cv (.val (.bool v4)))], h.on []⟩) (w_drawn [0, 1, 2, 3, 4, 5, 6, 7, 8, 9, 10, 11, 12, 13, 14, 15, 16, 17, 18, 19, 20, 21, 22, 23, 24, 25, 26, 27, 28, 29, 30, 31, 32, 33, 34, 35, 36, 37, 38, 39, 40, 41, 42, 43, 44, 45] (by rfl) ?_) ?_
              · have hr := Holds.intro (D := fun z => z = v4) vF25 rfl
                refine p_run (l := [0, 1, 2, 3, 4, 5, 6, 7, 8, 9, 10, 11]) (pend' := [11, 10, 9, 8, 7, 6, 5, 4, 3, 2, 1, 0]) (by simp (disch := (apply Apart.mk; decide)) only [go_sem, Nat.reduceAdd, Nat.reduceLT, Nat.reduceMul, Nat.reduceLeDiff, Int.reduceToNat, Int.reduceLT, Int.reduceLE, nF11, eF12, gF13, nF14, eF15, gF16]; rfl) rfl ?_
                rcases hr.ite with ⟨cF18, hr⟩ | ⟨cF18, hr⟩
                · refine p_run (l := [12, 13, 14, 15, 16, 17, 18, 19, 20, 21, 22, 23, 24, 25, 26, 27, 28, 29, 30, 31, 32, 33, 34, 35, 36, 37, 38, 39, 40, 41, 42, 43, 44, 45]) (pend' := [45, 44, 43, 42, 41, 40, 39, 38, 37, 36, 35, 34, 33, 32, 31, 30, 29, 28, 27, 26, 25, 24, 23, 22, 21, 20, 19, 18, 17, 16, 15, 14, 13, 12, 11, 10, 9, 8, 7, 6, 5, 4, 3, 2, 1, 0]) (by simp (disch := (apply Apart.mk; decide)) only [go_sem, Nat.reduceAdd, Nat.reduceLT, Nat.reduceMul, Nat.reduceLeDiff, Int.reduceToNat, Int.reduceLT, Int.reduceLE, nF11, eF12, gF13, nF14, eF15, gF16, cF18]; rfl) rfl ?_
                  refine p_end (by simp (disch := (apply Apart.mk; decide)) only [go_sem, Nat.reduceAdd, Nat.reduceLT, Nat.reduceMul, Nat.reduceLeDiff, Int.reduceToNat, Int.reduceLT, Int.reduceLE, nF11, eF12, gF13, nF14, eF15, gF16, cF18]) ?_
                  obtain rfl : _ = v4 := hr
                  exact w_k (A_cut hwf)
                · refine p_run (l := [12, 13, 14, 15, 16, 17, 18, 19, 20, 21, 22, 23, 24]) (pend' := [24, 23, 22, 21, 20, 19, 18, 17, 16, 15, 14, 13, 12, 11, 10, 9, 8, 7, 6, 5, 4, 3, 2, 1, 0]) (by simp (disch := (apply Apart.mk; decide)) only [go_sem, Nat.reduceAdd, Nat.reduceLT, Nat.reduceMul, Nat.reduceLeDiff, Int.reduceToNat, Int.reduceLT, Int.reduceLE, nF11, eF12, gF13, nF14, eF15, gF16, cF18]; rfl) rfl ?_
                  rcases hr.ite with ⟨cF19, hr⟩ | ⟨cF19, hr⟩
                  · refine p_run (l := [25, 26, 27, 28, 29, 30, 31, 32, 33, 34, 35, 36, 37, 38, 39, 40, 41, 42, 43, 44, 45]) (pend' := [45, 44, 43, 42, 41, 40, 39, 38, 37, 36, 35, 34, 33, 32, 31, 30, 29, 28, 27, 26, 25, 24, 23, 22, 21, 20, 19, 18, 17, 16, 15, 14, 13, 12, 11, 10, 9, 8, 7, 6, 5, 4, 3, 2, 1, 0]) (by simp (disch := (apply Apart.mk; decide)) only [go_sem, Nat.reduceAdd, Nat.reduceLT, Nat.reduceMul, Nat.reduceLeDiff, Int.reduceToNat, Int.reduceLT, Int.reduceLE, nF11, eF12, gF13, nF14, eF15, gF16, cF18, cF19]; rfl) rfl ?_
                    refine p_end (by simp (disch := (apply Apart.mk; decide)) only [go_sem, Nat.reduceAdd, Nat.reduceLT, Nat.reduceMul, Nat.reduceLeDiff, Int.reduceToNat, Int.reduceLT, Int.reduceLE, nF11, eF12, gF13, nF14, eF15, gF16, cF18, nF11, eF12, gF13, nF14, eF15, gF16, cF19]) ?_
                    obtain rfl : _ = v4 := hr
                    exact w_k (A_cut hwf)
                  · refine p_run (l := [25, 26, 27, 28]) (pend' := [28, 27, 26, 25, 24, 23, 22, 21, 20, 19, 18, 17, 16, 15, 14, 13, 12, 11, 10, 9, 8, 7, 6, 5, 4, 3, 2, 1, 0]) (by simp (disch := (apply Apart.mk; decide)) only [go_sem, Nat.reduceAdd, Nat.reduceLT, Nat.reduceMul, Nat.reduceLeDiff, Int.reduceToNat, Int.reduceLT, Int.reduceLE, nF11, eF12, gF13, nF14, eF15, gF16, cF18, cF19]; rfl) rfl ?_
                    rcases hr.ite with ⟨cF20, hr⟩ | ⟨cF20, hr⟩
                    · refine p_run (l := [29, 30, 31, 32, 33, 34, 35, 36, 37, 38, 39, 40, 41, 42, 43, 44, 45]) (pend' := [45, 44, 43, 42, 41, 40, 39, 38, 37, 36, 35, 34, 33, 32, 31, 30, 29, 28, 27, 26, 25, 24, 23, 22, 21, 20, 19, 18, 17, 16, 15, 14, 13, 12, 11, 10, 9, 8, 7, 6, 5, 4, 3, 2, 1, 0]) (by simp (disch := (apply Apart.mk; decide)) only [go_sem, Nat.reduceAdd, Nat.reduceLT, Nat.reduceMul, Nat.reduceLeDiff, Int.reduceToNat, Int.reduceLT, Int.reduceLE, nF11, eF12, gF13, nF14, eF15, gF16, cF18, cF19, cF20]; rfl) rfl ?_
                      refine p_end (by simp (disch := (apply Apart.mk; decide)) only [go_sem, Nat.reduceAdd, Nat.reduceLT, Nat.reduceMul, Nat.reduceLeDiff, Int.reduceToNat, Int.reduceLT, Int.reduceLE, nF11, eF12, gF13, nF14, eF15, gF16, cF18, nF11, eF12, gF13, nF14, eF15, gF16, cF19, cF20]) ?_
                      obtain rfl : _ = v4 := hr
                      exact w_k (A_cut hwf)
                    · refine p_run (l := [29, 30, 31]) (pend' := [31, 30, 29, 28, 27, 26, 25, 24, 23, 22, 21, 20, 19, 18, 17, 16, 15, 14, 13, 12, 11, 10, 9, 8, 7, 6, 5, 4, 3, 2, 1, 0]) (by simp (disch := (apply Apart.mk; decide)) only [go_sem, Nat.reduceAdd, Nat.reduceLT, Nat.reduceMul, Nat.reduceLeDiff, Int.reduceToNat, Int.reduceLT, Int.reduceLE, nF11, eF12, gF13, nF14, eF15, gF16, cF18, cF19, cF20]; rfl) rfl ?_
                      rcases hr.ite with ⟨cF21, hr⟩ | ⟨cF21, hr⟩
                      · obtain ⟨x2, nF22, eF23, gF24, hr⟩ := hr.idx
                        refine p_run (l := [32, 33, 34, 35, 36, 37, 38, 39, 40, 41, 42, 43, 44, 45]) (pend' := [45, 44, 43, 42, 41, 40, 39, 38, 37, 36, 35, 34, 33, 32, 31, 30, 29, 28, 27, 26, 25, 24, 23, 22, 21, 20, 19, 18, 17, 16, 15, 14, 13, 12, 11, 10, 9, 8, 7, 6, 5, 4, 3, 2, 1, 0]) (by simp (disch := (apply Apart.mk; decide)) only [go_sem, Nat.reduceAdd, Nat.reduceLT, Nat.reduceMul, Nat.reduceLeDiff, Int.reduceToNat, Int.reduceLT, Int.reduceLE, nF11, eF12, gF13, nF14, eF15, gF16, cF18, cF19, cF20, cF21, nF22, eF23, gF24]; rfl) rfl ?_
                        refine p_end (by simp (disch := (apply Apart.mk; decide)) only [go_sem, Nat.reduceAdd, Nat.reduceLT, Nat.reduceMul, Nat.reduceLeDiff, Int.reduceToNat, Int.reduceLT, Int.reduceLE, nF11, eF12, gF13, nF14, eF15, gF16, cF18, nF11, eF12, gF13, nF14, eF15, gF16, cF19, cF20, cF21, nF11, eF12, gF13, nF22, eF23, gF24]) ?_
                        obtain rfl : _ = v4 := hr
                        exact w_k (A_cut hwf)
                      · refine p_run (l := [32, 33, 34, 35, 36, 37, 38, 39, 40, 41, 42, 43, 44, 45]) (pend' := [45, 44, 43, 42, 41, 40, 39, 38, 37, 36, 35, 34, 33, 32, 31, 30, 29, 28, 27, 26, 25, 24, 23, 22, 21, 20, 19, 18, 17, 16, 15, 14, 13, 12, 11, 10, 9, 8, 7, 6, 5, 4, 3, 2, 1, 0]) (by simp (disch := (apply Apart.mk; decide)) only [go_sem, Nat.reduceAdd, Nat.reduceLT, Nat.reduceMul, Nat.reduceLeDiff, Int.reduceToNat, Int.reduceLT, Int.reduceLE, nF11, eF12, gF13, nF14, eF15, gF16, cF18, cF19, cF20, cF21]; rfl) rfl ?_
                        refine p_end (by simp (disch := (apply Apart.mk; decide)) only [go_sem, Nat.reduceAdd, Nat.reduceLT, Nat.reduceMul, Nat.reduceLeDiff, Int.reduceToNat, Int.reduceLT, Int.reduceLE, nF11, eF12, gF13, nF14, eF15, gF16, cF18, nF11, eF12, gF13, nF14, eF15, gF16, cF19, cF20, cF21]) ?_
                        obtain rfl : _ = v4 := hr
                        exact w_k (A_cut hwf)
              refine A_condH hr (fun cF26 hr => ?_) (fun cF26 hr => ?_)
              · refine w_seq ?_
                refine A_region ?_
                refine w_n ?_
                refine w_ret ?_
                obtain rfl := hD _ hr
                exact (w_br (w_tr (w_tr (w_br (w_tr (w_tr (A_endR (A_cut (os' := []) (sl := [(4, .cv (.val (.bool false)))]) hwf) ⟨rfl, on_nil hwf⟩)))))))
              · refine w_skip ?_
                refine (w_bn (w_n ?_))
                refine A_region ?_
                exact (w_k ⟨(IntKind.i64.wrap (v3 + (1 : Int))), hr, (A_cut hwf)⟩)
            · refine w_exit ?_
              exact (w_te (w_te (w_bx (w_k ⟨(), (hr).map, (A_cut hwf)⟩))))
      · refine w_block ?_
        refine w_Loop (fun xX : (List UInt8 × Int) => ⟨[(0, .cv (.val (.sl (List.map eU t)))), (1, .cv (.val (.sl (List.map (eL eU) o)))), (6, .cv (.val (.sl (List.map eToken r1.1)))), (9, .cv (.row 5 (List.map eU xX.1))), (10, .cv (.val (.int .i64 xX.2)))], h.on []⟩) hr (A_cut hwf) (fun W2 xX hr => ?_)
        obtain ⟨v5, v6⟩ := xX
        dsimp only [scansionlaw07_LexBlanks.b2] at hr
        refine w_seq ?_
        refine w_seq ?_
        refine A_region ?_
        refine w_n ?_
        refine A_condH hr (fun cF27 hr => ?_) (fun cF27 hr => ?_)
        · refine w_skip ?_
          refine w_n ?_
          refine w_seq ?_
          refine w_K (D := (Aft W2 D)) (fun xX : List UInt8 => ⟨[(0, .cv (.val (.sl (List.map eU t)))), (1, .cv (.val (.sl (List.map (eL eU) o)))), (6, .cv (.val (.sl (List.map eToken r1.1)))), (9, .cv (.row 5 (List.map eU xX))), (10, .cv (.val (.int .i64 v6)))], h.on []⟩) (fun xX : List UInt8 => scansionlaw07_LexBlanks.k3 v6 xX) (fun xX s' hr ht => ?_) ?_
          · obtain ⟨v7, rfl⟩ : ∃ z, z = xX := ⟨xX, rfl⟩
            dsimp only [scansionlaw07_LexBlanks.k3] at hr ht
            refine (w_nT ht ?_)
            refine A_region ?_
            exact (w_k ⟨(v7, (IntKind.i64.wrap (v6 + (1 : Int)))), hr, (A_cut hwf)⟩)
          · refine w_block ?_
            refine w_seq ?_
            refine w_seq ?_
            refine A_region ?_
            refine w_n ?_
            refine w_K (D := (Aft W2 D)) (fun xX : List UInt8 => ⟨[(0, .cv (.val (.sl (List.map eU t)))), (1, .cv (.val (.sl (List.map (eL eU) o)))), (6, .cv (.val (.sl (List.map eToken r1.1)))), (9, .cv (.row 5 (List.map eU xX))), (10, .cv (.val (.int .i64 v6)))], h.on []⟩) (fun xX : List UInt8 => scansionlaw07_LexBlanks.k4 t r1 v6 xX) (fun xX s' hr ht => ?_) ?_
            · obtain ⟨v8, rfl⟩ : ∃ z, z = xX := ⟨xX, rfl⟩
              dsimp only [scansionlaw07_LexBlanks.k4] at hr ht
              refine (w_nT ht ?_)
              refine w_seq ?_
              obtain ⟨nF28, hr⟩ := hr.room
              refine A_region ?_
              refine w_n ?_
              refine w_seq ?_
              refine A_region ?_
              refine w_n ?_
              refine A_condH hr (fun cF29 hr => ?_) (fun cF29 hr => ?_)
              · refine w_seq ?_
                refine w_drawn [0, 1, 2, 3, 4, 5, 6, 7, 8, 9, 10, 11, 12, 13, 14, 15] (by rfl) ?_
                obtain ⟨x3, nF30, eF31, gF32, hr⟩ := hr.idx
                obtain ⟨x4, nF33, eF34, gF35, hr⟩ := hr.idx
                obtain ⟨nF36, nF37, nF38, nF39, hr⟩ := hr.cut
                obtain ⟨nF40, hr⟩ := hr.room
                refine p_run (l := [0, 1, 2, 3, 4, 5, 6, 7, 8, 9, 10, 11, 12, 13]) (pend' := [13, 12, 11, 10, 9, 8, 7, 6, 5, 4, 3, 2, 1, 0]) (by simp (disch := (apply Apart.mk; decide)) only [go_sem, Nat.reduceAdd, Nat.reduceLT, Nat.reduceMul, Nat.reduceLeDiff, Int.reduceToNat, Int.reduceLT, Int.reduceLE, nF30, eF31, gF32, nF33, eF34, gF35, nF36, nF37, nF38, nF39, nF40]; rfl) rfl ?_
                refine p_op (pend' := []) rfl (by simp (disch := (apply Apart.mk; decide)) only [go_sem, Nat.reduceAdd, Nat.reduceLT, Nat.reduceMul, Nat.reduceLeDiff, Int.reduceToNat, Int.reduceLT, Int.reduceLE, nF30, eF31, gF32, nF33, eF34, gF35, nF36, nF37, nF38, nF39, nF40]) (by simp (disch := (apply Apart.mk; decide)) only [go_sem, Nat.reduceAdd, Nat.reduceLT, Nat.reduceMul, Nat.reduceLeDiff, Int.reduceToNat, Int.reduceLT, Int.reduceLE, nF30, eF31, gF32, nF33, eF34, gF35, nF36, nF37, nF38, nF39, nF40]; rfl) (by rfl) ?_
                refine p_op (pend' := []) rfl (by simp (disch := (apply Apart.mk; decide)) only [go_sem, Nat.reduceAdd, Nat.reduceLT, Nat.reduceMul, Nat.reduceLeDiff, Int.reduceToNat, Int.reduceLT, Int.reduceLE, nF30, eF31, gF32, nF33, eF34, gF35, nF36, nF37, nF38, nF39, nF40]) (by simp (disch := (apply Apart.mk; decide)) only [go_sem, Nat.reduceAdd, Nat.reduceLT, Nat.reduceMul, Nat.reduceLeDiff, Int.reduceToNat, Int.reduceLT, Int.reduceLE, nF30, eF31, gF32, nF33, eF34, gF35, nF36, nF37, nF38, nF39, nF40]; rfl) (by rfl) ?_
                refine p_end (by simp (disch := (apply Apart.mk; decide)) only [go_sem, Nat.reduceAdd, Nat.reduceLT, Nat.reduceMul, Nat.reduceLeDiff, Int.reduceToNat, Int.reduceLT, Int.reduceLE, nF30, eF31, gF32, nF33, eF34, gF35, nF36, nF37, nF38, nF39, nF40]) ?_
                refine w_n ?_
                obtain ⟨nF41, hr⟩ := hr.room
                refine A_region ?_
                exact (w_bn (w_k ⟨(((v8 ++ ([(u8 (32 : Int))])) ++ (List.drop (Int.toNat x3.At) (List.take (Int.toNat x4.At) t))) ++ ([(u8 (10 : Int))])), hr, (A_cut hwf)⟩))
              · refine w_skip ?_
                exact (w_bn (w_k ⟨(v8 ++ ([(u8 (32 : Int))])), hr, (A_cut hwf)⟩))
            · refine A_condH hr (fun cF42 hr => ?_) (fun cF42 hr => ?_)
              · refine w_seq ?_
                refine w_seq ?_
                obtain ⟨xs, nF43, eF44, gF45, hr⟩ := hr.idx
                refine A_region ?_
                refine w_n ?_
                refine A_condH hr (fun cF46 hr => ?_) (fun cF46 hr => ?_)
                · refine w_seq ?_
                  refine A_region ?_
                  refine w_n ?_
                  refine w_ret ?_
                  obtain rfl := hD _ hr
                  exact (w_tr (w_tr (w_tr (w_br (w_tr (w_tr (w_tr (w_br (w_tr (w_tr (A_endR (A_cut (os' := []) (sl := [(4, .cv (.val (.bool true)))]) hwf) ⟨rfl, on_nil hwf⟩)))))))))))
                · refine w_skip ?_
                  refine w_n ?_
                  refine w_seq ?_
                  refine w_seq ?_
                  refine A_region ?_
                  refine w_n ?_
                  refine w_K (D := (Aft W2 D)) (fun xX : List UInt8 => ⟨[(0, .cv (.val (.sl (List.map eU t)))), (1, .cv (.val (.sl (List.map (eL eU) o)))), (6, .cv (.val (.sl (List.map eToken r1.1)))), (9, .cv (.row 5 (List.map eU xX))), (10, .cv (.val (.int .i64 v6)))], h.on []⟩) (fun xX : List UInt8 => scansionlaw07_LexBlanks.k5 t r1 v6 xX) (fun xX s' hr ht => ?_) ?_
                  · obtain ⟨v9, rfl⟩ : ∃ z, z = xX := ⟨xX, rfl⟩
                    dsimp only [scansionlaw07_LexBlanks.k5] at hr ht
                    refine (w_nT ht ?_)
                    obtain ⟨nF47, hr⟩ := hr.room
                    refine A_region ?_
                    exact (w_k ⟨(v9 ++ ([35, 91, 32, 97, 10] : Str)), hr, (A_cut hwf)⟩)
                  · refine w_block ?_
                    refine w_Loop (fun xX : (List UInt8 × Int) => ⟨[(0, .cv (.val (.sl (List.map eU t)))), (1, .cv (.val (.sl (List.map (eL eU) o)))), (6, .cv (.val (.sl (List.map eToken r1.1)))), (9, .cv (.row 5 (List.map eU xX.1))), (10, .cv (.val (.int .i64 v6))), (11, .cv (.val (.int .i64 xX.2)))], h.on []⟩) hr (A_cut hwf) (fun W3 xX hr => ?_)
                    obtain ⟨v10, v11⟩ := xX
                    dsimp only [scansionlaw07_LexBlanks.b3] at hr
                    refine w_seq ?_
                    refine w_seq ?_
                    refine A_region ?_
                    refine w_n ?_
                    refine A_condH hr (fun cF48 hr => ?_) (fun cF48 hr => ?_)
                    · refine w_skip ?_
                      refine w_n ?_
                      refine w_seq ?_
                      refine w_block ?_
                      obtain ⟨n, nF49, eF50, gF51, hr⟩ := hr.idx
                      (obtain ⟨z, eF52, hr⟩ := hr.bind; replace eF52 := Option.some.inj eF52; simp only [shL, shR, bAnd, bOr, bXor, bNot, IntKind.bits, Int.reduceToNat] at eF52)
                      (obtain ⟨c, nF53, eF54, gF55, hr⟩ := hr.idx; try simp (disch := (apply Apart.mk; decide)) only [go_sem, List.length_cons, List.length_nil, Nat.reduceAdd] at nF53 gF55)
                      obtain ⟨nF56, hr⟩ := hr.room
                      refine A_region ?_
                      refine (w_bn (w_n ?_))
                      refine A_region ?_
                      exact (w_k ⟨((v10 ++ ([c])), (IntKind.i64.wrap (v11 + (1 : Int)))), hr, (A_cut hwf)⟩)
                    · refine w_exit ?_
                      exact (w_te (w_te (w_bx (w_k ⟨v10, (hr).map, (A_cut hwf)⟩))))
              · refine w_skip ?_
                exact (w_k ⟨v5, hr, (A_cut hwf)⟩)
        · refine w_exit ?_
          exact (w_te (w_te (w_bx (w_k ⟨v5, (hr).map, (A_cut hwf)⟩))))
end Go.Val

/- part P1 -/
/- Plain lemmas: loops that are read off. -/
namespace Go.Val
set_option linter.unusedVariables false

theorem w64 {n : Int} (h1 : -9223372036854775808 ≤ n) (h2 : n ≤ 9223372036854775807) : IntKind.i64.wrap n = n := by rw [IntKind.wrap_i64]; omega
theorem w64s {i : Nat} (h : i < 9223372036854775807) : IntKind.i64.wrap ((i : Int) + 1) = ((i + 1 : Nat) : Int) := by rw [w64 (by omega) (by omega)]; omega
theorem idx_nat {α : Type} {xs : List α} {i : Nat} : idx xs (i : Int) = xs[i]? := by
  unfold idx; rw [if_neg (by omega)]; simp
theorem room_ok {sz n : Nat} (h : n * sz ≤ 140737488355328) : room sz n = some () := by
  unfold room roomOf; rw [if_pos h]
/-- A loop's end. -/
theorem Loop_end {σ ρ : Type} {b : σ → Option (Step σ ρ)} {s : σ} {R : Option ρ} (h : b s = R.map Step.done) : Loop b s = R := by
  cases R with
  | some r => exact Loop_done h
  | none =>
    apply Option.ext_some
    · intro r hr
      obtain ⟨n, hn⟩ := Loop_get hr
      cases n with
      | zero => simp [rounds] at hn
      | succ n => simp [rounds, h] at hn
    · intro r hr; cases hr
open Classical in
/-- A loop that looks for what is bad. -/
theorem Loop_all {ρ : Type} {b : Int → Option (Step Int ρ)} (P : Nat → Prop) {n : Nat} {r R : ρ} (hg : ∀ j, j < n → P j → b (j : Int) = some (.next ((j + 1 : Nat) : Int))) (hb : ∀ j, j < n → ¬ P j → b (j : Int) = some (.done r)) (he : b (n : Int) = some (.done R)) :
    ∀ (d i : Nat), i + d = n → Loop b (i : Int) = if ∀ j, i ≤ j → j < n → P j then some R else some r := by
  intro d
  induction d with
  | zero =>
    intro i hi
    obtain rfl : i = n := by omega
    rw [if_pos (fun j h1 h2 => by omega)]
    exact Loop_done he
  | succ d ih =>
    intro i hi
    by_cases hp : P i
    · rw [Loop_next (hg i (by omega) hp), ih (i + 1) (by omega)]
      have : (∀ j, i + 1 ≤ j → j < n → P j) ↔ ∀ j, i ≤ j → j < n → P j := by
        constructor
        · intro h j h1 h2
          by_cases e : j = i
          · rw [e]; exact hp
          · exact h j (by omega) h2
        · intro h j h1 h2; exact h j (by omega) h2
      simp only [this]
    · rw [Loop_done (hb i (by omega) hp), if_neg (fun h => hp (h i (Nat.le_refl _) (by omega)))]
theorem Loop_all0 {ρ : Type} {b : Int → Option (Step Int ρ)} (P : Nat → Prop) (n : Nat) {r R : ρ} (hg : ∀ j, j < n → P j → b (j : Int) = some (.next ((j + 1 : Nat) : Int))) (hb : ∀ j, j < n → ¬ P j → b (j : Int) = some (.done r)) (he : b (n : Int) = some (.done R)) :
    ((∀ j, j < n → P j) → Loop b 0 = some R) ∧ ((¬ ∀ j, j < n → P j) → Loop b 0 = some r) := by
  have := Loop_all P hg hb he n 0 (by omega)
  exact ⟨fun h => by rw [if_pos (fun j _ hj => h j hj)] at this; exact this, fun h => by rw [if_neg (fun h' => h fun j hj => h' j (Nat.zero_le _) hj)] at this; exact this⟩
end Go.Val

/- part Q1i -/
/- Plain lemmas: ranges, and the one list of ranges that a set has. -/
namespace Go.Val
set_option linter.unusedVariables false
/-- A loop with an end: what is known at its head, what grows less, what is known of its end. -/
theorem Loop_spec {σ ρ : Type} {body : σ → Option (Step σ ρ)} {Q : ρ → Prop} (I : σ → Prop) (μ : σ → Nat)
    (h : ∀ s, I s → (∃ s', body s = some (.next s') ∧ I s' ∧ μ s' < μ s) ∨ (∃ r, body s = some (.done r) ∧ Q r)) : ∀ s, I s → ∃ r, Loop body s = some r ∧ Q r := by
  have key : ∀ (n : Nat) (s : σ), μ s = n → I s → ∃ r, Loop body s = some r ∧ Q r := by
    intro n
    induction n using Nat.strongRecOn with
    | _ n ih =>
      intro s hn hs
      rcases h s hs with ⟨s', h1, h2, h3⟩ | ⟨r, h1, h2⟩
      · rw [Loop_next h1]
        exact ih _ (by omega) s' rfl h2
      · exact ⟨r, Loop_done h1, h2⟩
  intro s hs
  exact key _ s rfl hs

/-- A number is in one of the ranges. -/
def In (a : List TRange) (r : Int) : Prop := ∃ x ∈ a, x.Low ≤ r ∧ r ≤ x.High
def Ok (x : TRange) : Prop := 0 ≤ x.Low ∧ x.Low ≤ x.High ∧ x.High ≤ 1114111
/-- Ranges that rise and don't touch. -/
def Norm (a : List TRange) : Prop := (∀ x ∈ a, Ok x) ∧ a.Pairwise (fun x y => x.High + 1 < y.Low)
theorem In_nil {r : Int} : ¬ In [] r := by rintro ⟨x, h, _⟩; cases h
theorem In_cons {x : TRange} {l : List TRange} {r : Int} : In (x :: l) r ↔ (x.Low ≤ r ∧ r ≤ x.High) ∨ In l r := by
  simp only [In, List.mem_cons]
  constructor
  · rintro ⟨y, rfl | h, hy⟩
    · exact .inl hy
    · exact .inr ⟨y, h, hy⟩
  · rintro (h | ⟨y, h, hy⟩)
    · exact ⟨x, .inl rfl, h⟩
    · exact ⟨y, .inr h, hy⟩
theorem In_append {l m : List TRange} {r : Int} : In (l ++ m) r ↔ In l r ∨ In m r := by
  simp only [In, List.mem_append]
  constructor
  · rintro ⟨y, h | h, hy⟩
    · exact .inl ⟨y, h, hy⟩
    · exact .inr ⟨y, h, hy⟩
  · rintro (⟨y, h, hy⟩ | ⟨y, h, hy⟩)
    · exact ⟨y, .inl h, hy⟩
    · exact ⟨y, .inr h, hy⟩
theorem In_one {x : TRange} {r : Int} : In [x] r ↔ x.Low ≤ r ∧ r ≤ x.High := by
  rw [In_cons]
  exact ⟨fun h => h.elim id fun h => absurd h In_nil, .inl⟩
theorem In_perm {l m : List TRange} (h : l.Perm m) {r : Int} : In l r ↔ In m r := by
  simp only [In, h.mem_iff]
theorem Norm_nil : Norm [] := ⟨fun x h => (by cases h), .nil⟩
theorem Norm_cons {x : TRange} {l : List TRange} : Norm (x :: l) ↔ Ok x ∧ (∀ y ∈ l, x.High + 1 < y.Low) ∧ Norm l := by
  simp only [Norm, List.mem_cons, forall_eq_or_imp, List.pairwise_cons]
  constructor
  · rintro ⟨⟨h1, h2⟩, h3, h4⟩; exact ⟨h1, h3, h2, h4⟩
  · rintro ⟨h1, h3, h2, h4⟩; exact ⟨⟨h1, h2⟩, h3, h4⟩
theorem Norm_snoc {x : TRange} {l : List TRange} : Norm (l ++ [x]) ↔ Norm l ∧ Ok x ∧ ∀ y ∈ l, y.High + 1 < x.Low := by
  simp only [Norm, List.mem_append, List.mem_singleton, List.pairwise_append]
  constructor
  · rintro ⟨h1, h2, h3, h4⟩
    exact ⟨⟨fun y hy => h1 y (.inl hy), h2⟩, h1 x (.inr rfl), fun y hy => h4 y hy x rfl⟩
  · rintro ⟨⟨h1, h2⟩, h3, h4⟩
    refine ⟨fun y hy => ?_, h2, List.pairwise_singleton _ _, fun y hy z hz => ?_⟩
    · rcases hy with hy | rfl
      · exact h1 y hy
      · exact h3
    · subst hz; exact h4 y hy
theorem Norm.bound {a : List TRange} (h : Norm a) {r : Int} (hr : In a r) : 0 ≤ r ∧ r ≤ 1114111 := by
  obtain ⟨x, hx, h1, h2⟩ := hr
  have := h.1 x hx
  unfold Ok at this
  omega
theorem In_low {a : List TRange} (h : Norm a) {x : TRange} (hx : x ∈ a) : In a x.Low := ⟨x, hx, Int.le_refl _, (h.1 x hx).2.1⟩
/-- A set has one list of ranges. -/
theorem Norm.unique : ∀ {a b : List TRange}, Norm a → Norm b → (∀ r, In a r ↔ In b r) → a = b
  | [], [], _, _, _ => rfl
  | [], y :: m, _, hb, h => absurd ((h y.Low).2 (In_low hb (by simp))) In_nil
  | x :: l, [], ha, _, h => absurd ((h x.Low).1 (In_low ha (by simp))) In_nil
  | x :: l, y :: m, ha, hb, h => by
    have ha' := Norm_cons.1 ha
    have hb' := Norm_cons.1 hb
    have hxo := ha'.1
    have hyo := hb'.1
    unfold Ok at hxo hyo
    have low : ∀ {x : TRange} {l : List TRange}, Norm (x :: l) → ∀ {r : Int}, In (x :: l) r → x.Low ≤ r := fun {x l} hn {r} hr => by
      have hn' := Norm_cons.1 hn
      have ho := hn'.1
      unfold Ok at ho
      rcases In_cons.1 hr with h | ⟨z, hz, h1, h2⟩
      · exact h.1
      · have := hn'.2.1 z hz; omega
    have next : ∀ {x : TRange} {l : List TRange}, Norm (x :: l) → ¬ In (x :: l) (x.High + 1) := fun {x l} hn hr => by
      have hn' := Norm_cons.1 hn
      rcases In_cons.1 hr with h | ⟨z, hz, h1, h2⟩
      · omega
      · have := hn'.2.1 z hz; omega
    have e1 : x.Low = y.Low := by
      have h1 := low hb ((h x.Low).1 (In_low ha (by simp)))
      have h2 := low ha ((h y.Low).2 (In_low hb (by simp)))
      omega
    have e2 : x.High = y.High := by
      have h1 : ¬ x.High < y.High := fun hlt => next ha ((h _).2 (In_cons.2 (.inl ⟨by omega, by omega⟩)))
      have h2 : ¬ y.High < x.High := fun hlt => next hb ((h _).1 (In_cons.2 (.inl ⟨by omega, by omega⟩)))
      omega
    have e : x = y := by cases x; cases y; simp_all
    subst e
    rw [Norm.unique ha'.2.2 hb'.2.2 fun r => ?_]
    constructor
    · intro hr
      rcases In_cons.1 ((h r).1 (In_cons.2 (.inr hr))) with h1 | h1
      · obtain ⟨z, hz, k1, k2⟩ := hr
        have := ha'.2.1 z hz; omega
      · exact h1
    · intro hr
      rcases In_cons.1 ((h r).2 (In_cons.2 (.inr hr))) with h1 | h1
      · obtain ⟨z, hz, k1, k2⟩ := hr
        have := hb'.2.1 z hz; omega
      · exact h1
theorem mx_ge {a b : Int} : a ≤ mx a b ∧ b ≤ mx a b := by unfold mx; split <;> omega
theorem mx_le {a b c : Int} (h1 : a ≤ c) (h2 : b ≤ c) : mx a b ≤ c := by unfold mx; split <;> omega
theorem mx_or {a b : Int} : mx a b = a ∨ mx a b = b := by unfold mx; split <;> simp
theorem len_pred {n : Nat} (h : n < 9223372036854775807) : IntKind.i64.wrap (((n + 1 : Nat) : Int) - 1) = n := by rw [w64 (by omega) (by omega)]; omega
/-- A range is put behind ranges. -/
theorem put_spec {out : List TRange} {x : TRange} (hn : Norm out) (hx : Ok x) (hl : ∀ y ∈ out, y.Low ≤ x.Low) (hlen : (out.length + 1) * 16 ≤ 140737488355328) :
    ∃ out', ranges_put out x = some out' ∧ Norm out' ∧ (∀ r, In out' r ↔ In out r ∨ (x.Low ≤ r ∧ r ≤ x.High)) ∧ out'.length ≤ out.length + 1 ∧ ∀ y ∈ out', y.Low ≤ x.Low := by
  have hxo := hx
  unfold Ok at hxo
  rcases List.eq_nil_or_concat out with rfl | ⟨init, y, rfl⟩
  · refine ⟨[x], ?_, Norm_snoc (l := []).2 ⟨Norm_nil, hx, fun y h => by cases h⟩, fun r => ?_, by simp, fun y hy => ?_⟩
    · unfold ranges_put
      rw [if_neg (by simp), Option.bind_some, if_neg (by simp), room_ok (by simp), Option.bind_some]; rfl
    · rw [In_one]; exact ⟨.inr, fun h => h.elim (fun h => absurd h In_nil) id⟩
    · simp at hy; subst hy; omega
  · rw [List.concat_eq_append] at *
    have hlen' : (init ++ [y]).length = init.length + 1 := by simp
    obtain ⟨n1, n2, n3⟩ := Norm_snoc.1 hn
    have hyo := n2
    unfold Ok at hyo
    have hyl := hl y (by simp)
    have hi : (init ++ [y])[init.length]? = some y := by simp
    have hbig : init.length < 9223372036854775807 := by rw [hlen'] at hlen; omega
    have hw : IntKind.i64.wrap (((init ++ [y]).length : Int) - 1) = (init.length : Int) := by rw [hlen']; exact len_pred hbig
    have hcond : (if (decide (((init ++ [y]).length : Int) > (0 : Int))) then
      (idx (init ++ [y]) (IntKind.i64.wrap (((init ++ [y]).length : Int) - (1 : Int)))).bind fun x1 =>
      some (decide (x.Low ≤ (IntKind.i64.wrap (x1.High + (1 : Int)))))
    else
      some false) = some (decide (x.Low ≤ y.High + 1)) := by
      rw [if_pos (by simp), hw, idx_nat, hi, Option.bind_some, w64 (by omega) (by omega)]
    by_cases hc : x.Low ≤ y.High + 1
    · refine ⟨init ++ [⟨y.Low, mx y.High x.High⟩], ?_, Norm_snoc.2 ⟨n1, ⟨(show 0 ≤ y.Low by omega), ?_, mx_le (by omega) (by omega)⟩, n3⟩, fun r => ?_, by simp, fun z hz => ?_⟩
      · unfold ranges_put
        rw [hcond, Option.bind_some, if_pos (by simpa using hc), hw, idx_nat, hi, Option.bind_some]
        try simp
      · have := (mx_ge (a := y.High) (b := x.High)).1
        show y.Low ≤ mx y.High x.High
        omega
      · rw [In_append, In_append, In_one, In_one]
        have h1 := mx_ge (a := y.High) (b := x.High)
        have h2 := mx_or (a := y.High) (b := x.High)
        show In init r ∨ (y.Low ≤ r ∧ r ≤ mx y.High x.High) ↔ (In init r ∨ (y.Low ≤ r ∧ r ≤ y.High)) ∨ (x.Low ≤ r ∧ r ≤ x.High)
        constructor
        · rintro (h | ⟨h3, h4⟩)
          · exact .inl (.inl h)
          · by_cases h5 : r ≤ y.High
            · exact .inl (.inr ⟨h3, h5⟩)
            · exact .inr ⟨by omega, by omega⟩
        · rintro ((h | ⟨h3, h4⟩) | ⟨h3, h4⟩)
          · exact .inl h
          · exact .inr ⟨h3, by omega⟩
          · exact .inr ⟨by omega, by omega⟩
      · rcases List.mem_append.1 hz with hz | hz
        · exact hl z (by simp [hz])
        · simp at hz; subst hz; exact hyl
    · refine ⟨init ++ [y] ++ [x], ?_, Norm_snoc.2 ⟨hn, hx, fun z hz => ?_⟩, fun r => ?_, by simp, fun z hz => ?_⟩
      · unfold ranges_put
        rw [hcond, Option.bind_some, if_neg (by simpa using hc), room_ok hlen, Option.bind_some]
      · rcases List.mem_append.1 hz with hz | hz
        · have := n3 z hz; omega
        · simp at hz; subst hz; omega
      · rw [In_append, In_one]
      · rcases List.mem_append.1 hz with hz | hz
        · exact hl z hz
        · simp at hz; subst hz; omega
end Go.Val

/- part Q2i -/
/- Plain lemmas: Make of ranges. -/
namespace Go.Val
set_option linter.unusedVariables false
theorem Contains_eq {l : List TRange} {f : TRange → Option Bool} {g : TRange → Bool} (hf : ∀ x ∈ l, f x = some (g x)) (hl : l.length < 9223372036854775807) : slices_ContainsFunc_api_Range_api_Range l f = some (l.any g) := by
  obtain ⟨r, h1, h2⟩ := Loop_spec (body := slices_IndexFunc_api_Range_api_Range.b1 l f) (Q := fun r => decide (r ≥ (0 : Int)) = l.any g) (fun v => ∃ k : Nat, v = k ∧ k ≤ l.length ∧ ∀ j, j < k → ∀ x, l[j]? = some x → g x = false) (fun v => l.length - v.toNat) (fun s ⟨k, hk, hkl, hall⟩ => by
    subst hk
    by_cases h : k < l.length
    · have hx : l[k]? = some l[k] := List.getElem?_eq_getElem h
      cases hg : g l[k] with
      | true =>
        right
        refine ⟨(k : Int), ?_, ?_⟩
        · rw [slices_IndexFunc_api_Range_api_Range.b1, if_pos (by simpa using h), idx_nat, hx, Option.bind_some, hf _ (List.getElem_mem h), Option.bind_some, hg, if_pos rfl]
        · rw [decide_eq_true (by omega)]; symm; rw [List.any_eq_true]; exact ⟨_, List.getElem_mem h, hg⟩
      | false =>
        left
        refine ⟨((k + 1 : Nat) : Int), ?_, ⟨k + 1, rfl, h, fun j hj x hx' => ?_⟩, by omega⟩
        · rw [slices_IndexFunc_api_Range_api_Range.b1, if_pos (by simpa using h), idx_nat, hx, Option.bind_some, hf _ (List.getElem_mem h), Option.bind_some, hg, if_neg (by simp), w64s (by omega)]
        · by_cases e : j = k
          · subst e; rw [hx] at hx'; cases hx'; exact hg
          · exact hall j (by omega) x hx'
    · right
      obtain rfl : k = l.length := by omega
      refine ⟨-1, ?_, ?_⟩
      · rw [slices_IndexFunc_api_Range_api_Range.b1, if_neg (by simp)]; rfl
      · rw [decide_eq_false (by omega)]; symm; rw [List.any_eq_false]
        intro x hx
        obtain ⟨j, hj, rfl⟩ := List.getElem_of_mem hx
        simp [hall j hj _ (List.getElem?_eq_getElem hj)]) (0 : Int) ⟨0, rfl, Nat.zero_le _, fun j hj => absurd hj (by omega)⟩
  unfold slices_ContainsFunc_api_Range_api_Range slices_IndexFunc_api_Range_api_Range
  rw [h1, Option.bind_some, h2]
theorem swoL : Go.Sort.SWO ltR where
  irrefl x := by simp [ltR]
  trans x y z h1 h2 := by simp [ltR] at *; omega
  ntrans x y z h1 h2 := by simp [ltR] at *; omega
theorem sortR_spec {l : List TRange} (h : l.length ≤ 140737488355328) : ∃ l', sortR l = some l' ∧ l'.Perm l ∧ l'.Pairwise (fun x y => x.Low ≤ y.Low) := by
  unfold sortR
  rw [if_pos (show l.length ≤ roomOf from h)]
  obtain ⟨⟨h1, _, h2⟩, h3⟩ := Go.Sort.pdq_sorts ltR swoL l.toArray 0 l.length (Go.Lib.bitLen l.length) true true (Nat.zero_le _) (by simp) (Or.inl rfl)
  generalize Go.Sort.pdq ltR l.toArray 0 l.length (Go.Lib.bitLen l.length) true true = d at h1 h2 h3 ⊢
  have hs : d.size = l.length := by simpa using h1
  refine ⟨_, rfl, ?_, ?_⟩
  · have e1 : d.extract 0 l.length = d := by rw [← hs]; simp
    have e2 : l.toArray.extract 0 l.length = l.toArray := by simp
    rw [e1, e2] at h2
    simpa using h2
  · rw [List.pairwise_iff_getElem]
    intro i j hi hj hij
    have := h3 i j (Nat.zero_le _) hij (by simpa [hs] using hj)
    rw [getElem!_pos d j (by simpa using hj), getElem!_pos d i (by simpa using hi)] at this
    simp only [ltR, decide_eq_false_iff_not] at this
    simp only [Array.getElem_toList]
    omega
theorem Clone_eq {l : List TRange} (h : l.length * 16 ≤ 140737488355328) : slices_Clone_api_Range_api_Range l = some l := by
  unfold slices_Clone_api_Range_api_Range
  rw [room_ok (by omega)]; rfl
instance (x : TRange) : Decidable (Ok x) := inferInstanceAs (Decidable (_ ∧ _ ∧ _))
theorem Make_1_eq (x : TRange) : ranges_Make_1 x = some (!decide (Ok x)) := by
  unfold ranges_Make_1 Ok
  congr 1
  by_cases h1 : x.Low < 0
  · have : ¬ (0 ≤ x.Low ∧ x.Low ≤ x.High ∧ x.High ≤ 1114111) := by omega
    simp [h1, this]
  · by_cases h2 : x.High > 1114111
    · have : ¬ (0 ≤ x.Low ∧ x.Low ≤ x.High ∧ x.High ≤ 1114111) := by omega
      simp [h2, this]
    · by_cases h3 : x.Low > x.High
      · have : ¬ (0 ≤ x.Low ∧ x.Low ≤ x.High ∧ x.High ≤ 1114111) := by omega
        simp [h3, this]
      · have : 0 ≤ x.Low ∧ x.Low ≤ x.High ∧ x.High ≤ 1114111 := by omega
        simp [h1, h2, h3, this]
theorem any_bad {l : List TRange} : (l.any fun x => !decide (Ok x)) = !decide (∀ x ∈ l, Ok x) := by
  rw [Bool.eq_iff_iff]
  simp
theorem take_snoc2 {l : List TRange} {s : Nat} {x : TRange} (h : l[s]? = some x) : l.take (s + 1) = l.take s ++ [x] := by
  rw [List.take_add_one, h]; rfl
theorem Make_loop {l1 : List TRange} (hok : ∀ x ∈ l1, Ok x) (hs : l1.Pairwise (fun x y => x.Low ≤ y.Low)) (hl : l1.length * 16 ≤ 140737488355328) :
    ∃ r, Loop (ranges_Make.b1 l1) ([], (0 : Int)) = some r ∧ r.2 = 0 ∧ Norm r.1 ∧ (∀ t, In r.1 t ↔ In l1 t) ∧ r.1.length ≤ l1.length := by
  refine Loop_spec (body := ranges_Make.b1 l1) (fun p => ∃ k : Nat, p.2 = k ∧ k ≤ l1.length ∧ Norm p.1 ∧ (∀ t, In p.1 t ↔ In (l1.take k) t) ∧ p.1.length ≤ k ∧ ∀ y ∈ p.1, ∀ z ∈ l1.drop k, y.Low ≤ z.Low) (fun p => l1.length - p.2.toNat) (fun p hp => ?_) _
    ⟨0, rfl, Nat.zero_le _, Norm_nil, fun t => by simp, Nat.le_refl _, fun y hy => by cases hy⟩
  obtain ⟨out, v⟩ := p
  obtain ⟨k, hk, hkl, hn, hin, hlen, hlow⟩ := hp
  simp only at hk hn hin hlen hlow
  subst hk
  by_cases h : k < l1.length
  · left
    have hx : l1[k]? = some l1[k] := List.getElem?_eq_getElem h
    have hd : l1.drop k = l1[k] :: l1.drop (k + 1) := List.drop_eq_getElem_cons h
    obtain ⟨out', g1, g2, g3, g4, g5⟩ := put_spec (x := l1[k]) hn (hok _ (List.getElem_mem h)) (fun y hy => hlow y hy _ (by rw [hd]; exact List.mem_cons_self)) (by omega)
    refine ⟨(out', ((k + 1 : Nat) : Int)), ?_, ⟨k + 1, rfl, h, g2, fun t => ?_, by simp only; omega, fun y hy z hz => ?_⟩, by simp only; omega⟩
    · simp only [ranges_Make.b1]
      rw [if_pos (by simpa using h), idx_nat, hx, Option.bind_some, g1, Option.bind_some, w64s (by omega)]
    · simp only
      rw [g3, hin, take_snoc2 hx, In_append, In_one]
    · have h1 := g5 y hy
      rw [List.pairwise_iff_getElem] at hs
      obtain ⟨j, hj, rfl⟩ := List.getElem_of_mem hz
      simp only [List.getElem_drop]
      have := hs k (k + 1 + j) h (by simp at hj; omega) (by omega)
      omega
  · right
    obtain rfl : k = l1.length := by omega
    refine ⟨(out, 0), ?_, rfl, hn, fun t => ?_, hlen⟩
    · simp only [ranges_Make.b1]
      rw [if_neg (by simp)]; rfl
    · simp only
      rw [hin, List.take_length]
/-- The set of ranges. -/
theorem Make_ok {l : List TRange} (hok : ∀ x ∈ l, Ok x) (hl : l.length * 16 ≤ 140737488355328) :
    ∃ out, ranges_Make l = some (out, 0) ∧ Norm out ∧ (∀ t, In out t ↔ In l t) ∧ out.length ≤ l.length := by
  obtain ⟨l1, h1, h2, h3⟩ := sortR_spec (l := l) (by omega)
  obtain ⟨r, g1, g2, g3, g4, g5⟩ := Make_loop (l1 := l1) (fun x hx => hok x (h2.mem_iff.1 hx)) h3 (by rw [h2.length_eq]; exact hl)
  refine ⟨r.1, ?_, g3, fun t => (g4 t).trans (In_perm h2), by rw [← h2.length_eq]; exact g5⟩
  unfold ranges_Make
  rw [Contains_eq (fun x _ => Make_1_eq x) (by omega), Option.bind_some, any_bad, decide_eq_true hok]
  rw [if_neg (by simp), Clone_eq hl, Option.bind_some, h1, Option.bind_some, g1, ← g2]
theorem Same_eq {a b : List TRange} (hl : a.length < 9223372036854775807) : scansionref02_Same a b = some (decide (a = b)) := by
  unfold scansionref02_Same
  by_cases hlen : a.length = b.length
  · rw [if_neg (by simp [hlen])]
    have := Loop_all0 (b := scansionref02_Same.b1 a b) (fun j => a[j]? = b[j]?) a.length (r := false) (R := true) (fun j hj hp => ?_) (fun j hj hp => ?_) ?_
    · by_cases h : a = b
      · rw [this.1 (fun j _ => by rw [h]), decide_eq_true h]
      · rw [this.2 (fun hall => h (List.ext_getElem? fun j => ?_)), decide_eq_false h]
        by_cases hj : j < a.length
        · exact hall j hj
        · rw [List.getElem?_eq_none (by omega), List.getElem?_eq_none (by omega)]
    · have ha : a[j]? = some a[j] := List.getElem?_eq_getElem hj
      have hb : b[j]? = some a[j] := by rw [← hp]; exact ha
      rw [scansionref02_Same.b1, if_pos (by simpa using hj), idx_nat, ha, Option.bind_some, idx_nat, hb, Option.bind_some, if_neg (by simp), w64s (by omega)]
    · have ha : a[j]? = some a[j] := List.getElem?_eq_getElem hj
      have hb : b[j]? = some (b[j]'(by omega)) := List.getElem?_eq_getElem (by omega)
      rw [ha, hb] at hp
      rw [scansionref02_Same.b1, if_pos (by simpa using hj), idx_nat, ha, Option.bind_some, idx_nat, hb, Option.bind_some, if_pos]
      generalize a[j] = x at *
      generalize b[j]'(by omega) = y at *
      cases x; cases y
      simp only [Option.some.injEq, TRange.mk.injEq] at hp
      simp
      omega
    · rw [scansionref02_Same.b1, if_neg (by simp)]; rfl
  · rw [if_pos (by simp; omega)]
    rw [decide_eq_false (fun h => hlen (by rw [h]))]
end Go.Val

/- part Q3i -/
/- Plain lemmas: Has, Count and Nth of ranges. -/
namespace Go.Val
set_option linter.unusedVariables false
theorem Norm.short : ∀ {l : List TRange} {lo : Int}, Norm l → (∀ x ∈ l, lo ≤ x.Low) → (l.length : Int) ≤ max 0 (1114112 - lo)
  | [], lo, _, _ => by simp; omega
  | x :: l, lo, h, hlo => by
    obtain ⟨h1, h2, h3⟩ := Norm_cons.1 h
    unfold Ok at h1
    have := Norm.short h3 (lo := x.High + 2) (fun y hy => by have := h2 y hy; omega)
    have := hlo x (by simp)
    simp only [List.length_cons]
    omega
theorem Norm.len {l : List TRange} (h : Norm l) : l.length ≤ 1114112 := by
  have := h.short (lo := 0) (fun x hx => (h.1 x hx).1)
  omega
theorem Norm.sep : ∀ {a : List TRange}, Norm a → ∀ x ∈ a, ∀ z ∈ a, z = x ∨ z.High + 1 < x.Low ∨ x.High + 1 < z.Low
  | [], _, x, hx, _, _ => by cases hx
  | y :: l, h, x, hx, z, hz => by
    obtain ⟨h1, h2, h3⟩ := Norm_cons.1 h
    rcases List.mem_cons.1 hx with e1 | hx1
    · rcases List.mem_cons.1 hz with e2 | hz1
      · exact .inl (e2.trans e1.symm)
      · rw [e1]; exact .inr (.inr (h2 z hz1))
    · rcases List.mem_cons.1 hz with e2 | hz1
      · rw [e2]; exact .inr (.inl (h2 x hx1))
      · exact Norm.sep h3 x hx1 z hz1
theorem Norm.below {a : List TRange} (h : Norm a) {x : TRange} (hx : x ∈ a) : ¬ In a (x.Low - 1) := by
  rintro ⟨z, hz, h1, h2⟩
  have k1 := h.1 x hx
  have k2 := h.1 z hz
  unfold Ok at k1 k2
  rcases h.sep x hx z hz with e | e | e
  · subst e; omega
  · omega
  · omega
theorem Norm.take {a : List TRange} (h : Norm a) (k : Nat) : Norm (a.take k) := ⟨fun x hx => h.1 x (List.mem_of_mem_take hx), h.2.sublist (List.take_sublist _ _)⟩
theorem Norm.drop {a : List TRange} (h : Norm a) (k : Nat) : Norm (a.drop k) := ⟨fun x hx => h.1 x (List.mem_of_mem_drop hx), h.2.sublist (List.drop_sublist _ _)⟩
/-! ### Has -/
/-! ### Count, Nth -/
def many (x : TRange) : Int := x.High - x.Low + 1
end Go.Val

/- part Q4i -/
/- Plain lemmas: the document's sets (edges, pick). -/
namespace Go.Val
set_option linter.unusedVariables false
/-- Where something may begin. -/
def Edge (m : List TRange) (e : Int) : Prop := e = 0 ∨ ∃ x ∈ m, e = x.Low ∨ (x.High < 1114111 ∧ e = x.High + 1)
end Go.Val

/- part Q20 -/
/- Plain lemmas: the reader goes through units, sign by sign. -/
namespace Go.Val
set_option linter.unusedVariables false
set_option linter.unusedSimpArgs false
/-- A unit's sign; the sign at hand; where it begins. -/
def su (u : TUnit) : Int := if u.Bad then -2 else u.Rune
def sgn : List TUnit → Int
  | [] => -1
  | u :: _ => su u
def atU (whole : Int) : List TUnit → Int
  | [] => whole
  | u :: _ => u.At
/-- A reader ahead of these. -/
def rd (U : List TUnit) (w : Int) (us : List TUnit) (f : Int) : Tlex_reader := ⟨U, ((U.length - us.length : Nat) : Int), w, f⟩
/-- Units that are no stranger than a text's. -/
def Fine (U : List TUnit) : Prop := U.length ≤ 1048576 ∧ ∀ u ∈ U, 0 ≤ u.Rune ∧ u.Rune ≤ 1114111
variable {U us : List TUnit} {w f : Int}
theorem suf_get (h : us <:+ U) : U[U.length - us.length]? = us[0]? := by
  obtain ⟨t, rfl⟩ := h
  rw [List.length_append, Nat.add_sub_cancel, List.getElem?_append_right (Nat.le_refl _), Nat.sub_self]
theorem suf_len (h : us <:+ U) : us.length ≤ U.length := h.length_le
theorem suf_tail {u : TUnit} (h : (u :: us) <:+ U) : us <:+ U := (List.suffix_cons u us).trans h
theorem Fine.one {u : TUnit} (hF : Fine U) (h : (u :: us) <:+ U) : 0 ≤ u.Rune ∧ u.Rune ≤ 1114111 := hF.2 u (h.subset (by simp))
theorem su_ne {u : TUnit} (hF : Fine U) (h : (u :: us) <:+ U) : su u ≠ -1 := by
  have := (hF.one h).1
  unfold su; split <;> omega
theorem now_eq (h : us <:+ U) : lex_reader_now (rd U w us f) = some (sgn us) := by
  have hl := suf_len h
  unfold lex_reader_now rd
  cases us with
  | nil => rw [if_pos (by simp)]; rfl
  | cons u us =>
    have hg := suf_get h
    simp only [List.length_cons] at hg hl ⊢
    rw [if_neg (by simp; omega), idx_nat, hg]
    simp only [List.getElem?_cons_zero, Option.bind_some, sgn, su]
    cases u.Bad <;> rfl
theorem at_eq (h : us <:+ U) : lex_reader_at (rd U w us f) = some (atU w us) := by
  have hl := suf_len h
  unfold lex_reader_at rd
  cases us with
  | nil => rw [if_pos (by simp)]; rfl
  | cons u us =>
    have hg := suf_get h
    simp only [List.length_cons] at hg hl ⊢
    rw [if_neg (by simp; omega), idx_nat, hg]
    rfl
theorem rd_step {u : TUnit} (hF : Fine U) (h : (u :: us) <:+ U) : IntKind.i64.wrap (((U.length - (u :: us).length : Nat) : Int) + 1) = ((U.length - us.length : Nat) : Int) := by
  have hl := suf_len h
  have := hF.1
  simp only [List.length_cons] at hl ⊢
  rw [w64s (by omega)]
  congr 1; omega
theorem skip_eq {p : Int → Option Bool} {q : Int → Bool} (hF : Fine U) (hp : ∀ n, p n = some (q n)) (hq : q (-1) = false) : ∀ {us : List TUnit}, us <:+ U →
    Loop (lex_reader_skip.b1 ⟨U, 0, w, f⟩ p) ((U.length - us.length : Nat) : Int) = some (rd U w (us.dropWhile fun u => q (su u)) f)
  | [], h => by
    refine Loop_done ?_
    unfold lex_reader_skip.b1
    have hn := now_eq (w := w) (f := f) h
    simp only [rd] at hn
    simp only [hn, Option.bind_some, sgn, hp, hq]
    rfl
  | u :: us, h => by
    have hn := now_eq (w := w) (f := f) h
    simp only [rd] at hn
    cases hu : q (su u) with
    | false =>
      refine Loop_done ?_
      unfold lex_reader_skip.b1
      simp only [hn, Option.bind_some, sgn, hp, hu, List.dropWhile_cons]
      rfl
    | true =>
      rw [Loop_next (s' := ((U.length - us.length : Nat) : Int))]
      · rw [skip_eq hF hp hq (suf_tail h), List.dropWhile_cons, hu]; rfl
      · unfold lex_reader_skip.b1
        simp only [hn, Option.bind_some, sgn, hp, hu, if_true, rd_step hF h]
theorem skip_rd {p : Int → Option Bool} {q : Int → Bool} (hF : Fine U) (hp : ∀ n, p n = some (q n)) (hq : q (-1) = false) (h : us <:+ U) : lex_reader_skip (rd U w us f) p = some (rd U w (us.dropWhile fun u => q (su u)) f) := skip_eq hF hp hq h
theorem suf_drop {q : TUnit → Bool} (h : us <:+ U) : us.dropWhile q <:+ U := (List.dropWhile_suffix q).trans h
/-! ### blanks -/
def isBl (n : Int) : Bool := n == 32 || n == 9 || n == 13 || n == 10
def inNote (n : Int) : Bool := n != 10 && (n != -1 && n != -2)
theorem one_eq {l : Str} {n : Int} (hl : l.length ≤ 1000) : lex_one l n = some (l.any fun c => (c.toNat : Int) == n) := by
  have key : ∀ (k : Nat), k ≤ l.length → Loop (lex_one.b1 l n) ((l.length - k : Nat) : Int) = some ((l.drop (l.length - k)).any fun c => (c.toNat : Int) == n) := by
    intro k
    induction k with
    | zero =>
      intro _
      refine Loop_done ?_
      unfold lex_one.b1
      rw [if_neg (by simp)]
      simp [lex_one.k1]
    | succ k ih =>
      intro hk
      have hj : l.length - (k + 1) < l.length := by omega
      have hx : l[l.length - (k + 1)]? = some l[l.length - (k + 1)] := List.getElem?_eq_getElem hj
      rw [List.drop_eq_getElem_cons hj, List.any_cons]
      have hw : IntKind.i64.wrap ((l[l.length - (k + 1)].toNat : Nat) : Int) = ((l[l.length - (k + 1)].toNat : Nat) : Int) := w64 (by omega) (by have := l[l.length - (k + 1)].toNat_lt; omega)
      cases hc : ((l[l.length - (k + 1)].toNat : Int) == n) with
      | true =>
        refine Loop_done ?_
        unfold lex_one.b1
        rw [if_pos (by simp; omega), idx_nat, hx, Option.bind_some, hw, hc]
        rfl
      | false =>
        rw [Loop_next (s' := ((l.length - k : Nat) : Int))]
        · rw [ih (by omega), show l.length - (k + 1) + 1 = l.length - k by omega]
          simp
        · unfold lex_one.b1
          rw [if_pos (by simp; omega), idx_nat, hx, Option.bind_some, hw, hc]
          simp only [Bool.false_eq_true, if_false]
          rw [w64s (by omega), show l.length - (k + 1) + 1 = l.length - k by omega]
  have := key l.length (Nat.le_refl _)
  simpa [lex_one] using this
theorem bl1_eq (n : Int) : lex_reader_blank_1 n = some (isBl n) := by
  unfold lex_reader_blank_1
  rw [one_eq (by decide)]
  have e : ∀ c : Int, (c == n) = (n == c) := fun c => Bool.beq_comm
  show some (((32 : Int) == n) || (((9 : Int) == n) || (((13 : Int) == n) || (((10 : Int) == n) || false)))) = some (isBl n)
  simp only [e, isBl, Bool.or_false, Bool.or_assoc]
theorem bl2_eq (n : Int) : lex_reader_blank_2 n = some (inNote n) := rfl
/-- What stands behind blanks, and notes. -/
def blk : Bool → List TUnit → List TUnit
  | _, [] => []
  | false, u :: us => if isBl (su u) then blk false us else if su u = 35 then blk true us else u :: us
  | true, u :: us => if su u = 10 then blk false us else if su u = -2 then u :: us else blk true us
theorem blk_suf : ∀ (b : Bool) (us : List TUnit), blk b us <:+ us
  | _, [] => by cases ‹Bool› <;> exact List.suffix_rfl
  | false, u :: us => by
    simp only [blk]
    split
    · exact (blk_suf false us).trans (List.suffix_cons u us)
    split
    · exact (blk_suf true us).trans (List.suffix_cons u us)
    · exact List.suffix_rfl
  | true, u :: us => by
    simp only [blk]
    split
    · exact (blk_suf false us).trans (List.suffix_cons u us)
    split
    · exact List.suffix_rfl
    · exact (blk_suf true us).trans (List.suffix_cons u us)
theorem blk_skip : ∀ (us : List TUnit), blk false us = blk false (us.dropWhile fun u => isBl (su u))
  | [] => rfl
  | u :: us => by
    rw [List.dropWhile_cons]
    cases h : isBl (su u) with
    | true => simp only [blk, h, if_true]; exact blk_skip us
    | false => simp
theorem blk_stop {u : TUnit} (h1 : isBl (su u) = false) (h2 : su u ≠ 35) : blk false (u :: us) = u :: us := by
  simp only [blk, h1, if_neg h2, Bool.false_eq_true, if_false]
theorem blk_note (hF : Fine U) : ∀ {us : List TUnit}, us <:+ U → blk true us = blk false (us.dropWhile fun u => inNote (su u))
  | [], _ => rfl
  | u :: us, h => by
    have h1 := su_ne hF h
    rw [List.dropWhile_cons]
    simp only [blk]
    by_cases h10 : su u = 10
    · have hn : inNote (su u) = false := by rw [h10]; rfl
      rw [if_pos h10, hn]
      simp only [Bool.false_eq_true, if_false, blk]
      rw [if_pos (by rw [h10]; rfl)]
    · rw [if_neg h10]
      by_cases h2 : su u = -2
      · have hn : inNote (su u) = false := by rw [h2]; rfl
        rw [if_pos h2, hn]
        simp only [Bool.false_eq_true, if_false]
        rw [blk_stop (by rw [h2]; rfl) (by omega)]
      · have hn : inNote (su u) = true := by
          simp only [inNote, bne_iff_ne, ne_eq, Bool.and_eq_true]; exact ⟨h10, h1, h2⟩
        rw [if_neg h2, hn]
        exact blk_note hF (suf_tail h)
theorem drop_head {q : TUnit → Bool} : ∀ (l : List TUnit), l.dropWhile q = [] ∨ ∃ u m, l.dropWhile q = u :: m ∧ q u = false
  | [] => .inl rfl
  | u :: l => by
    rw [List.dropWhile_cons]
    cases h : q u with
    | true => exact drop_head l
    | false => exact .inr ⟨u, l, rfl, h⟩
theorem blank_rd (hF : Fine U) : ∀ (n : Nat) {us : List TUnit}, us.length ≤ n → us <:+ U → Loop lex_reader_blank.b1 (U, ((U.length - us.length : Nat) : Int), w, f) = some (rd U w (blk false us) f)
  | n, us, hn, h => by
    have hs := skip_rd (w := w) (f := f) hF bl1_eq (by rfl) h
    have hd := suf_drop (q := fun u => isBl (su u)) h
    rw [blk_skip us]
    have hbody := now_eq (w := w) (f := f) hd
    rcases drop_head (q := fun u => isBl (su u)) us with he | ⟨u, m, he, hu⟩
    · refine Loop_done ?_
      rw [he] at hs hd hbody ⊢
      simp only [lex_reader_blank.b1]
      simp only [rd] at hs hbody ⊢
      rw [hs, Option.bind_some, hbody, Option.bind_some]
      rfl
    · by_cases h35 : su u = 35
      · have hlen : m.length < us.length := by
          have := (List.dropWhile_suffix (l := us) (fun u => isBl (su u))).length_le
          rw [he] at this; simp at this; omega
        rw [he] at hs hd hbody ⊢
        have hs2 := skip_rd (w := w) (f := f) hF bl2_eq (by rfl) hd
        rw [List.dropWhile_cons, show inNote (su u) = true by rw [h35]; rfl] at hs2
        simp only [if_true] at hs2
        have hm := suf_drop (q := fun u => inNote (su u)) (suf_tail hd)
        have hlm := (List.dropWhile_suffix (l := m) (fun u => inNote (su u))).length_le
        rw [Loop_next (s' := (U, ((U.length - (m.dropWhile fun u => inNote (su u)).length : Nat) : Int), w, f))]
        · cases n with
          | zero => omega
          | succ n =>
            rw [blank_rd hF n (us := m.dropWhile fun u => inNote (su u)) (by omega) hm]
            have : blk false (u :: m) = blk true m := by simp only [blk, hu, if_pos h35, Bool.false_eq_true, if_false]
            rw [this, blk_note hF (suf_tail hd)]
        · simp only [lex_reader_blank.b1]
          simp only [rd] at hs hs2 hbody ⊢
          rw [hs, Option.bind_some, hbody, Option.bind_some]
          simp only [sgn, h35]
          rw [hs2]
          rfl
      · refine Loop_done ?_
        rw [he] at hs hd hbody ⊢
        rw [blk_stop hu h35]
        simp only [lex_reader_blank.b1]
        simp only [rd] at hs hbody ⊢
        rw [hs, Option.bind_some, hbody, Option.bind_some]
        rw [if_pos (by simpa [sgn] using h35)]
theorem blank_eq (hF : Fine U) (h : us <:+ U) : lex_reader_blank (rd U w us f) = some (rd U w (blk false us) f) := blank_rd hF us.length (Nat.le_refl _) h
end Go.Val

/- part Q21 -/
/- Plain lemmas: what the reader takes: numbers, letters. -/
namespace Go.Val
set_option linter.unusedVariables false
set_option linter.unusedSimpArgs false
variable {U us : List TUnit} {w f : Int}
/-- What is read, and what stands behind it; or the error, and where. -/
inductive Pr (α : Type) where
  | ok (a : α) (r : List TUnit)
  | err (c : Int) (r : List TUnit)
def odd (us : List TUnit) : Int := if us.isEmpty then 7 else 6
theorem odd_eq (hF : Fine U) (h : us <:+ U) : lex_reader_odd (rd U w us 0) = some (rd U w us (odd us)) := by
  unfold lex_reader_odd
  rw [if_neg (by simp [rd]), now_eq h, Option.bind_some]
  cases us with
  | nil => rfl
  | cons u us =>
    have h1 := su_ne hF h
    rw [if_neg (by simpa [sgn] using h1)]
    rfl
theorem odd_f (hf : f ≠ 0) : lex_reader_odd (rd U w us f) = some (rd U w us f) := by
  unfold lex_reader_odd
  rw [if_pos (by simpa [rd] using hf)]; rfl
theorem take_f {p : Int → Option Bool} (h : us <:+ U) (hf : f ≠ 0) : lex_reader_take (rd U w us f) p = some (0, rd U w us f) := by
  unfold lex_reader_take
  have hf' : ((rd U w us f).fault != 0) = true := by simpa [rd] using hf
  rw [now_eq h, Option.bind_some, if_pos hf', Option.bind_some, if_pos rfl, odd_f hf]; rfl
theorem take_no {p : Int → Option Bool} (hF : Fine U) (h : us <:+ U) (hp : p (sgn us) = some false) : lex_reader_take (rd U w us 0) p = some (0, rd U w us (odd us)) := by
  unfold lex_reader_take
  have hf' : ¬ ((rd U w us 0).fault != 0) = true := by simp [rd]
  rw [now_eq h, Option.bind_some, if_neg hf', hp, Option.bind_some, Option.bind_some, if_pos (by rfl), odd_eq hF h]; rfl
theorem take_yes {p : Int → Option Bool} {u : TUnit} (hF : Fine U) (h : (u :: us) <:+ U) (hp : p (su u) = some true) : lex_reader_take (rd U w (u :: us) 0) p = some (su u, rd U w us 0) := by
  unfold lex_reader_take
  have hf' : ¬ ((rd U w (u :: us) 0).fault != 0) = true := by simp [rd]
  rw [now_eq h, Option.bind_some, if_neg hf']
  simp only [sgn]
  rw [hp, Option.bind_some, Option.bind_some, if_neg (by simp)]
  have := rd_step hF h
  simp only [rd] at this ⊢
  rw [this]
/-! ### numbers -/
def hexv (n : Int) : Option Int := if 48 ≤ n ∧ n ≤ 57 then some (n - 48) else if 65 ≤ n ∧ n ≤ 70 then some (n - 55) else none
theorem fig_eq (n : Int) : lex_reader_number_2 n = some (hexv n).isSome := by
  unfold lex_reader_number_2 hexv
  by_cases h1 : 48 ≤ n ∧ n ≤ 57
  · rw [if_pos h1, decide_eq_true h1.1, decide_eq_true h1.2]; rfl
  · rw [if_neg h1]
    by_cases h2 : 65 ≤ n ∧ n ≤ 70
    · rw [if_pos h2, decide_eq_true (show n ≥ 48 by omega), decide_eq_true (show n ≥ 65 from h2.1), decide_eq_true h2.2]; simp
    · rw [if_neg h2]
      have a1 : (decide (n ≥ 65) && decide (n ≤ 70)) = false := by simp; omega
      rw [a1]
      cases h3 : decide (n ≥ 48) with
      | false => rfl
      | true => simp at h3; simp; omega
def closeS (acc : Int) : List TUnit → Pr Int
  | [] => .err 7 []
  | u :: us => if su u = 125 then .ok acc us else .err 6 (u :: us)
def figS : Nat → Bool → Int → List TUnit → Pr Int
  | 0, _, acc, us => closeS acc us
  | k + 1, fst, acc, [] => .err 7 []
  | k + 1, fst, acc, u :: us => match hexv (su u) with
    | some d => figS k false (acc * 16 + d) us
    | none => if fst then .err 6 (u :: us) else closeS acc (u :: us)
def numS : List TUnit → Pr Int
  | [] => .err 7 []
  | u :: us => if su u = 123 then figS 6 true 0 us else .err 6 (u :: us)
/-- Behind a fault nothing is taken. -/
theorem num_f (h : us <:+ U) (hf : f ≠ 0) : ∀ (k : Nat) (out i : Int), i + k = 6 → 0 ≤ i → ∃ v, Loop lex_reader_number.b1 (out, i, U, ((U.length - us.length : Nat) : Int), w, f) = some (v, rd U w us f)
  | k, out, i, hk, hi => by
    have ht : ∀ p, lex_reader_take ⟨U, ((U.length - us.length : Nat) : Int), w, f⟩ p = some (0, rd U w us f) := fun p => take_f h hf
    have hn : lex_reader_now ⟨U, ((U.length - us.length : Nat) : Int), w, f⟩ = some (sgn us) := now_eq h
    have fin : ∀ out, (lex_reader_number.k1 out U ((U.length - us.length : Nat) : Int) w f).map (Step.done (σ := Int × Int × List TUnit × Int × Int × Int)) = some (.done (out, rd U w us f)) := fun out => by
      unfold lex_reader_number.k1; rw [ht]; rfl
    have go : ∀ v : Bool, (v = true → 0 < k) → (if decide (i < 6) = true then if (i == 0) = true then some true else (lex_reader_now ⟨U, ((U.length - us.length : Nat) : Int), w, f⟩).bind fun r3 => (lex_reader_number_2 r3).bind fun r4 => some r4 else some false) = some v →
        ∃ v, Loop lex_reader_number.b1 (out, i, U, ((U.length - us.length : Nat) : Int), w, f) = some (v, rd U w us f) := fun v hv he => by
      cases v with
      | false =>
        refine ⟨out, Loop_done ?_⟩
        simp only [lex_reader_number.b1]
        rw [he]
        exact fin out
      | true =>
        obtain ⟨k, rfl⟩ : ∃ j, k = j + 1 := ⟨k - 1, by have := hv rfl; omega⟩
        obtain ⟨x, hx⟩ := num_f h hf k (IntKind.i64.wrap (IntKind.i64.wrap (IntKind.i64.wrap (out * 16) + 0) - 48)) (i + 1) (by omega) (by omega)
        refine ⟨x, ?_⟩
        rw [← hx]
        refine Loop_next ?_
        simp only [lex_reader_number.b1]
        rw [he, Option.bind_some, if_pos rfl, ht, Option.bind_some]
        rw [if_neg (by simp)]
        unfold lex_reader_number.k2
        rw [w64 (n := i + 1) (by omega) (by omega)]
        rfl
    by_cases h6 : i < 6
    · by_cases h0 : i = 0
      · exact go true (fun _ => by omega) (by rw [if_pos (by simpa using h6), if_pos (by simpa using h0)])
      · exact go (hexv (sgn us)).isSome (fun _ => by omega) (by rw [if_pos (by simpa using h6), if_neg (by simpa using h0), hn, Option.bind_some, fig_eq]; rfl)
    · exact go false (fun e => by cases e) (by rw [if_neg (by simpa using h6)])
theorem hexv_lt {n d : Int} (h : hexv n = some d) : 0 ≤ d ∧ d < 16 ∧ (d = if n ≥ 65 then n - 7 - 48 else n - 48) ∧ 48 ≤ n ∧ n ≤ 70 := by
  unfold hexv at h
  split at h
  · cases h; rename_i h; rw [if_neg (by omega)]; omega
  split at h
  · cases h; rename_i h; rw [if_pos (by omega)]; omega
  · cases h
theorem close_eq (hF : Fine U) (h : us <:+ U) (acc : Int) : match closeS acc us with
    | .ok v r => lex_reader_number.k1 acc U ((U.length - us.length : Nat) : Int) w 0 = some (v, rd U w r 0) ∧ r <:+ us ∧ v = acc ∧ r.length < us.length
    | .err c r => ∃ v, lex_reader_number.k1 acc U ((U.length - us.length : Nat) : Int) w 0 = some (v, rd U w r c) ∧ r <:+ us ∧ c ≠ 0 := by
  cases us with
  | nil =>
    refine ⟨acc, ?_, List.suffix_rfl, by decide⟩
    have := take_no (w := w) (p := lex_reader_number_3) hF h rfl
    unfold lex_reader_number.k1
    simp only [rd] at this ⊢
    rw [this]; rfl
  | cons u us =>
    by_cases h1 : su u = 125
    · simp only [closeS, if_pos h1]
      refine ⟨?_, List.suffix_cons u us, by simp, by simp⟩
      have := take_yes (w := w) (p := lex_reader_number_3) hF h (by unfold lex_reader_number_3; rw [h1]; rfl)
      unfold lex_reader_number.k1
      simp only [rd] at this ⊢
      rw [this]; rfl
    · simp only [closeS, if_neg h1]
      refine ⟨acc, ?_, List.suffix_rfl, by decide⟩
      have := take_no (w := w) (p := lex_reader_number_3) hF h (by unfold lex_reader_number_3 sgn; simp [h1])
      unfold lex_reader_number.k1
      simp only [rd] at this ⊢
      rw [this]; rfl
theorem fig_spec (hF : Fine U) : ∀ (k : Nat) (fst : Bool) {us : List TUnit} (acc i : Int), us <:+ U → i + k = 6 → 0 ≤ i → (fst = true ↔ i = 0) → 0 ≤ acc → acc < 16 ^ (6 - k) →
    match figS k fst acc us with
    | .ok v r => Loop lex_reader_number.b1 (acc, i, U, ((U.length - us.length : Nat) : Int), w, 0) = some (v, rd U w r 0) ∧ r <:+ us ∧ 0 ≤ v ∧ v < 16777216 ∧ r.length < us.length
    | .err c r => (∃ v, Loop lex_reader_number.b1 (acc, i, U, ((U.length - us.length : Nat) : Int), w, 0) = some (v, rd U w r c)) ∧ r <:+ us ∧ c ≠ 0
  | k, fst, us, acc, i, h, hk, hi, hf, ha, hb => by
    have hn : lex_reader_now ⟨U, ((U.length - us.length : Nat) : Int), w, 0⟩ = some (sgn us) := now_eq h
    have hb6 : acc < 16777216 := Int.lt_of_lt_of_le hb (by
      have : (16 : Int) ^ (6 - k) ≤ 16 ^ 6 := by exact_mod_cast Nat.pow_le_pow_right (by decide) (by omega)
      simpa using this)
    have stop : (if decide (i < 6) = true then if (i == 0) = true then some true else (lex_reader_now ⟨U, ((U.length - us.length : Nat) : Int), w, 0⟩).bind fun r3 => (lex_reader_number_2 r3).bind fun r4 => some r4 else some false) = some false →
        match closeS acc us with
        | .ok v r => Loop lex_reader_number.b1 (acc, i, U, ((U.length - us.length : Nat) : Int), w, 0) = some (v, rd U w r 0) ∧ r <:+ us ∧ 0 ≤ v ∧ v < 16777216 ∧ r.length < us.length
        | .err c r => (∃ v, Loop lex_reader_number.b1 (acc, i, U, ((U.length - us.length : Nat) : Int), w, 0) = some (v, rd U w r c)) ∧ r <:+ us ∧ c ≠ 0 := fun he => by
      have hc := close_eq (w := w) hF h acc
      cases hcs : closeS acc us with
      | ok v r =>
        rw [hcs] at hc
        obtain ⟨h1, h2, h3, h4⟩ := hc
        refine ⟨Loop_done ?_, h2, by omega, by omega, h4⟩
        simp only [lex_reader_number.b1]
        rw [he, Option.bind_some, if_neg (by simp), h1]; rfl
      | err c r =>
        rw [hcs] at hc
        obtain ⟨v, h1, h2, h3⟩ := hc
        refine ⟨⟨v, Loop_done ?_⟩, h2, h3⟩
        simp only [lex_reader_number.b1]
        rw [he, Option.bind_some, if_neg (by simp), h1]; rfl
    cases k with
    | zero => exact stop (by rw [if_neg (by simp; omega)])
    | succ k =>
      have h6 : decide (i < 6) = true := by simp; omega
      have fault : ∀ us', us' = us → (hexv (sgn us) = none) → fst = true → figS (k + 1) fst acc us = .err (odd us) us →
          match figS (k + 1) fst acc us with
          | .ok v r => Loop lex_reader_number.b1 (acc, i, U, ((U.length - us.length : Nat) : Int), w, 0) = some (v, rd U w r 0) ∧ r <:+ us ∧ 0 ≤ v ∧ v < 16777216 ∧ r.length < us.length
          | .err c r => (∃ v, Loop lex_reader_number.b1 (acc, i, U, ((U.length - us.length : Nat) : Int), w, 0) = some (v, rd U w r c)) ∧ r <:+ us ∧ c ≠ 0 := fun _ _ hx hfst he => by
        have hc : odd us ≠ 0 := by unfold odd; split <;> decide
        rw [he]
        refine ⟨?_, List.suffix_rfl, hc⟩
        have i0 := hf.1 hfst
        subst i0
        have ht := take_no (w := w) (p := lex_reader_number_2) hF h (by rw [fig_eq, hx]; rfl)
        obtain ⟨x, hx2⟩ := num_f (w := w) h hc 5 (IntKind.i64.wrap (IntKind.i64.wrap (IntKind.i64.wrap (acc * 16) + 0) - 48)) 1 (by omega) (by omega)
        refine ⟨x, ?_⟩
        rw [← hx2]
        refine Loop_next ?_
        simp only [lex_reader_number.b1]
        rw [if_pos h6, if_pos (by rfl), Option.bind_some, if_pos rfl]
        simp only [rd] at ht ⊢
        rw [ht, Option.bind_some, if_neg (by simp)]
        rfl
      cases us with
      | nil =>
        cases hfs : fst with
        | true => exact hfs ▸ fault [] rfl rfl hfs rfl
        | false =>
          have hst := stop (by
            rw [if_pos h6, if_neg (by intro e; simp at e; have := hf.2 e; rw [hfs] at this; cases this), hn]; rfl)
          exact hst
      | cons u us =>
        cases hx : hexv (su u) with
        | none =>
          cases hfs : fst with
          | true =>
            have := fault (u :: us) rfl hx hfs (by simp only [figS, hx, hfs, if_true]; rfl)
            rw [hfs] at this; exact this
          | false =>
            have hst := stop (by
              rw [if_pos h6, if_neg (by intro e; simp at e; have := hf.2 e; rw [hfs] at this; cases this), hn]
              simp only [Option.bind_some, sgn, fig_eq, hx]; rfl)
            simp only [figS, hx, Bool.false_eq_true, if_false]
            exact hst
        | some d =>
          obtain ⟨d0, d1, d2, d3, d4⟩ := hexv_lt hx
          have hp : (16 : Int) ^ (6 - k) = 16 ^ (6 - (k + 1)) * 16 := by
            rw [show 6 - k = (6 - (k + 1)) + 1 by omega, Int.pow_succ]
          have ih := fig_spec hF k false (us := us) (acc * 16 + d) (i + 1) (suf_tail h) (by omega) (by omega) ⟨fun e => (by cases e), fun e => (by omega)⟩ (by omega) (by rw [hp]; omega)
          have hgo : (if decide (i < 6) = true then if (i == 0) = true then some true else (lex_reader_now ⟨U, ((U.length - (u :: us).length : Nat) : Int), w, 0⟩).bind fun r3 => (lex_reader_number_2 r3).bind fun r4 => some r4 else some false) = some true := by
            rw [if_pos h6]
            split
            · rfl
            · rw [hn]; simp only [Option.bind_some, sgn, fig_eq, hx]; rfl
          have ht := take_yes (w := w) (p := lex_reader_number_2) hF h (by rw [fig_eq, hx]; rfl)
          have hstep : Loop lex_reader_number.b1 (acc, i, U, ((U.length - (u :: us).length : Nat) : Int), w, 0) = Loop lex_reader_number.b1 (acc * 16 + d, i + 1, U, ((U.length - us.length : Nat) : Int), w, 0) := by
            refine Loop_next ?_
            simp only [lex_reader_number.b1]
            rw [hgo, Option.bind_some, if_pos rfl]
            simp only [rd] at ht ⊢
            rw [ht, Option.bind_some]
            simp only
            by_cases h65 : su u ≥ 65
            · rw [if_pos (by simpa using h65)]
              unfold lex_reader_number.k2
              rw [if_pos h65] at d2
              rw [w64 (n := su u - 7) (by omega) (by omega), w64 (n := acc * 16) (by omega) (by omega), w64 (n := acc * 16 + (su u - 7)) (by omega) (by omega), w64 (by omega) (by omega), w64 (n := i + 1) (by omega) (by omega), d2]
              congr 4; omega
            · rw [if_neg (by simpa using h65)]
              unfold lex_reader_number.k2
              rw [if_neg h65] at d2
              rw [w64 (n := acc * 16) (by omega) (by omega), w64 (n := acc * 16 + su u) (by omega) (by omega), w64 (by omega) (by omega), w64 (n := i + 1) (by omega) (by omega), d2]
              congr 4; omega
          simp only [figS, hx, hstep]
          cases hfg : figS k false (acc * 16 + d) us with
          | ok v r =>
            rw [hfg] at ih
            exact ⟨ih.1, ih.2.1.trans (List.suffix_cons u us), ih.2.2.1, ih.2.2.2.1, by have := ih.2.2.2.2; simp; omega⟩
          | err c r =>
            rw [hfg] at ih
            exact ⟨ih.1, ih.2.1.trans (List.suffix_cons u us), ih.2.2⟩
end Go.Val

/- part Q22 -/
/- Plain lemmas: letters and sets are read. -/
namespace Go.Val
set_option linter.unusedVariables false
set_option linter.unusedSimpArgs false
variable {U us : List TUnit} {w f : Int}
theorem num_spec (hF : Fine U) (h : us <:+ U) : match numS us with
    | .ok v r => lex_reader_number (rd U w us 0) = some (v, rd U w r 0) ∧ r <:+ us ∧ 0 ≤ v ∧ v < 16777216 ∧ r.length < us.length
    | .err c r => (∃ v, lex_reader_number (rd U w us 0) = some (v, rd U w r c)) ∧ r <:+ us ∧ c ≠ 0 := by
  have bad : lex_reader_number_1 (sgn us) = some false → numS us = .err (odd us) us → match numS us with
    | .ok v r => lex_reader_number (rd U w us 0) = some (v, rd U w r 0) ∧ r <:+ us ∧ 0 ≤ v ∧ v < 16777216 ∧ r.length < us.length
    | .err c r => (∃ v, lex_reader_number (rd U w us 0) = some (v, rd U w r c)) ∧ r <:+ us ∧ c ≠ 0 := fun hp he => by
    have hc : odd us ≠ 0 := by unfold odd; split <;> decide
    rw [he]
    obtain ⟨v, hv⟩ := num_f (w := w) h hc 6 0 0 (by omega) (by omega)
    refine ⟨⟨v, ?_⟩, List.suffix_rfl, hc⟩
    unfold lex_reader_number
    rw [take_no hF h hp, Option.bind_some]
    exact hv
  cases us with
  | nil => exact bad rfl rfl
  | cons u us =>
    by_cases h1 : su u = 123
    · have hf := fig_spec (w := w) hF 6 true 0 0 (suf_tail h) (by omega) (by omega) (by simp) (by omega) (by decide)
      have ht := take_yes (w := w) (p := lex_reader_number_1) hF h (by unfold lex_reader_number_1; rw [h1]; rfl)
      have e : lex_reader_number (rd U w (u :: us) 0) = Loop lex_reader_number.b1 (0, 0, U, ((U.length - us.length : Nat) : Int), w, 0) := by
        unfold lex_reader_number
        rw [ht]; rfl
      simp only [numS, if_pos h1, e]
      cases hfg : figS 6 true 0 us with
      | ok v r =>
        rw [hfg] at hf
        exact ⟨hf.1, hf.2.1.trans (List.suffix_cons u us), hf.2.2.1, hf.2.2.2.1, by have := hf.2.2.2.2; simp; omega⟩
      | err c r =>
        rw [hfg] at hf
        exact ⟨hf.1, hf.2.1.trans (List.suffix_cons u us), hf.2.2⟩
    · exact bad (by unfold lex_reader_number_1 sgn; simp [h1]) (by simp only [numS, if_neg h1]; rfl)
/-! ### letters -/
def spec (n : Int) : Bool := n == 91 || n == 93 || n == 45 || n == 92
def plainL (n : Int) : Bool := decide (n ≥ 32) && !(n == 91 || n == 93 || n == 45)
def letterS : List TUnit → Pr Int
  | [] => .err 7 []
  | u :: us => if plainL (su u) then
      if su u = 92 then match us with
        | [] => .err 7 []
        | u2 :: us2 => if su u2 = 120 then numS us2 else if spec (su u2) then .ok (su u2) us2 else .err 6 (u2 :: us2)
      else .ok (su u) us
    else .err 6 (u :: us)
theorem any3 (n : Int) : lex_one ([91, 93, 45] : Str) n = some (n == 91 || n == 93 || n == 45) := by
  rw [one_eq (by decide)]
  have e : ∀ c : Int, (c == n) = (n == c) := fun c => Bool.beq_comm
  show some (((91 : Int) == n) || (((93 : Int) == n) || (((45 : Int) == n) || false))) = _
  simp only [e, Bool.or_false, Bool.or_assoc]
theorem any4 (n : Int) : lex_one ([91, 93, 45, 92] : Str) n = some (spec n) := by
  rw [one_eq (by decide)]
  have e : ∀ c : Int, (c == n) = (n == c) := fun c => Bool.beq_comm
  show some (((91 : Int) == n) || (((93 : Int) == n) || (((45 : Int) == n) || (((92 : Int) == n) || false)))) = _
  simp only [e, spec, Bool.or_false, Bool.or_assoc]
theorem l1_eq (n : Int) : lex_reader_letter_1 n = some (plainL n) := by
  unfold lex_reader_letter_1 plainL
  rw [any3]
  cases decide (n ≥ 32) <;> rfl
theorem l2_eq (n : Int) : lex_reader_letter_2 n = some (n == 120 || spec n) := by
  unfold lex_reader_letter_2
  rw [any4]
  cases (n == 120) <;> rfl
theorem letter_spec (hF : Fine U) (h : us <:+ U) : match letterS us with
    | .ok v r => lex_reader_letter (rd U w us 0) = some (v, rd U w r 0) ∧ r <:+ us ∧ 0 ≤ v ∧ v < 16777216 ∧ r.length < us.length
    | .err c r => (∃ v, lex_reader_letter (rd U w us 0) = some (v, rd U w r c)) ∧ r <:+ us ∧ c ≠ 0 := by
  have bad : lex_reader_letter_1 (sgn us) = some false → ∃ v, lex_reader_letter (rd U w us 0) = some (v, rd U w us (odd us)) := fun hp => by
    have hc : odd us ≠ 0 := by unfold odd; split <;> decide
    refine ⟨0, ?_⟩
    unfold lex_reader_letter
    rw [take_no hF h hp, Option.bind_some, if_pos (by simp)]
  cases us with
  | nil => exact ⟨bad rfl, List.suffix_rfl, by decide⟩
  | cons u us =>
    cases h1 : plainL (su u) with
    | false =>
      simp only [letterS, h1, Bool.false_eq_true, if_false]
      exact ⟨bad (by rw [l1_eq]; simp only [sgn, h1]), List.suffix_rfl, by decide⟩
    | true =>
      have ht := take_yes (w := w) (p := lex_reader_letter_1) hF h (by rw [l1_eq, h1])
      have hu := hF.one h
      have hb : 0 ≤ su u ∧ su u < 16777216 := by
        have : su u ≥ 32 := by simp [plainL] at h1; omega
        have h2 : su u ≤ 1114111 := by unfold su; split <;> omega
        omega
      simp only [letterS, h1, if_true]
      by_cases h92 : su u = 92
      · rw [if_pos h92]
        have hs := suf_tail h
        have e : lex_reader_letter (rd U w (u :: us) 0) = (lex_reader_take (rd U w us 0) lex_reader_letter_2).bind fun r2 => if (r2.1 != (120 : Int)) then some (r2.1, r2.2) else (lex_reader_number r2.2).bind fun r3 => some (r3.1, r3.2) := by
          unfold lex_reader_letter
          rw [ht, Option.bind_some, if_neg (by simp [h92, rd])]
        rw [e]
        cases us with
        | nil =>
          refine ⟨⟨0, ?_⟩, List.suffix_cons _ _, by decide⟩
          rw [take_no hF hs (by rw [l2_eq]; rfl)]; rfl
        | cons u2 us2 =>
          simp only
          by_cases h120 : su u2 = 120
          · rw [if_pos h120, take_yes hF hs (by rw [l2_eq, h120]; rfl), Option.bind_some, if_neg (by simp [h120])]
            have hn := num_spec (w := w) hF (suf_tail hs)
            cases hnn : numS us2 with
            | ok v r =>
              rw [hnn] at hn
              exact ⟨by rw [hn.1]; rfl, hn.2.1.trans ((List.suffix_cons u2 us2).trans (List.suffix_cons u _)), hn.2.2.1, hn.2.2.2.1, by have := hn.2.2.2.2; simp; omega⟩
            | err c r =>
              rw [hnn] at hn
              obtain ⟨⟨v, hv⟩, h2, h3⟩ := hn
              exact ⟨⟨v, by rw [hv]; rfl⟩, h2.trans ((List.suffix_cons u2 us2).trans (List.suffix_cons u _)), h3⟩
          · rw [if_neg h120]
            cases hsp : spec (su u2) with
            | true =>
              simp only [if_true]
              rw [take_yes hF hs (by rw [l2_eq, hsp]; simp), Option.bind_some, if_pos (by simpa using h120)]
              refine ⟨rfl, (List.suffix_cons u2 us2).trans (List.suffix_cons u _), ?_, ?_, by simp; omega⟩
              · simp [spec] at hsp; omega
              · simp [spec] at hsp; omega
            | false =>
              simp only [Bool.false_eq_true, if_false]
              refine ⟨⟨0, ?_⟩, List.suffix_cons _ _, by decide⟩
              rw [take_no hF hs (by rw [l2_eq]; simp [sgn, h120, hsp])]; rfl
      · rw [if_neg h92]
        refine ⟨?_, List.suffix_cons u us, hb.1, hb.2, by simp⟩
        unfold lex_reader_letter
        rw [ht, Option.bind_some, if_pos (by simp [h92])]
/-! ### sets -/
def setS : Nat → List TRange → List TUnit → Pr (List TRange)
  | 0, _, us => .err 6 us
  | k + 1, acc, us => if sgn us = 93 then .ok acc us.tail else
    match letterS us with
    | .err c r => .err c r
    | .ok lo r1 => match (if sgn r1 = 45 then letterS r1.tail else .ok lo r1) with
      | .err c r => .err c r
      | .ok hi r2 => if lo > hi ∨ hi > 1114111 then .err 1 us else setS k (acc ++ [⟨lo, hi⟩]) r2
theorem set_spec (hF : Fine U) : ∀ (k : Nat) {us : List TUnit} (acc : List TRange), us <:+ U → us.length < k → (∀ x ∈ acc, Ok x) → acc.length + us.length ≤ 1048576 →
    match setS k acc us with
    | .ok l r => Loop lex_reader_set.b1 (acc, U, ((U.length - us.length : Nat) : Int), w, 0) = (ranges_Make l).bind (fun q => some (q.1, rd U w r 0)) ∧ r <:+ us ∧ r.length < us.length ∧ (∀ x ∈ l, Ok x) ∧ l.length ≤ 1048576
    | .err c r => Loop lex_reader_set.b1 (acc, U, ((U.length - us.length : Nat) : Int), w, 0) = some ([], rd U w r c) ∧ r <:+ us ∧ c ≠ 0
  | 0, us, acc, _, hk, _, _ => absurd hk (Nat.not_lt_zero _)
  | k + 1, us, acc, h, hk, ha, hl => by
    have hn : lex_reader_now ⟨U, ((U.length - us.length : Nat) : Int), w, 0⟩ = some (sgn us) := now_eq h
    simp only [setS]
    by_cases h93 : sgn us = 93
    · rw [if_pos h93]
      cases us with
      | nil => simp [sgn] at h93
      | cons u us =>
        have hs := rd_step hF h
        refine ⟨?_, List.suffix_cons u us, by simp, ha, by omega⟩
        refine Loop_end ?_
        simp only [lex_reader_set.b1]
        rw [hn, Option.bind_some, if_neg (by simp [h93])]
        unfold lex_reader_set.k1
        simp only [List.tail_cons, rd, hs]
    · rw [if_neg h93]
      have hlt := letter_spec (w := w) hF h
      have hb : ∀ y, lex_reader_letter (rd U w us 0) = some y → lex_reader_set.b1 (acc, U, ((U.length - us.length : Nat) : Int), w, 0) =
          ((lex_reader_now y.2).bind fun r4 => if (r4 == (45 : Int)) then some (y.2.fault == (0 : Int)) else some false).bind fun v => if v then
            (lex_reader_letter (Tlex_reader.mk y.2.units (IntKind.i64.wrap (y.2.place + (1 : Int))) y.2.whole y.2.fault)).bind fun r5 => lex_reader_set.k2 acc ((U.length - us.length : Nat) : Int) y r5.1 r5.2.units r5.2.place r5.2.whole r5.2.fault
          else lex_reader_set.k2 acc ((U.length - us.length : Nat) : Int) y y.1 y.2.units y.2.place y.2.whole y.2.fault := fun y hy => by
        simp only [lex_reader_set.b1]
        rw [hn, Option.bind_some, if_pos (by simpa using h93)]
        simp only [rd] at hy
        rw [hy]; rfl
      cases hls : letterS us with
      | err c r =>
        rw [hls] at hlt
        obtain ⟨⟨v, hv⟩, hr, hc⟩ := hlt
        refine ⟨Loop_done ?_, hr, hc⟩
        rw [hb _ hv]
        have hnr := now_eq (w := w) (f := c) (hr.trans h)
        have hc' : (c == (0 : Int)) = false := by simpa using hc
        simp only [rd] at hnr ⊢
        rw [hnr, Option.bind_some, hc']
        rw [show (if (sgn r == (45 : Int)) = true then some false else some false) = some false by split <;> rfl, Option.bind_some, if_neg (by simp)]
        unfold lex_reader_set.k2
        rw [if_pos (by simpa using hc)]
      | ok lo r1 =>
        rw [hls] at hlt
        obtain ⟨hv, hr, hlo0, hlo1, hrl⟩ := hlt
        have hr1 := hr.trans h
        have hnr := now_eq (w := w) (f := 0) hr1
        -- what stands behind the letters
        have fin : ∀ (hi : Int) (r2 : List TUnit), r2 <:+ us → r2.length < us.length → 0 ≤ hi →
            lex_reader_set.b1 (acc, U, ((U.length - us.length : Nat) : Int), w, 0) = lex_reader_set.k2 acc ((U.length - us.length : Nat) : Int) (lo, rd U w r1 0) hi U ((U.length - r2.length : Nat) : Int) w 0 →
            match (if lo > hi ∨ hi > 1114111 then Pr.err 1 us else setS k (acc ++ [⟨lo, hi⟩]) r2) with
            | .ok l r => Loop lex_reader_set.b1 (acc, U, ((U.length - us.length : Nat) : Int), w, 0) = (ranges_Make l).bind (fun q => some (q.1, rd U w r 0)) ∧ r <:+ us ∧ r.length < us.length ∧ (∀ x ∈ l, Ok x) ∧ l.length ≤ 1048576
            | .err c r => Loop lex_reader_set.b1 (acc, U, ((U.length - us.length : Nat) : Int), w, 0) = some ([], rd U w r c) ∧ r <:+ us ∧ c ≠ 0 := fun hi r2 hs2 hl2 hh0 he => by
          by_cases hbad : lo > hi ∨ hi > 1114111
          · rw [if_pos hbad]
            refine ⟨Loop_done ?_, List.suffix_rfl, by decide⟩
            rw [he]
            unfold lex_reader_set.k2
            rw [if_neg (by simp), if_pos (by simpa using hbad)]; rfl
          · rw [if_neg hbad]
            have ih := set_spec hF k (us := r2) (acc ++ [⟨lo, hi⟩]) (hs2.trans h) (by omega) (fun x hx => by
              rcases List.mem_append.1 hx with hx | hx
              · exact ha x hx
              · rw [List.mem_singleton.1 hx]; unfold Ok; exact ⟨hlo0, by show lo ≤ hi; omega, by show hi ≤ 1114111; omega⟩) (by simp; omega)
            have hstep : Loop lex_reader_set.b1 (acc, U, ((U.length - us.length : Nat) : Int), w, 0) = Loop lex_reader_set.b1 (acc ++ [⟨lo, hi⟩], U, ((U.length - r2.length : Nat) : Int), w, 0) := by
              refine Loop_next ?_
              rw [he]
              unfold lex_reader_set.k2
              rw [if_neg (by simp), if_neg (by simpa using hbad), room_ok (by omega)]; rfl
            rw [hstep]
            cases hsk : setS k (acc ++ [⟨lo, hi⟩]) r2 with
            | ok l r =>
              rw [hsk] at ih
              exact ⟨ih.1, ih.2.1.trans hs2, by have := ih.2.2.1; omega, ih.2.2.2⟩
            | err c r =>
              rw [hsk] at ih
              exact ⟨ih.1, ih.2.1.trans hs2, ih.2.2⟩
        simp only
        by_cases h45 : sgn r1 = 45
        · rw [if_pos h45]
          cases r1 with
          | nil => simp [sgn] at h45
          | cons u2 us2 =>
            have hs := rd_step hF hr1
            have hlt2 := letter_spec (w := w) hF (suf_tail hr1)
            have hb2 : lex_reader_set.b1 (acc, U, ((U.length - us.length : Nat) : Int), w, 0) = (lex_reader_letter (rd U w us2 0)).bind fun r5 => lex_reader_set.k2 acc ((U.length - us.length : Nat) : Int) (lo, rd U w (u2 :: us2) 0) r5.1 r5.2.units r5.2.place r5.2.whole r5.2.fault := by
              rw [hb _ hv]
              rw [hnr, Option.bind_some, if_pos (by simpa using h45)]
              simp only [rd, hs]
              rfl
            simp only [List.tail_cons]
            cases hls2 : letterS us2 with
            | err c r =>
              rw [hls2] at hlt2
              obtain ⟨⟨v, hv2⟩, hr2, hc⟩ := hlt2
              refine ⟨Loop_done ?_, hr2.trans ((List.suffix_cons u2 us2).trans hr), hc⟩
              rw [hb2, hv2, Option.bind_some]
              unfold lex_reader_set.k2
              rw [if_pos (by simpa [rd] using hc)]
            | ok hi r2 =>
              rw [hls2] at hlt2
              obtain ⟨hv2, hr2, hh0, _, hrl2⟩ := hlt2
              exact fin hi r2 (hr2.trans ((List.suffix_cons u2 us2).trans hr)) (by simp at hrl; omega) hh0 (by rw [hb2, hv2, Option.bind_some]; rfl)
        · rw [if_neg h45]
          exact fin lo r1 hr hrl hlo0 (by
            rw [hb _ hv, hnr, Option.bind_some, if_neg (by simpa using h45)]; rfl)
end Go.Val

/- part Q23 -/
/- Plain lemmas: bytes as units: where these stand. -/
namespace Go.Val
set_option linter.unusedVariables false
set_option linter.unusedSimpArgs false
theorem uMore_len : ∀ {n : Nat} {l : List UInt8} {r q : Nat}, uMore n l r = some q → n ≤ l.length
  | 0, _, _, _, _ => Nat.zero_le _
  | n + 1, [], _, _, h => by simp [uMore] at h
  | n + 1, c :: l, r, q, h => by
    simp only [uMore] at h
    split at h
    · have := uMore_len h; simp; omega
    · cases h
/-- What a unit is: a byte that is none; or a code point of so many bytes. -/
inductive UnitOf (at_ : Nat) (c : UInt8) (l : List UInt8) : TUnit → Prop
  | bad : UnitOf at_ c l ⟨65533, at_, 1, true⟩
  | good (n r q : Nat) : uHead c.toNat = (n + 1, r) → uMore n l r = some q → uRight q = true → uWidth q = n + 1 → UnitOf at_ c l ⟨q, at_, (n + 1 : Nat), false⟩
theorem uFirst_of (at_ : Nat) (c : UInt8) (l : List UInt8) : UnitOf at_ c l (uFirst at_ (c :: l)) := by
  simp only [uFirst]
  split
  · exact .bad
  · rename_i n r hh
    split
    · rename_i q hq
      split
      · rename_i hg
        rw [Bool.and_eq_true] at hg
        exact .good n r q hh hq hg.1 (eq_of_beq hg.2)
      · exact .bad
    · exact .bad
theorem UnitOf.at_ {a : Nat} {c : UInt8} {l : List UInt8} {u : TUnit} (h : UnitOf a c l u) : u.At = a := by cases h <;> rfl
theorem UnitOf.width {a : Nat} {c : UInt8} {l : List UInt8} {u : TUnit} (h : UnitOf a c l u) : ∃ w : Nat, u.Width = w ∧ 1 ≤ w ∧ w ≤ l.length + 1 := by
  cases h with
  | bad => exact ⟨1, rfl, by omega, by omega⟩
  | good n r q h1 h2 h3 h4 => exact ⟨n + 1, rfl, by omega, by have := uMore_len h2; omega⟩
theorem UnitOf.rune {a : Nat} {c : UInt8} {l : List UInt8} {u : TUnit} (h : UnitOf a c l u) : 0 ≤ u.Rune ∧ u.Rune ≤ 1114111 := by
  cases h with
  | bad => exact ⟨(by decide : (0 : Int) ≤ 65533), (by decide : (65533 : Int) ≤ 1114111)⟩
  | good n r q h1 h2 h3 h4 => simp [uRight] at h3; exact ⟨by show (0 : Int) ≤ q; omega, by show (q : Int) ≤ 1114111; omega⟩
/-- A code point below 128 is its byte. -/
theorem UnitOf.ascii {a : Nat} {c : UInt8} {l : List UInt8} {u : TUnit} (h : UnitOf a c l u) (hb : u.Bad = false) (hr : u.Rune < 128) : u.Width = 1 ∧ u.Rune = c.toNat := by
  cases h with
  | bad => cases hb
  | good n r q h1 h2 h3 h4 =>
    have hq : q < 128 := by have : (q : Int) < 128 := hr; omega
    have hn : n = 0 := by unfold uWidth at h4; rw [if_pos hq] at h4; omega
    subst hn
    simp only [uMore, Option.some.injEq] at h2
    subst h2
    refine ⟨rfl, ?_⟩
    show (r : Int) = _
    unfold uHead at h1
    split at h1
    · cases h1; rfl
    split at h1
    · cases h1
    split at h1
    · cases h1
    split at h1 <;> cases h1
/-- A byte below 128 is a unit. -/
theorem uFirst_ascii (a : Nat) {c : UInt8} (l : List UInt8) (h : c.toNat < 128) : uFirst a (c :: l) = ⟨c.toNat, a, 1, false⟩ := by
  have e : uHead c.toNat = (1, c.toNat) := by unfold uHead; rw [if_pos h]
  have h1 : uRight c.toNat = true := by simp [uRight]; omega
  have h2 : uWidth c.toNat = 1 := by unfold uWidth; rw [if_pos h]
  simp only [uFirst, e, uMore, h1, h2]
  rfl
/-- The units from a place on. -/
inductive From (b : List UInt8) : Nat → List TUnit → Prop
  | nil : From b b.length []
  | cons (a w : Nat) (u : TUnit) (us : List TUnit) : a < b.length → u = uFirst a (b.drop a) → u.Width = w → From b (a + w) us → From b a (u :: us)
theorem unit_at {b : List UInt8} {a : Nat} (h : a < b.length) : UnitOf a b[a] (b.drop (a + 1)) (uFirst a (b.drop a)) := by
  rw [List.drop_eq_getElem_cons h]; exact uFirst_of _ _ _
theorem from_units (b : List UInt8) : ∀ (k a : Nat), a ≤ b.length → b.length - a ≤ k → From b a (uUnits k a (b.drop a))
  | k, a, ha, hk => by
    by_cases h : a = b.length
    · subst h
      rw [List.drop_length]
      cases k <;> exact .nil
    · have hlt : a < b.length := by omega
      obtain ⟨k, rfl⟩ : ∃ j, k = j + 1 := ⟨k - 1, by omega⟩
      obtain ⟨w, hw, h1, h2⟩ := (unit_at hlt).width
      rw [List.length_drop] at h2
      have e : uUnits (k + 1) a (b.drop a) = uFirst a (b.drop a) :: uUnits k (a + w) (b.drop (a + w)) := by
        conv => lhs; rw [List.drop_eq_getElem_cons hlt]
        simp only [uUnits]
        rw [← List.drop_eq_getElem_cons hlt, hw, List.drop_drop, Int.toNat_natCast]
      rw [e]
      exact .cons a w _ _ hlt rfl hw (from_units b k (a + w) (by omega) (by omega))
theorem from_all (b : List UInt8) : From b 0 (units b) := from_units b b.length 0 (Nat.zero_le _) (by omega)
theorem From.suf {b : List UInt8} {a : Nat} {us : List TUnit} (h : From b a us) : ∀ {vs : List TUnit}, vs <:+ us → ∃ a', a ≤ a' ∧ From b a' vs := by
  induction h with
  | nil => intro vs hv; rw [List.suffix_nil.1 hv]; exact ⟨_, Nat.le_refl _, .nil⟩
  | cons a w u us h1 h2 h3 h4 ih =>
    intro vs hv
    rcases List.suffix_cons_iff.1 hv with rfl | hv
    · exact ⟨a, Nat.le_refl _, .cons a w u us h1 h2 h3 h4⟩
    · obtain ⟨a', h5, h6⟩ := ih hv
      exact ⟨a', by omega, h6⟩
theorem From.le {b : List UInt8} {a : Nat} {us : List TUnit} (h : From b a us) : a ≤ b.length := by
  cases h with
  | nil => exact Nat.le_refl _
  | cons _ w u us h1 h2 h3 h4 => omega
theorem From.at_eq {b : List UInt8} {a : Nat} {us : List TUnit} (h : From b a us) : atU b.length us = a := by
  cases h with
  | nil => rfl
  | cons _ w u us h1 h2 h3 h4 => rw [h2]; exact (unit_at h1).at_
theorem From.head {b : List UInt8} {a : Nat} {u : TUnit} {us : List TUnit} (h : From b a (u :: us)) : ∃ (hlt : a < b.length), UnitOf a b[a] (b.drop (a + 1)) u ∧ ∃ w : Nat, u.Width = w ∧ 1 ≤ w ∧ From b (a + w) us := by
  cases h with
  | cons _ w _ _ h1 h2 h3 h4 =>
    have hu := unit_at h1
    rw [← h2] at hu
    obtain ⟨w', hw, h5, _⟩ := hu.width
    rw [h3] at hw
    exact ⟨h1, hu, w, h3, by omega, h4⟩
theorem From.len {b : List UInt8} {a : Nat} {us : List TUnit} (h : From b a us) : a + us.length ≤ b.length := by
  induction h with
  | nil => simp
  | cons a w u us h1 h2 h3 h4 ih =>
    obtain ⟨_, _, w', hw, h5, _⟩ := (From.cons a w u us h1 h2 h3 h4).head
    rw [h3] at hw
    simp only [List.length_cons]
    omega
theorem From.runes {b : List UInt8} {a : Nat} {us : List TUnit} (h : From b a us) : ∀ u ∈ us, 0 ≤ u.Rune ∧ u.Rune ≤ 1114111 := by
  induction h with
  | nil => simp
  | cons a w u us h1 h2 h3 h4 ih =>
    intro v hv
    rcases List.mem_cons.1 hv with rfl | hv
    · rw [h2]; exact (unit_at h1).rune
    · exact ih v hv
theorem fine_units {b : List UInt8} (h : b.length ≤ 1048576) : Fine (units b) := ⟨by have := (from_all b).len; omega, (from_all b).runes⟩
/-- The units are told by the bytes. -/
theorem From.eq {b : List UInt8} {a : Nat} {us vs : List TUnit} (h : From b a us) : From b a vs → us = vs := by
  induction h generalizing vs with
  | nil =>
    intro g
    cases g with
    | nil => rfl
    | cons _ w u us h1 h2 h3 h4 => omega
  | cons a w u us h1 h2 h3 h4 ih =>
    intro g
    cases g with
    | nil => omega
    | cons _ w' u' us' g1 g2 g3 g4 =>
      have e : u = u' := by rw [h2, g2]
      subst e
      rw [g3] at h3
      have : w' = w := by omega
      subst this
      rw [ih g4]
end Go.Val

/- part Q24 -/
/- Plain lemmas: the tokens of a text, as the program reads them. -/
namespace Go.Val
set_option linter.unusedVariables false
set_option linter.unusedSimpArgs false
noncomputable section
variable {U us : List TUnit} {w f : Int}
/-- The set of ranges that are some. -/
def setOf (l : List TRange) : List TRange := ((ranges_Make l).getD ([], 0)).1
theorem setOf_make {l : List TRange} (hok : ∀ x ∈ l, Ok x) (hl : l.length ≤ 1048576) : ranges_Make l = some (setOf l, 0) ∧ Norm (setOf l) ∧ ∀ t, In (setOf l) t ↔ In l t := by
  obtain ⟨out, h1, h2, h3, _⟩ := Make_ok hok (by omega)
  have : setOf l = out := by unfold setOf; rw [h1]; rfl
  rw [this]
  exact ⟨h1, h2, h3⟩
theorem setOf_norm {l : List TRange} (h : Norm l) (hl : l.length ≤ 1048576) : setOf l = l := by
  obtain ⟨_, h2, h3⟩ := setOf_make h.1 hl
  exact Norm.unique h2 h h3
def lowB (n : Int) : Bool := decide (n ≥ 97) && decide (n ≤ 122)
def goesB (n : Int) : Bool := lowB n || (decide (n ≥ 48) && decide (n ≤ 57)) || n == 95
def signB (n : Int) : Bool := ([61, 59, 47, 124, 42, 43, 63, 40, 41, 46, 126, 38, 45] : List Int).any fun c => c == n
theorem goes_eq (n : Int) : lex_goes n = some (goesB n) := by
  unfold lex_goes lex_lower goesB lowB
  cases h1 : decide (n ≥ 97) <;> cases h2 : decide (n ≤ 122) <;> cases h3 : decide (n ≥ 48) <;> cases h4 : decide (n ≤ 57) <;> simp [h3, h4]
theorem tok1_eq (n : Int) : lex_reader_token_1 n = some (lowB n || n == 91 || signB n) := by
  unfold lex_reader_token_1 lex_lower
  rw [one_eq (by decide)]
  have e : (([61, 59, 47, 124, 42, 43, 63, 40, 41, 46, 126, 38, 45] : Str).any fun c => (c.toNat : Int) == n) = signB n := rfl
  rw [e]
  have e2 : (decide (n ≥ 97) && decide (n ≤ 122)) = lowB n := rfl
  rw [e2]
  cases lowB n <;> cases h : (n == 91) <;> cases signB n <;> simp [h]
def cutB (b : List UInt8) (lo hi : Int) : List UInt8 := List.drop (Int.toNat lo) (List.take (Int.toNat hi) b)
/-- One token, ahead. -/
def tokS (b : List UInt8) : List TUnit → Pr TToken
  | [] => .err 7 []
  | u :: us => if su u = 91 then match setS (us.length + 1) [] us with
      | .ok l r => .ok ⟨3, u.At, [], setOf l⟩ r
      | .err c r => .err c r
    else if lowB (su u) then .ok ⟨1, u.At, cutB b u.At (atU b.length (us.dropWhile fun u => goesB (su u))), []⟩ (us.dropWhile fun u => goesB (su u))
    else if signB (su u) then .ok ⟨2, u.At, cutB b u.At (atU b.length us), []⟩ us
    else .err 6 (u :: us)
def tkS (b : List UInt8) : Nat → List TUnit → Pr (List TToken)
  | 0, us => .err 6 us
  | k + 1, us => if us.isEmpty then .ok [] [] else match tokS b us with
    | .err c r => .err c r
    | .ok t r => match tkS b k (blk false r) with
      | .err c r => .err c r
      | .ok ts r => .ok (t :: ts) r
/-- A text's tokens; or the error, and where. -/
def Tk (b : List UInt8) : List TToken × Int × Int :=
  match tkS b (b.length + 1) (blk false (units b)) with
  | .ok ts _ => (ts ++ [⟨4, b.length, [], []⟩], 0, 0)
  | .err c r => ([], atU b.length r, c)
variable {b : List UInt8}
/-- Where a piece of the units begins. -/
theorem at_suf (h : us <:+ units b) : ∃ a : Nat, From b a us ∧ atU b.length us = a := by
  obtain ⟨a, _, h1⟩ := (from_all b).suf h
  exact ⟨a, h1, h1.at_eq⟩
theorem From.mono {a a' : Nat} {vs : List TUnit} (h : From b a us) (h2 : vs <:+ us) (h3 : From b a' vs) : a ≤ a' := by
  obtain ⟨a2, h4, h5⟩ := h.suf h2
  have : a2 = a' := by have e1 := h5.at_eq; have e2 := h3.at_eq; rw [e1] at e2; exact_mod_cast e2
  omega
theorem cut_ok {lo hi : Nat} (h1 : lo ≤ hi) (h2 : hi ≤ b.length) : cut b (lo : Int) (hi : Int) = some (cutB b lo hi) := by
  unfold cut cutB
  rw [if_pos ⟨by omega, by omega, by omega, by simp; omega⟩]
theorem token_spec (hF : Fine (units b)) {u : TUnit} (h : (u :: us) <:+ units b) : match tokS b (u :: us) with
    | .ok t r => lex_reader_token (rd (units b) b.length (u :: us) 0) b = some (t, rd (units b) b.length r 0) ∧ r <:+ us
    | .err c r => (∃ t, lex_reader_token (rd (units b) b.length (u :: us) 0) b = some (t, rd (units b) b.length r c)) ∧ r <:+ (u :: us) ∧ c ≠ 0 := by
  obtain ⟨a, hfr, hat⟩ := at_suf h
  have hua : u.At = a := hat
  have hs := suf_tail h
  -- a token's text
  have text : ∀ (k : Int) (r : List TUnit) (f : Int), r <:+ (u :: us) → lex_reader_token.k1 b u.At k (units b) (((units b).length - r.length : Nat) : Int) b.length f = some (⟨k, u.At, cutB b u.At (atU b.length r), []⟩, rd (units b) b.length r f) := fun k r f hr => by
    obtain ⟨a', hfr', hat'⟩ := at_suf (hr.trans h)
    have hle := hfr.mono hr hfr'
    unfold lex_reader_token.k1
    have := at_eq (w := b.length) (f := f) (hr.trans h)
    simp only [rd] at this ⊢
    rw [this, Option.bind_some, hat', hua, cut_ok hle hfr'.le]
    rfl
  have hat0 : lex_reader_at (rd (units b) b.length (u :: us) 0) = some u.At := at_eq h
  by_cases h91 : su u = 91
  · have ht := take_yes (w := b.length) (p := lex_reader_token_1) hF h (by rw [tok1_eq, h91]; rfl)
    have hset := set_spec (w := b.length) hF (us.length + 1) (us := us) [] hs (by omega) (by simp) (by have := suf_len hs; have := hF.1; simp; omega)
    have e : lex_reader_token (rd (units b) b.length (u :: us) 0) b = (Loop lex_reader_set.b1 ([], units b, (((units b).length - us.length : Nat) : Int), b.length, 0)).bind fun r4 => some (⟨3, u.At, [], r4.1⟩, r4.2) := by
      unfold lex_reader_token
      rw [hat0, Option.bind_some, ht, Option.bind_some, if_pos (by simp [h91])]
      rfl
    simp only [tokS, if_pos h91, e]
    cases hss : setS (us.length + 1) [] us with
    | ok l r =>
      rw [hss] at hset
      obtain ⟨g1, g2, g3, g4, g5⟩ := hset
      rw [g1, (setOf_make g4 g5).1]
      exact ⟨rfl, g2⟩
    | err c r =>
      rw [hss] at hset
      obtain ⟨g1, g2, g3⟩ := hset
      rw [g1]
      exact ⟨⟨_, rfl⟩, g2.trans (List.suffix_cons u us), g3⟩
  · simp only [tokS, if_neg h91]
    cases hlow : lowB (su u) with
    | true =>
      have ht := take_yes (w := b.length) (p := lex_reader_token_1) hF h (by rw [tok1_eq, hlow]; rfl)
      simp only [if_true]
      have hsk := skip_rd (w := (b.length : Int)) (f := 0) hF goes_eq (by rfl) hs
      refine ⟨?_, List.dropWhile_suffix _⟩
      unfold lex_reader_token
      rw [hat0, Option.bind_some, ht, Option.bind_some, if_neg (by simpa using h91)]
      have hl : lex_lower (su u) = some (lowB (su u)) := rfl
      rw [hl, Option.bind_some, hlow, if_pos rfl, hsk, Option.bind_some]
      exact text 1 _ 0 ((List.dropWhile_suffix _).trans (List.suffix_cons u us))
    | false =>
      simp only [Bool.false_eq_true, if_false]
      have hl : lex_lower (su u) = some (lowB (su u)) := rfl
      cases hsg : signB (su u) with
      | true =>
        have ht := take_yes (w := b.length) (p := lex_reader_token_1) hF h (by rw [tok1_eq, hlow, hsg]; simp)
        simp only [if_true]
        refine ⟨?_, List.suffix_rfl⟩
        unfold lex_reader_token
        rw [hat0, Option.bind_some, ht, Option.bind_some, if_neg (by simpa using h91), hl, Option.bind_some, hlow, if_neg (by simp)]
        exact text 2 us 0 (List.suffix_cons u us)
      | false =>
        have ht := take_no (w := b.length) (p := lex_reader_token_1) hF h (by rw [tok1_eq]; simp [sgn, hlow, hsg, h91])
        simp only [Bool.false_eq_true, if_false]
        refine ⟨⟨⟨2, u.At, cutB b u.At (atU b.length (u :: us)), []⟩, ?_⟩, List.suffix_rfl, by decide⟩
        unfold lex_reader_token
        rw [hat0, Option.bind_some, ht, Option.bind_some, if_neg (by simp)]
        have hl0 : lex_lower 0 = some false := rfl
        simp only [hl0, Option.bind_some, Bool.false_eq_true, if_false]
        exact text 2 (u :: us) 6 List.suffix_rfl
theorem blk_len (us : List TUnit) : (blk false us).length ≤ us.length := (blk_suf false us).length_le
theorem toks_spec (hF : Fine (units b)) : ∀ (k : Nat) {us : List TUnit} (out : List TToken), us <:+ units b → us.length < k → out.length + us.length ≤ 1048576 →
    Loop (lex_Tokens.b1 b) (out, units b, (((units b).length - us.length : Nat) : Int), b.length, 0) = some (match tkS b k us with
      | .ok ts _ => (out ++ ts ++ [⟨4, b.length, [], []⟩], 0, 0)
      | .err c r => ([], atU b.length r, c))
  | 0, us, out, _, hk, _ => absurd hk (Nat.not_lt_zero _)
  | k + 1, us, out, h, hk, hl => by
    have hn : lex_reader_now ⟨units b, (((units b).length - us.length : Nat) : Int), b.length, 0⟩ = some (sgn us) := now_eq h
    cases us with
    | nil =>
      simp only [tkS, List.isEmpty_nil, if_true, List.append_nil]
      refine Loop_done ?_
      simp only [lex_Tokens.b1]
      rw [hn, Option.bind_some, if_neg (by simp [sgn])]
      unfold lex_Tokens.k1
      rw [room_ok (by simp at hl; omega)]; rfl
    | cons u us =>
      have hne := su_ne hF h
      have hts := token_spec hF h
      simp only [tkS, List.isEmpty_cons, Bool.false_eq_true, if_false]
      have hb : ∀ y, lex_reader_token (rd (units b) b.length (u :: us) 0) b = some y → lex_Tokens.b1 b (out, units b, (((units b).length - (u :: us).length : Nat) : Int), b.length, 0) =
          if (y.2.fault != (0 : Int)) then (lex_reader_at y.2).bind fun r4 => some (Step.done (([] : List TToken), r4, y.2.fault)) else (lex_reader_blank y.2).bind fun r5 => some (Step.next ((out ++ ([y.1])), r5.units, r5.place, r5.whole, r5.fault)) := fun y hy => by
        simp only [lex_Tokens.b1]
        rw [hn, Option.bind_some, if_pos (by simpa [sgn] using hne)]
        simp only [rd] at hy
        rw [hy, Option.bind_some, room_ok (by simp at hl; omega)]; rfl
      cases htk : tokS b (u :: us) with
      | err c r =>
        rw [htk] at hts
        obtain ⟨⟨t, ht⟩, hr, hc⟩ := hts
        refine Loop_done ?_
        rw [hb _ ht, if_pos (by simpa [rd] using hc), at_eq (hr.trans h)]; rfl
      | ok t r =>
        rw [htk] at hts
        obtain ⟨ht, hr⟩ := hts
        have hr' := hr.trans (suf_tail h)
        have hlr := hr.length_le
        have hlb := blk_len r
        have hstep : Loop (lex_Tokens.b1 b) (out, units b, (((units b).length - (u :: us).length : Nat) : Int), b.length, 0) = Loop (lex_Tokens.b1 b) (out ++ [t], units b, (((units b).length - (blk false r).length : Nat) : Int), b.length, 0) := by
          refine Loop_next ?_
          rw [hb _ ht, if_neg (by simp [rd]), blank_eq hF hr']; rfl
        rw [hstep, toks_spec hF k (us := blk false r) (out ++ [t]) ((blk_suf false r).trans hr') (by simp at hk; omega) (by simp at hl ⊢; omega)]
        simp only
        cases htk2 : tkS b k (blk false r) with
        | err c r => rfl
        | ok ts r => simp
/-- The program's tokens. -/
theorem Tokens_eq (hl : b.length ≤ 65536) : lex_Tokens b = some (Tk b) := by
  have hF := fine_units (b := b) (by omega)
  unfold lex_Tokens
  rw [if_neg (by simp; omega)]
  have hd : utf_Decode b = some (units b) := by unfold utf_Decode; rw [if_pos (by omega)]
  have hul := (from_all b).len
  have hbl := blank_eq (w := (b.length : Int)) (f := 0) hF (us := units b) List.suffix_rfl
  simp only [rd, Nat.sub_self, Int.natCast_zero] at hbl
  have hz : ((0 : Nat) : Int) = 0 := rfl
  rw [hd, Option.bind_some, hbl, Option.bind_some]
  have hlb := blk_len (units b)
  rw [toks_spec hF (b.length + 1) (us := blk false (units b)) [] (blk_suf false _) (by omega) (by simp; omega)]
  unfold Tk
  cases tkS b (b.length + 1) (blk false (units b)) <;> simp
end
end Go.Val

/- part Q26 -/
/- Plain lemmas: the reference's tokens are the program's. -/
namespace Go.Val
set_option linter.unusedVariables false
set_option linter.unusedSimpArgs false
noncomputable section
variable {U us : List TUnit} {b : List UInt8}
/-- Units of which a bad one is told as U+FFFD. -/
def Told (U : List TUnit) : Prop := ∀ u ∈ U, u.Bad = true → u.Rune = 65533
/-- Where a piece of the units stands. -/
def ix (U us : List TUnit) : Int := ((U.length - us.length : Nat) : Int)
theorem Told.one {u : TUnit} (hT : Told U) (h : (u :: us) <:+ U) (hb : u.Bad = true) : u.Rune = 65533 := hT u (h.subset (by simp)) hb
/-! ### blanks -/
end
end Go.Val

/- part Q27 -/
/- Plain lemmas: the reference's numbers, letters, sets. -/
namespace Go.Val
set_option linter.unusedVariables false
set_option linter.unusedSimpArgs false
noncomputable section
variable {U us : List TUnit} {b : List UInt8}
theorem letter_len (hF : Fine U) (h : us <:+ U) {v : Int} {r : List TUnit} (e : letterS us = .ok v r) : r <:+ us ∧ r.length < us.length ∧ 0 ≤ v := by
  have := letter_spec (w := 0) hF h
  rw [e] at this
  exact ⟨this.2.1, this.2.2.2.2, this.2.2.1⟩
end
end Go.Val

/- part Q28 -/
/- Plain lemmas: the reference's tokens are the program's. -/
namespace Go.Val
set_option linter.unusedVariables false
set_option linter.unusedSimpArgs false
noncomputable section
variable {us : List TUnit} {b : List UInt8}
def signs : Str := [61, 59, 47, 124, 42, 43, 63, 40, 41, 46, 126, 38, 45]
end
end Go.Val

/- part Q29 -/
/- Plain lemmas: the tokens' law. -/
namespace Go.Val
set_option linter.unusedVariables false
set_option linter.unusedSimpArgs false
noncomputable section
variable {us : List TUnit} {b : List UInt8}
/-- What a token is. -/
structure TokOk (b : List UInt8) (us : List TUnit) (t : TToken) (r : List TUnit) : Prop where
  suf : r <:+ us
  less : r.length < us.length
  norm : Norm t.Set
  at_ : t.At = atU b.length us
  kind : t.Kind = 1 ∧ lowB (sgn us) = true ∧ t.Text = cutB b t.At (atU b.length r) ∧ t.Set = [] ∧ r = us.tail.dropWhile (fun u => goesB (su u)) ∨ t.Kind = 2 ∧ signB (sgn us) = true ∧ t.Text = cutB b t.At (atU b.length r) ∧ t.Set = [] ∧ r = us.tail ∨ t.Kind = 3 ∧ sgn us = 91 ∧ t.Text = []
theorem norm_nil : Norm [] := ⟨by simp, List.Pairwise.nil⟩
theorem tok_ok (hl : b.length ≤ 1048576) (h : us <:+ units b) {t : TToken} {r : List TUnit} (e : tokS b us = .ok t r) : TokOk b us t r := by
  have hF := fine_units (b := b) hl
  cases us with
  | nil => simp [tokS] at e
  | cons u us =>
    have hs := suf_tail h
    simp only [tokS] at e
    by_cases h91 : su u = 91
    · rw [if_pos h91] at e
      have hset := set_spec (w := b.length) hF (us.length + 1) (us := us) [] hs (by omega) (by simp) (by have := suf_len hs; have := hF.1; simp; omega)
      cases hss : setS (us.length + 1) [] us with
      | err c r' => rw [hss] at e; cases e
      | ok l r' =>
        rw [hss] at e hset
        obtain ⟨g1, g2, g3, g4, g5⟩ := hset
        simp only [Pr.ok.injEq] at e
        obtain ⟨rfl, rfl⟩ := e
        exact ⟨g2.trans (List.suffix_cons u us), by simp; omega, (setOf_make g4 g5).2.1, rfl, .inr (.inr ⟨rfl, h91, rfl⟩)⟩
    · rw [if_neg h91] at e
      cases hlow : lowB (su u) with
      | true =>
        rw [hlow] at e
        simp only [if_true, Pr.ok.injEq] at e
        obtain ⟨rfl, rfl⟩ := e
        have hd := List.dropWhile_suffix (l := us) (fun u => goesB (su u))
        exact ⟨hd.trans (List.suffix_cons u us), by have := hd.length_le; simp; omega, norm_nil, rfl, .inl ⟨rfl, hlow, rfl, rfl, rfl⟩⟩
      | false =>
        rw [hlow] at e
        simp only [Bool.false_eq_true, if_false] at e
        cases hsg : signB (su u) with
        | true =>
          rw [hsg] at e
          simp only [if_true, Pr.ok.injEq] at e
          obtain ⟨rfl, rfl⟩ := e
          exact ⟨List.suffix_cons u us, by simp, norm_nil, rfl, .inr (.inl ⟨rfl, hsg, rfl, rfl, rfl⟩)⟩
        | false => rw [hsg] at e; cases e
/-- What is so of each token that is read. -/
theorem tks_all (hl : b.length ≤ 1048576) {P : TToken → Prop} (hP : ∀ {us t r}, us <:+ units b → TokOk b us t r → P t) : ∀ (k : Nat) {us : List TUnit}, us <:+ units b → ∀ {ts r}, tkS b k us = .ok ts r → (∀ t ∈ ts, P t) ∧ ts.length ≤ us.length
  | 0, us, _, _, _, e => by cases e
  | k + 1, us, h, ts, r, e => by
    simp only [tkS] at e
    cases us with
    | nil => simp at e; obtain ⟨rfl, rfl⟩ := e; simp
    | cons u us =>
      simp only [List.isEmpty_cons, Bool.false_eq_true, if_false] at e
      cases ht : tokS b (u :: us) with
      | err c r' => rw [ht] at e; cases e
      | ok t r' =>
        rw [ht] at e
        have hk := tok_ok hl h ht
        have hr := (blk_suf false r').trans (hk.suf.trans h)
        simp only at e
        cases ht2 : tkS b k (blk false r') with
        | err c r2 => rw [ht2] at e; cases e
        | ok ts2 r2 =>
          rw [ht2] at e
          simp only [Pr.ok.injEq] at e
          obtain ⟨rfl, rfl⟩ := e
          obtain ⟨h1, h2⟩ := tks_all hl hP k hr ht2
          have hlb := blk_len r'
          have := hk.less
          exact ⟨fun x hx => by rcases List.mem_cons.1 hx with rfl | hx; exact hP h hk; exact h1 x hx, by simp at this ⊢; omega⟩
theorem Tk_norm (hl : b.length ≤ 1048576) : (∀ t ∈ (Tk b).1, Norm t.Set) ∧ (Tk b).1.length ≤ b.length + 1 := by
  unfold Tk
  have hul := (from_all b).len
  have hlb := blk_len (units b)
  cases e : tkS b (b.length + 1) (blk false (units b)) with
  | err c r => simp
  | ok ts r =>
    obtain ⟨h1, h2⟩ := tks_all hl (P := fun t => Norm t.Set) (fun _ h => h.norm) _ (blk_suf false _) e
    refine ⟨fun t ht => ?_, by simp; omega⟩
    rcases List.mem_append.1 ht with ht | ht
    · exact h1 t ht
    · rw [List.mem_singleton.1 ht]; exact norm_nil
def bs7 : List UInt8 := [115, 101, 116, 32, 97, 32, 61, 32, 91, 97, 45, 99, 93, 59]
theorem Tk_bs7 : Tk bs7 = ([⟨1, 0, [115, 101, 116], []⟩, ⟨1, 4, [97], []⟩, ⟨2, 6, [61], []⟩, ⟨3, 8, [], setOf [⟨97, 99⟩]⟩, ⟨2, 13, [59], []⟩, ⟨4, 14, [], []⟩], 0, 0) := rfl
theorem awake7 : scansionlaw07_awake = some true := by
  have h : lex_Tokens bs7 = some (Tk bs7) := Tokens_eq (by decide)
  have hn : Norm [⟨97, 99⟩] := ⟨by intro x hx; rw [List.mem_singleton.1 hx]; unfold Ok; decide, by simp⟩
  rw [Tk_bs7, setOf_norm hn (by decide)] at h
  unfold scansionlaw07_awake
  have e : lex_Tokens ([(u8 (115 : Int)), (u8 (101 : Int)), (u8 (116 : Int)), (u8 (32 : Int)), (u8 (97 : Int)), (u8 (32 : Int)), (u8 (61 : Int)), (u8 (32 : Int)), (u8 (91 : Int)), (u8 (97 : Int)), (u8 (45 : Int)), (u8 (99 : Int)), (u8 (93 : Int)), (u8 (59 : Int))]) = lex_Tokens bs7 := rfl
  rw [e, h]
  rfl
end
end Go.Val

/- part Q30 -/
/- Plain lemmas: where tokens stand. -/
namespace Go.Val
set_option linter.unusedVariables false
set_option linter.unusedSimpArgs false
noncomputable section
variable {us : List TUnit} {b : List UInt8}
/-- What an error is. -/
def ErrOk {α : Type} : Pr α → Prop
  | .err c r => (c = 7 → r = []) ∧ (c = 6 → r ≠ [])
  | .ok _ _ => True
theorem err7 {α : Type} : ErrOk (Pr.err (α := α) 7 []) := ⟨fun _ => rfl, fun h => absurd h (by decide)⟩
theorem err6 {α : Type} {u : TUnit} : ErrOk (Pr.err (α := α) 6 (u :: us)) := ⟨fun h => absurd h (by decide), fun _ h => by cases h⟩
theorem err1 {α : Type} : ErrOk (Pr.err (α := α) 1 us) := ⟨fun h => absurd h (by decide), fun h => absurd h (by decide)⟩
theorem close_err (acc : Int) : ErrOk (closeS acc us) := by
  cases us with
  | nil => exact err7
  | cons u us => simp only [closeS]; split; exact trivial; exact err6
theorem fig_err : ∀ (k : Nat) (f : Bool) (acc : Int) (us : List TUnit), ErrOk (figS k f acc us)
  | 0, _, acc, us => close_err acc
  | k + 1, f, acc, [] => err7
  | k + 1, f, acc, u :: us => by
    simp only [figS]
    split
    · exact fig_err k _ _ us
    · split
      · exact err6
      · exact close_err acc
theorem numS_err : ErrOk (numS us) := by
  cases us with
  | nil => exact err7
  | cons u us => simp only [numS]; split; exact fig_err _ _ _ _; exact err6
theorem letterS_err : ErrOk (letterS us) := by
  cases us with
  | nil => exact err7
  | cons u us =>
    simp only [letterS]
    split
    · split
      · cases us with
        | nil => exact err7
        | cons u2 us2 =>
          simp only
          split
          · exact numS_err
          · split
            · exact trivial
            · exact err6
      · exact trivial
    · exact err6
theorem setS_err (hF : Fine (units b)) : ∀ (k : Nat) (acc : List TRange) {us : List TUnit}, us <:+ units b → us.length < k → ErrOk (setS k acc us)
  | 0, _, us, _, hk => absurd hk (Nat.not_lt_zero _)
  | k + 1, acc, us, h, hk => by
    simp only [setS]
    split
    · exact trivial
    · have e1 := letterS_err (us := us)
      cases h1 : letterS us with
      | err c r => rw [h1] at e1; exact e1
      | ok lo r1 =>
        obtain ⟨hr, hrl, _⟩ := letter_len hF h h1
        simp only
        have e2 : ErrOk (if sgn r1 = 45 then letterS r1.tail else .ok lo r1) := by
          split
          · exact letterS_err
          · exact trivial
        have l2 : ∀ hi r2, (if sgn r1 = 45 then letterS r1.tail else .ok lo r1) = .ok hi r2 → r2 <:+ r1 := fun hi r2 e => by
          split at e
          · exact ((letter_len hF ((List.tail_suffix r1).trans (hr.trans h)) e).1).trans (List.tail_suffix r1)
          · cases e; exact List.suffix_rfl
        cases h2 : (if sgn r1 = 45 then letterS r1.tail else Pr.ok lo r1) with
        | err c r => rw [h2] at e2; exact e2
        | ok hi r2 =>
          have hs := l2 hi r2 h2
          have := hs.length_le
          simp only
          split
          · exact err1
          · exact setS_err hF k _ (hs.trans (hr.trans h)) (by omega)
theorem tokS_err (hF : Fine (units b)) (h : us <:+ units b) : ErrOk (tokS b us) := by
  cases us with
  | nil => exact err7
  | cons u us =>
    simp only [tokS]
    split
    · have e := setS_err hF (us.length + 1) [] (suf_tail h) (by omega)
      cases h1 : setS (us.length + 1) [] us with
      | ok l r => exact trivial
      | err c r => rw [h1] at e; exact e
    · split
      · exact trivial
      · split
        · exact trivial
        · exact err6
theorem tkS_err (hl : b.length ≤ 1048576) : ∀ (k : Nat) {us : List TUnit}, us <:+ units b → us.length < k → ∀ {c r}, tkS b k us = .err c r → ErrOk (Pr.err (α := Unit) c r) ∧ r <:+ units b ∧ c ≠ 0
  | 0, us, _, hk, _, _, _ => absurd hk (Nat.not_lt_zero _)
  | k + 1, us, h, hk, c, r, e => by
    have hF := fine_units (b := b) hl
    simp only [tkS] at e
    cases us with
    | nil => simp at e
    | cons u us =>
      simp only [List.isEmpty_cons, Bool.false_eq_true, if_false] at e
      cases ht : tokS b (u :: us) with
      | err c' r' =>
        rw [ht] at e
        simp only [Pr.err.injEq] at e
        obtain ⟨rfl, rfl⟩ := e
        have e1 := tokS_err hF h
        have e2 := token_spec hF h
        rw [ht] at e1 e2
        exact ⟨e1, e2.2.1.trans h, e2.2.2⟩
      | ok t r' =>
        rw [ht] at e
        have hk' := tok_ok hl h ht
        have hr := (blk_suf false r').trans (hk'.suf.trans h)
        have hlb := blk_len r'
        have hls := hk'.less
        simp only at e
        cases ht2 : tkS b k (blk false r') with
        | ok ts2 r2 => rw [ht2] at e; cases e
        | err c2 r2 =>
          rw [ht2] at e
          simp only [Pr.err.injEq] at e
          obtain ⟨rfl, rfl⟩ := e
          exact tkS_err hl k hr (by simp at hk hls; omega) ht2
theorem From.less {a a' : Nat} {vs : List TUnit} (h : From b a us) (h2 : vs <:+ us) (hl : vs.length < us.length) (h3 : From b a' vs) : a + 1 ≤ a' := by
  cases us with
  | nil => simp at hl
  | cons u us =>
    obtain ⟨_, _, w, _, hw, hf⟩ := h.head
    have h4 : vs <:+ us := by
      obtain ⟨p, hp⟩ := h2
      cases p with
      | nil => simp at hp; rw [hp] at hl; simp at hl
      | cons x p => simp at hp; exact ⟨p, hp.2⟩
    have := hf.mono h4 h3
    omega
/-- Tokens one behind the other. -/
def Chain (b : List UInt8) : Int → List TToken → Prop
  | a, [] => a ≤ b.length
  | a, t :: l => a ≤ t.At ∧ 0 ≤ t.At ∧ t.At + t.Text.length ≤ b.length ∧ t.At < b.length ∧ cutB b t.At (t.At + t.Text.length) = t.Text ∧ (t.Kind = 3 → b[t.At.toNat]? = some 91) ∧ t.Kind ≠ 4 ∧ Chain b (t.At + max (t.Text.length : Int) 1) l
theorem cutB_len {p q : Nat} (h : p ≤ q) (hq : q ≤ b.length) : (cutB b p q).length = q - p := by
  unfold cutB; simp; omega
theorem head91 {a : Nat} (hfr : From b a us) (h : sgn us = 91) : b[a]? = some 91 := by
  cases us with
  | nil => simp [sgn] at h
  | cons u us =>
    obtain ⟨hlt, hu, _⟩ := hfr.head
    have hs : su u = 91 := h
    have hb : u.Bad = false := by
      cases hb : u.Bad with
      | false => rfl
      | true => unfold su at hs; rw [hb] at hs; simp at hs
    have hr : u.Rune = 91 := by unfold su at hs; rw [hb] at hs; simpa using hs
    have h2 := (hu.ascii hb (by omega)).2
    rw [List.getElem?_eq_getElem hlt]
    have : b[a].toNat = 91 := by omega
    exact congrArg some (UInt8.toNat_inj.1 this)
theorem chain_ok (hl : b.length ≤ 1048576) : ∀ (k : Nat) {us : List TUnit}, us <:+ units b → ∀ {ts r}, tkS b k us = .ok ts r → ∀ {a : Int}, a ≤ atU b.length us → Chain b a ts
  | 0, us, _, _, _, e, _, _ => by cases e
  | k + 1, us, h, ts, r, e, a, ha => by
    simp only [tkS] at e
    cases us with
    | nil => simp at e; obtain ⟨rfl, rfl⟩ := e; exact ha
    | cons u us =>
      simp only [List.isEmpty_cons, Bool.false_eq_true, if_false] at e
      cases ht : tokS b (u :: us) with
      | err c r' => rw [ht] at e; cases e
      | ok t r' =>
        rw [ht] at e
        have hk := tok_ok hl h ht
        have hr' := hk.suf.trans h
        have hr := (blk_suf false r').trans hr'
        simp only at e
        cases ht2 : tkS b k (blk false r') with
        | err c r2 => rw [ht2] at e; cases e
        | ok ts2 r2 =>
          rw [ht2] at e
          simp only [Pr.ok.injEq] at e
          obtain ⟨rfl, rfl⟩ := e
          obtain ⟨p, hfp, hap⟩ := at_suf h
          obtain ⟨q, hfq, haq⟩ := at_suf hr'
          obtain ⟨s, hfs, has⟩ := at_suf hr
          have hpq := hfp.less hk.suf hk.less hfq
          have hqs := hfq.mono (blk_suf false r') hfs
          have hql := hfq.le
          have hsl := hfs.le
          have hat : t.At = p := by rw [hk.at_, hap]
          have key : (t.Text = [] ∨ t.Text = cutB b p q) ∧ (t.Kind = 3 → b[p]? = some 91) ∧ t.Kind ≠ 4 := by
            rcases hk.kind with ⟨h1, _, h2, _⟩ | ⟨h1, _, h2, _⟩ | ⟨h1, h2, h3⟩
            · rw [hat, haq] at h2
              exact ⟨.inr h2, fun h => by omega, by omega⟩
            · rw [hat, haq] at h2
              exact ⟨.inr h2, fun h => by omega, by omega⟩
            · exact ⟨.inl h3, fun _ => head91 hfp h2, by omega⟩
          obtain ⟨hx, h3, h4⟩ := key
          rw [hap] at ha
          have hlen : t.Text.length = 0 ∨ t.Text.length = q - p := by
            rcases hx with hx | hx
            · left; rw [hx]; rfl
            · right; rw [hx, cutB_len (by omega) hql]
          refine ⟨by omega, by omega, by omega, by omega, ?_, fun h => by rw [hat]; simpa using h3 h, h4, chain_ok hl k hr ht2 (by rw [has]; omega)⟩
          rcases hx with hx | hx
          · rw [hx]; simp only [List.length_nil]; unfold cutB; simp
          · have : t.At + (t.Text.length : Int) = (q : Int) := by rw [hat, hx, cutB_len (by omega) hql]; omega
            rw [this, hat, hx]
end
end Go.Val

/- part Q31 -/
/- Plain lemmas: names. -/
namespace Go.Val
set_option linter.unusedVariables false
set_option linter.unusedSimpArgs false
noncomputable section
variable {us : List TUnit} {b : List UInt8}
/-- Signs that are bytes. -/
def asciiU : Nat → List UInt8 → List TUnit
  | _, [] => []
  | a, c :: l => ⟨c.toNat, a, 1, false⟩ :: asciiU (a + 1) l
theorem ascii_from : ∀ (k a : Nat), a ≤ b.length → b.length - a ≤ k → (∀ c ∈ b.drop a, c.toNat < 128) → From b a (asciiU a (b.drop a))
  | k, a, ha, hk, hc => by
    by_cases h : a = b.length
    · subst h; rw [List.drop_length]; exact .nil
    · obtain ⟨k, rfl⟩ : ∃ j, k = j + 1 := ⟨k - 1, by omega⟩
      have hlt : a < b.length := by omega
      have hd := List.drop_eq_getElem_cons hlt
      have h1 : b[a].toNat < 128 := hc b[a] (List.mem_of_getElem? (i := 0) (by rw [hd]; rfl))
      rw [hd]
      refine .cons a 1 _ _ hlt ?_ rfl (ascii_from k (a + 1) hlt (by omega) fun c hm => hc c (by rw [hd]; exact List.mem_cons_of_mem _ hm))
      rw [hd, uFirst_ascii a _ h1]
theorem units_ascii (hc : ∀ c ∈ b, c.toNat < 128) : units b = asciiU 0 b := by
  have := ascii_from (b := b) b.length 0 (Nat.zero_le _) (by omega) (by simpa using hc)
  rw [List.drop_zero] at this
  exact (from_all b).eq this
/-- Units all below 128 are the bytes. -/
theorem From.bytes {a : Nat} (h : From b a us) (hu : ∀ u ∈ us, u.Bad = false ∧ u.Rune < 128) : us.map TUnit.Rune = (b.drop a).map (fun c => (c.toNat : Int)) := by
  induction h with
  | nil => simp
  | cons a w u us hlt he hw hf ih =>
    obtain ⟨h1, h2⟩ := hu u (by simp)
    have hun := unit_at hlt
    rw [← he] at hun
    obtain ⟨h3, h4⟩ := hun.ascii h1 h2
    have hw1 : w = 1 := by rw [hw] at h3; omega
    rw [List.drop_eq_getElem_cons hlt, List.map_cons, List.map_cons, h4, ← hw1, ih fun u hu' => hu u (List.mem_cons_of_mem _ hu')]
theorem low_goes {n : Int} (h : lowB n = true) : goesB n = true := by unfold goesB; rw [h]; rfl
theorem goes_lt {n : Int} (h : goesB n = true) : 48 ≤ n ∧ n < 128 := by
  simp [goesB, lowB] at h; omega
theorem ascii_su : ∀ (a : Nat) (l : List UInt8), (asciiU a l).map su = l.map fun c => (c.toNat : Int)
  | _, [] => rfl
  | a, c :: l => by simp only [asciiU, List.map_cons, ascii_su (a + 1) l]; rfl
theorem su_goes {u : TUnit} (h : goesB (su u) = true) : u.Bad = false ∧ u.Rune < 128 ∧ su u = u.Rune := by
  have h1 := goes_lt h
  cases hb : u.Bad with
  | true =>
    have : su u = -2 := by unfold su; rw [hb]; rfl
    omega
  | false =>
    have : su u = u.Rune := by unfold su; rw [hb]; rfl
    exact ⟨rfl, by omega, this⟩
end
end Go.Val

/- part Q32 -/
/- Plain lemmas: the tokens by the signs alone. -/
namespace Go.Val
set_option linter.unusedVariables false
set_option linter.unusedSimpArgs false
noncomputable section
variable {us : List TUnit} {b : List UInt8}
def Pr.toC {α : Type} : Pr α → Option (α × List Int)
  | .ok v r => some (v, r.map su)
  | .err _ _ => none
def closeC (acc : Int) : List Int → Option (Int × List Int)
  | [] => none
  | n :: s => if n = 125 then some (acc, s) else none
def figC : Nat → Bool → Int → List Int → Option (Int × List Int)
  | 0, _, acc, s => closeC acc s
  | _ + 1, _, _, [] => none
  | k + 1, fst, acc, n :: s => match hexv n with
    | some d => figC k false (acc * 16 + d) s
    | none => if fst then none else closeC acc (n :: s)
def numC : List Int → Option (Int × List Int)
  | [] => none
  | n :: s => if n = 123 then figC 6 true 0 s else none
def letterC : List Int → Option (Int × List Int)
  | [] => none
  | n :: s => if plainL n then
      if n = 92 then match s with
        | [] => none
        | m :: s2 => if m = 120 then numC s2 else if spec m then some (m, s2) else none
      else some (n, s)
    else none
def hdC : List Int → Int
  | [] => -1
  | n :: _ => n
def highC (lo : Int) (r1 : List Int) : Option (Int × List Int) := if hdC r1 = 45 then letterC r1.tail else some (lo, r1)
def setC : Nat → List TRange → List Int → Option (List TRange × List Int)
  | 0, _, _ => none
  | k + 1, acc, s => if hdC s = 93 then some (acc, s.tail) else
    match letterC s with
    | none => none
    | some (lo, r1) => match highC lo r1 with
      | none => none
      | some (hi, r2) => if lo > hi ∨ hi > 1114111 then none else setC k (acc ++ [⟨lo, hi⟩]) r2
theorem hdC_eq (us : List TUnit) : hdC (us.map su) = sgn us := by cases us <;> rfl
theorem closeC_eq (acc : Int) : (closeS acc us).toC = closeC acc (us.map su) := by
  cases us with
  | nil => rfl
  | cons u us => simp only [closeS, closeC, List.map_cons]; split <;> rfl
theorem figC_eq : ∀ (k : Nat) (f : Bool) (acc : Int) (us : List TUnit), (figS k f acc us).toC = figC k f acc (us.map su)
  | 0, _, acc, us => closeC_eq acc
  | k + 1, f, acc, [] => rfl
  | k + 1, f, acc, u :: us => by
    simp only [figS, figC, List.map_cons]
    cases hexv (su u) with
    | some d => exact figC_eq k _ _ us
    | none =>
      simp only
      split
      · rfl
      · exact closeC_eq (us := u :: us) acc
theorem numC_eq : (numS us).toC = numC (us.map su) := by
  cases us with
  | nil => rfl
  | cons u us => simp only [numS, numC, List.map_cons]; split; exact figC_eq _ _ _ _; rfl
theorem letterC_eq : (letterS us).toC = letterC (us.map su) := by
  cases us with
  | nil => rfl
  | cons u us =>
    simp only [letterS, letterC, List.map_cons]
    split
    · split
      · cases us with
        | nil => rfl
        | cons u2 us2 =>
          simp only [List.map_cons]
          split
          · exact numC_eq
          · split <;> rfl
      · rfl
    · rfl
theorem setC_eq : ∀ (k : Nat) (acc : List TRange) (us : List TUnit), (setS k acc us).toC = setC k acc (us.map su)
  | 0, _, _ => rfl
  | k + 1, acc, us => by
    simp only [setS, setC, hdC_eq]
    split
    · simp only [Pr.toC, List.map_tail]
    · rw [← letterC_eq]
      cases letterS us with
      | err c r => rfl
      | ok lo r1 =>
        simp only [Pr.toC]
        have e : (if sgn r1 = 45 then letterS r1.tail else .ok lo r1).toC = highC lo (r1.map su) := by
          unfold highC
          rw [hdC_eq, ← List.map_tail, ← letterC_eq]
          split <;> rfl
        rw [← e]
        cases (if sgn r1 = 45 then letterS r1.tail else .ok lo r1) with
        | err c r => rfl
        | ok hi r2 =>
          show Pr.toC (if lo > hi ∨ hi > 1114111 then Pr.err 1 us else setS k (acc ++ [⟨lo, hi⟩]) r2) = if lo > hi ∨ hi > 1114111 then none else setC k (acc ++ [⟨lo, hi⟩]) (r2.map su)
          split
          · rfl
          · exact setC_eq k _ r2
/-! ### tokens -/
def byte (n : Int) : UInt8 := UInt8.ofNat n.toNat
theorem byte_nat (c : UInt8) : byte (c.toNat : Int) = c := by unfold byte; simp
abbrev Con : Type := Int × Str × List TRange
def tokC : List Int → Option (Con × List Int)
  | [] => none
  | n :: s => if n = 91 then (setC (s.length + 1) [] s).map fun x => ((3, [], setOf x.1), x.2)
    else if lowB n then some ((1, (n :: s.takeWhile goesB).map byte, []), s.dropWhile goesB)
    else if signB n then some ((2, [byte n], []), s)
    else none
def blkC : Bool → List Int → List Int
  | _, [] => []
  | false, n :: s => if isBl n then blkC false s else if n = 35 then blkC true s else n :: s
  | true, n :: s => if n = 10 then blkC false s else if n = -2 then n :: s else blkC true s
theorem blkC_eq : ∀ (m : Bool) (us : List TUnit), (blk m us).map su = blkC m (us.map su)
  | m, [] => by cases m <;> rfl
  | false, u :: us => by
    simp only [blk, blkC, List.map_cons]
    split
    · exact blkC_eq false us
    split
    · exact blkC_eq true us
    · rfl
  | true, u :: us => by
    simp only [blk, blkC, List.map_cons]
    split
    · exact blkC_eq false us
    split
    · rfl
    · exact blkC_eq true us
theorem blkC_len : ∀ (m : Bool) (s : List Int), (blkC m s).length ≤ s.length
  | m, [] => by cases m <;> simp [blkC]
  | false, n :: s => by
    simp only [blkC]
    have h1 := blkC_len false s
    have h2 := blkC_len true s
    split
    · simp; omega
    split
    · simp; omega
    · simp
  | true, n :: s => by
    simp only [blkC]
    have h1 := blkC_len false s
    have h2 := blkC_len true s
    split
    · simp; omega
    split
    · simp
    · simp; omega
def con (t : TToken) : Con := (t.Kind, t.Text, t.Set)
theorem From.pre : ∀ {p r : List TUnit} {a : Nat}, From b a (p ++ r) → (∀ u ∈ p, u.Bad = false ∧ u.Rune < 128) → From b (a + p.length) r ∧ (b.drop a).take p.length = p.map fun u => byte u.Rune
  | [], r, a, h, _ => ⟨h, by simp⟩
  | u :: p, r, a, h, hu => by
    obtain ⟨hlt, hun, w, hw, _, hf⟩ := From.head h
    obtain ⟨h1, h2⟩ := hu u (by simp)
    obtain ⟨h3, h4⟩ := hun.ascii h1 h2
    obtain rfl : w = 1 := by rw [hw] at h3; omega
    obtain ⟨g1, g2⟩ := From.pre hf fun v hv => hu v (List.mem_cons_of_mem _ hv)
    refine ⟨by rw [List.length_cons, show a + (p.length + 1) = a + 1 + p.length by omega]; exact g1, ?_⟩
    rw [List.drop_eq_getElem_cons hlt, List.length_cons, List.take_succ_cons, List.map_cons, g2, h4, byte_nat]
theorem cut_pre {p r : List TUnit} {a : Nat} (h : From b a (p ++ r)) (hu : ∀ u ∈ p, u.Bad = false ∧ u.Rune < 128) : cutB b a (atU b.length r) = p.map fun u => byte u.Rune := by
  obtain ⟨h1, h2⟩ := h.pre hu
  rw [h1.at_eq, ← h2]
  unfold cutB
  simp only [Int.toNat_natCast]
  rw [List.drop_take, Nat.add_sub_cancel_left]
theorem sign_lt {n : Int} (h : signB n = true) : 38 ≤ n ∧ n < 128 := by
  obtain ⟨c, hc, he⟩ := List.any_eq_true.1 h
  have := eq_of_beq he
  simp only [List.mem_cons, List.not_mem_nil, or_false] at hc
  omega
theorem su_lt {u : TUnit} (h0 : 0 ≤ su u) (h1 : su u < 128) : u.Bad = false ∧ u.Rune < 128 ∧ u.Rune = su u := by
  cases hb : u.Bad with
  | true =>
    have : su u = -2 := by unfold su; rw [hb]; rfl
    omega
  | false =>
    have : su u = u.Rune := by unfold su; rw [hb]; rfl
    exact ⟨rfl, by omega, this.symm⟩
theorem tokC_eq (h : us <:+ units b) : match tokS b us with
    | .ok t r => tokC (us.map su) = some (con t, r.map su)
    | .err c r => tokC (us.map su) = none := by
  cases us with
  | nil => rfl
  | cons u us =>
    obtain ⟨a, hfr, hat⟩ := at_suf h
    have hua : u.At = a := hat
    simp only [tokS, tokC, List.map_cons]
    by_cases h91 : su u = 91
    · rw [if_pos h91, if_pos h91, List.length_map, ← setC_eq]
      cases setS (us.length + 1) [] us <;> rfl
    · rw [if_neg h91, if_neg h91]
      cases hlow : lowB (su u) with
      | true =>
        simp only [if_true, con, Option.some.injEq, Prod.mk.injEq, true_and, and_true]
        have hdw : ∀ l : List TUnit, (l.dropWhile fun u => goesB (su u)).map su = (l.map su).dropWhile goesB := fun l => by
          induction l with
          | nil => rfl
          | cons v l ih =>
            rw [List.dropWhile_cons, List.map_cons, List.dropWhile_cons]
            split
            · exact ih
            · rfl
        have htw : ∀ l : List TUnit, (l.takeWhile fun u => goesB (su u)).map su = (l.map su).takeWhile goesB := fun l => by
          induction l with
          | nil => rfl
          | cons v l ih =>
            rw [List.takeWhile_cons, List.map_cons, List.takeWhile_cons]
            split
            · rw [List.map_cons, ih]
            · rfl
        refine ⟨?_, (hdw us).symm⟩
        have hall : ∀ v ∈ u :: us.takeWhile fun u => goesB (su u), goesB (su v) = true := fun v hv => by
          rcases List.mem_cons.1 hv with rfl | hv
          · exact low_goes hlow
          · exact List.all_eq_true.1 (List.all_takeWhile (p := fun u => goesB (su u)) (l := us)) v hv
        have hsp : u :: us = (u :: us.takeWhile fun u => goesB (su u)) ++ us.dropWhile fun u => goesB (su u) := by rw [List.cons_append, List.takeWhile_append_dropWhile]
        rw [hsp] at hfr
        rw [hua, cut_pre hfr fun v hv => ⟨(su_goes (hall v hv)).1, (su_goes (hall v hv)).2.1⟩, ← htw]
        have hm := List.map_congr_left (f := fun v : TUnit => byte v.Rune) (g := fun v => byte (su v)) (l := u :: us.takeWhile fun u => goesB (su u)) fun v hv => by rw [(su_goes (hall v hv)).2.2]
        rw [hm]; simp [Function.comp_def]
      | false =>
        simp only [Bool.false_eq_true, if_false]
        cases hsg : signB (su u) with
        | true =>
          simp only [if_true, con, Option.some.injEq, Prod.mk.injEq, true_and, and_true]
          have h1 := sign_lt hsg
          obtain ⟨g1, g2, g3⟩ := su_lt (u := u) (by omega) (by omega)
          have hfr' : From b a ([u] ++ us) := hfr
          rw [hua, cut_pre hfr' fun v hv => by rw [List.mem_singleton.1 hv]; exact ⟨g1, g2⟩]
          simp only [List.map_cons, List.map_nil, g3]
        | false => rfl
/-! ### what is read tells where it ends -/
theorem nn {n : Int} {p : List Int} (h : 0 ≤ n) (hp : ∀ x ∈ p, 0 ≤ x) : ∀ x ∈ n :: p, 0 ≤ x := fun x hx => by
  rcases List.mem_cons.1 hx with rfl | hx
  · exact h
  · exact hp x hx
theorem closeC_del {acc v : Int} {s r : List Int} (h : closeC acc s = some (v, r)) : ∃ p, p ≠ [] ∧ s = p ++ r ∧ (∀ x ∈ p, 0 ≤ x) ∧ ∀ r', closeC acc (p ++ r') = some (v, r') := by
  cases s with
  | nil => cases h
  | cons n s =>
    simp only [closeC] at h
    split at h
    · rename_i hn
      simp only [Option.some.injEq, Prod.mk.injEq] at h
      obtain ⟨rfl, rfl⟩ := h
      exact ⟨[n], by simp, rfl, by simp; omega, fun r' => by simp [closeC, hn]⟩
    · cases h
theorem figC_del : ∀ (k : Nat) (f : Bool) (acc : Int) {v : Int} {s r : List Int}, figC k f acc s = some (v, r) → ∃ p, p ≠ [] ∧ s = p ++ r ∧ (∀ x ∈ p, 0 ≤ x) ∧ ∀ r', figC k f acc (p ++ r') = some (v, r')
  | 0, _, acc, _, _, _, h => closeC_del h
  | k + 1, f, acc, v, [], r, h => by cases h
  | k + 1, f, acc, v, n :: s, r, h => by
    simp only [figC] at h
    cases hx : hexv n with
    | some d =>
      rw [hx] at h
      obtain ⟨p, h1, h2, h0, h3⟩ := figC_del k _ _ h
      exact ⟨n :: p, by simp, by rw [h2]; rfl, nn (by have := hexv_lt hx; omega) h0, fun r' => by simp only [List.cons_append, figC, hx]; exact h3 r'⟩
    | none =>
      rw [hx] at h
      simp only at h
      split at h
      · cases h
      · rename_i hf
        obtain ⟨p, h1, h2, h0, h3⟩ := closeC_del h
        cases p with
        | nil => exact absurd rfl h1
        | cons m p =>
          simp only [List.cons_append, List.cons.injEq] at h2
          obtain ⟨rfl, h2⟩ := h2
          refine ⟨n :: p, by simp, by rw [h2]; rfl, h0, fun r' => ?_⟩
          have := h3 r'
          simp only [List.cons_append, figC, hx] at this ⊢
          rw [if_neg hf]; exact this
theorem numC_del {v : Int} {s r : List Int} (h : numC s = some (v, r)) : ∃ p, p ≠ [] ∧ s = p ++ r ∧ (∀ x ∈ p, 0 ≤ x) ∧ ∀ r', numC (p ++ r') = some (v, r') := by
  cases s with
  | nil => cases h
  | cons n s =>
    simp only [numC] at h
    split at h
    · rename_i hn
      obtain ⟨p, h1, h2, h0, h3⟩ := figC_del 6 true 0 h
      exact ⟨n :: p, by simp, by rw [h2]; rfl, nn (by omega) h0, fun r' => by simp only [List.cons_append, numC, if_pos hn]; exact h3 r'⟩
    · cases h
theorem letterC_del {v : Int} {s r : List Int} (h : letterC s = some (v, r)) : ∃ p, p ≠ [] ∧ s = p ++ r ∧ (∀ x ∈ p, 0 ≤ x) ∧ ∀ r', letterC (p ++ r') = some (v, r') := by
  cases s with
  | nil => cases h
  | cons n s =>
    simp only [letterC] at h
    split at h
    · rename_i hp
      split at h
      · rename_i h92
        cases s with
        | nil => cases h
        | cons m s =>
          simp only at h
          split at h
          · rename_i h120
            obtain ⟨p, h1, h2, h0, h3⟩ := numC_del h
            exact ⟨n :: m :: p, by simp, by rw [h2]; rfl, nn (by omega) (nn (by omega) h0), fun r' => by simp only [List.cons_append, letterC, if_pos hp, if_pos h92, if_pos h120]; exact h3 r'⟩
          · rename_i h120
            split at h
            · rename_i hs
              simp only [Option.some.injEq, Prod.mk.injEq] at h
              obtain ⟨rfl, rfl⟩ := h
              exact ⟨[n, m], by simp, rfl, nn (by omega) (nn (by simp [spec] at hs; omega) (by simp)), fun r' => by simp only [List.cons_append, List.nil_append, letterC, if_pos hp, if_pos h92, if_neg h120, if_pos hs]⟩
            · cases h
      · rename_i h92
        simp only [Option.some.injEq, Prod.mk.injEq] at h
        obtain ⟨rfl, rfl⟩ := h
        exact ⟨[n], by simp, rfl, nn (by simp [plainL] at hp; omega) (by simp), fun r' => by simp only [List.cons_append, List.nil_append, letterC, if_pos hp, if_neg h92]⟩
    · cases h
theorem hdC_app {p : List Int} (h : p ≠ []) (r : List Int) : hdC (p ++ r) = hdC p := by
  cases p with
  | nil => exact absurd rfl h
  | cons n p => rfl
theorem setC_del : ∀ (k : Nat) (acc : List TRange) {l : List TRange} {s r : List Int}, setC k acc s = some (l, r) → ∃ p, p ≠ [] ∧ s = p ++ r ∧ (∀ x ∈ p, 0 ≤ x) ∧ ∀ r' k', p.length ≤ k' → setC k' acc (p ++ r') = some (l, r')
  | 0, _, _, _, _, h => by cases h
  | k + 1, acc, l, s, r, h => by
    simp only [setC] at h
    split at h
    · rename_i h93
      simp only [Option.some.injEq, Prod.mk.injEq] at h
      obtain ⟨rfl, rfl⟩ := h
      cases s with
      | nil => simp [hdC] at h93
      | cons n s =>
        refine ⟨[n], by simp, rfl, nn (by have h93' : n = 93 := h93; omega) (by simp), fun r' k' hk' => ?_⟩
        obtain ⟨k', rfl⟩ : ∃ j, k' = j + 1 := ⟨k' - 1, by simp at hk'; omega⟩
        have : hdC (n :: r') = 93 := h93
        simp only [List.cons_append, List.nil_append, setC, this, if_true, List.tail_cons]
    · rename_i h93
      cases h1 : letterC s with
      | none => rw [h1] at h; cases h
      | some x =>
        obtain ⟨lo, r1⟩ := x
        rw [h1] at h
        simp only at h
        obtain ⟨p1, g1, rfl, g0, g3⟩ := letterC_del h1
        cases h2 : highC lo r1 with
        | none => rw [h2] at h; cases h
        | some y =>
          obtain ⟨hi, r2⟩ := y
          rw [h2] at h
          simp only at h
          split at h
          · cases h
          · rename_i hbad
            obtain ⟨p3, e1, rfl, e0, e3⟩ := setC_del k _ h
            have key : ∃ p2, r1 = p2 ++ (p3 ++ r) ∧ (∀ x ∈ p2, 0 ≤ x) ∧ ∀ r', highC lo (p2 ++ (p3 ++ r')) = some (hi, p3 ++ r') := by
              unfold highC at h2
              split at h2
              · rename_i h45
                cases r1 with
                | nil => simp [hdC] at h45
                | cons n t =>
                  obtain ⟨p2, f1, f2, f0, f3⟩ := letterC_del h2
                  simp only [List.tail_cons] at f2
                  refine ⟨n :: p2, by rw [f2]; rfl, nn (by have h45' : n = 45 := h45; omega) f0, fun r' => ?_⟩
                  unfold highC
                  have : hdC (n :: p2 ++ (p3 ++ r')) = 45 := h45
                  rw [if_pos this]
                  exact f3 _
              · rename_i h45
                simp only [Option.some.injEq, Prod.mk.injEq] at h2
                obtain ⟨rfl, rfl⟩ := h2
                refine ⟨[], rfl, by simp, fun r' => ?_⟩
                unfold highC
                rw [hdC_app e1] at h45
                rw [List.nil_append, if_neg (by rw [hdC_app e1]; exact h45)]
            obtain ⟨p2, f1, f0, f2⟩ := key
            subst f1
            refine ⟨p1 ++ (p2 ++ p3), by simp [g1], by simp, fun x hx => ?_, fun r' k' hk' => ?_⟩
            · rcases List.mem_append.1 hx with hx | hx
              · exact g0 x hx
              · rcases List.mem_append.1 hx with hx | hx
                · exact f0 x hx
                · exact e0 x hx
            obtain ⟨k', rfl⟩ : ∃ j, k' = j + 1 := ⟨k' - 1, by have := List.length_pos_iff.2 g1; simp at hk'; omega⟩
            have ee : p1 ++ (p2 ++ p3) ++ r' = p1 ++ (p2 ++ (p3 ++ r')) := by simp
            rw [hdC_app g1] at h93
            rw [ee]
            simp only [setC]
            rw [if_neg (by rw [hdC_app g1]; exact h93), g3]
            simp only
            rw [f2]
            simp only
            rw [if_neg hbad]
            exact e3 r' k' (by have := List.length_pos_iff.2 g1; simp at hk'; omega)
theorem tokC_del {t : Con} {s r : List Int} (h : tokC s = some (t, r)) : ∃ p, p ≠ [] ∧ s = p ++ r ∧ (∀ x ∈ p, 0 ≤ x) ∧ (t.1 = 1 → goesB (hdC r) = false) ∧ (∀ r', (t.1 = 1 → goesB (hdC r') = false) → tokC (p ++ r') = some (t, r')) ∧ isBl (hdC p) = false ∧ hdC p ≠ 35 := by
  cases s with
  | nil => cases h
  | cons n s =>
    simp only [tokC] at h
    split at h
    · rename_i h91
      cases hs : setC (s.length + 1) [] s with
      | none => rw [hs] at h; cases h
      | some x =>
        obtain ⟨l, r2⟩ := x
        rw [hs] at h
        simp only [Option.map_some, Option.some.injEq, Prod.mk.injEq] at h
        obtain ⟨rfl, rfl⟩ := h
        obtain ⟨p, h1, h2, h0, h3⟩ := setC_del _ _ hs
        refine ⟨n :: p, by simp, by rw [h2]; rfl, nn (by omega) h0, fun h => by simp at h, fun r' _ => ?_, ?_, ?_⟩
        · simp only [List.cons_append, tokC, if_pos h91]
          rw [h3 r' _ (by simp; omega)]; rfl
        · show isBl n = false
          rw [h91]; rfl
        · show n ≠ 35
          omega
    · rename_i h91
      split at h
      · rename_i hlow
        simp only [Option.some.injEq, Prod.mk.injEq] at h
        obtain ⟨rfl, rfl⟩ := h
        have hgo := goes_lt (low_goes hlow)
        refine ⟨n :: s.takeWhile goesB, by simp, by rw [List.cons_append, List.takeWhile_append_dropWhile], nn (by omega) (fun x hx => by have := goes_lt (List.all_eq_true.1 (List.all_takeWhile (p := goesB) (l := s)) x hx); omega), fun _ => ?_, fun r' hr => ?_, by show isBl n = false; simp [isBl]; omega, by show n ≠ 35; omega⟩
        · cases hd : s.dropWhile goesB with
          | nil => rfl
          | cons m l =>
            have := List.head_dropWhile_not (p := goesB) (l := s) (by rw [hd]; simp)
            simp only [hd, List.head_cons] at this
            exact this
        · have hall : ∀ a ∈ s.takeWhile goesB, goesB a = true := fun a ha => List.all_eq_true.1 (List.all_takeWhile (p := goesB) (l := s)) a ha
          have hr' := hr rfl
          have e1 : r'.takeWhile goesB = [] ∧ r'.dropWhile goesB = r' := by
            cases r' with
            | nil => exact ⟨rfl, rfl⟩
            | cons m l =>
              have hm : goesB m = false := hr'
              rw [List.takeWhile_cons, List.dropWhile_cons, hm]; exact ⟨rfl, rfl⟩
          simp only [List.cons_append, tokC, if_neg h91, if_pos hlow]
          rw [List.takeWhile_append_of_pos hall, List.dropWhile_append_of_pos hall, e1.1, e1.2, List.append_nil]
      · rename_i hlow
        split at h
        · rename_i hsg
          simp only [Option.some.injEq, Prod.mk.injEq] at h
          obtain ⟨rfl, rfl⟩ := h
          have := sign_lt hsg
          refine ⟨[n], by simp, rfl, nn (by omega) (by simp), fun h => by simp at h, fun r' _ => ?_, by show isBl n = false; simp [isBl]; omega, by show n ≠ 35; omega⟩
          simp only [List.cons_append, List.nil_append, tokC, if_neg h91, if_neg hlow, if_pos hsg]
        · cases h
def tksC : Nat → List Int → Option (List (Con × Nat))
  | 0, _ => none
  | k + 1, s => if s.isEmpty then some [] else match tokC s with
    | none => none
    | some (t, r) => match tksC k (blkC false r) with
      | none => none
      | some l => some ((t, s.length) :: l)
/-- Where so many units before the end begin. -/
def posU (b : List UInt8) (n : Nat) : Int := atU b.length ((units b).drop ((units b).length - n))
def mkT (b : List UInt8) (x : Con × Nat) : TToken := ⟨x.1.1, posU b x.2, x.1.2.1, x.1.2.2⟩
theorem posU_suf (h : us <:+ units b) : posU b us.length = atU b.length us := by
  unfold posU
  obtain ⟨p, hp⟩ := h
  rw [← hp, List.length_append, Nat.add_sub_cancel, List.drop_left]
theorem tksC_eq (hl : b.length ≤ 1048576) : ∀ (k : Nat) {us : List TUnit}, us <:+ units b → match tkS b k us with
    | .ok ts r => ∃ l, tksC k (us.map su) = some l ∧ ts = l.map (mkT b)
    | .err c r => tksC k (us.map su) = none
  | 0, us, h => rfl
  | k + 1, us, h => by
    cases us with
    | nil => exact ⟨[], rfl, rfl⟩
    | cons u us =>
      have ht := tokC_eq h
      simp only [tkS, tksC, List.map_cons, List.isEmpty_cons, Bool.false_eq_true, if_false]
      rw [List.map_cons] at ht
      cases e : tokS b (u :: us) with
      | err c r => rw [e] at ht; simp only at ht; rw [ht]
      | ok t r =>
        rw [e] at ht
        simp only at ht
        rw [ht]
        have hk := tok_ok hl h e
        have hr := (blk_suf false r).trans (hk.suf.trans h)
        have ih := tksC_eq hl k hr
        rw [blkC_eq] at ih
        simp only
        cases e2 : tkS b k (blk false r) with
        | err c r2 => rw [e2] at ih; simp only at ih; rw [ih]
        | ok ts r2 =>
          rw [e2] at ih
          obtain ⟨l, h1, h2⟩ := ih
          rw [h1]
          refine ⟨_, rfl, ?_⟩
          rw [List.map_cons, ← h2]
          congr 1
          unfold mkT con
          have := posU_suf h
          simp only [List.length_cons, List.length_map] at this ⊢
          rw [this, ← hk.at_]
/-- A text's signs. -/
def sg (b : List UInt8) : List Int := (units b).map su
theorem sg_len : (sg b).length ≤ b.length := by have := (from_all b).len; unfold sg; simp; omega
theorem tksC_fuel : ∀ (k k' : Nat) (s : List Int), s.length < k → s.length < k' → tksC k s = tksC k' s
  | 0, _, s, h, _ => absurd h (Nat.not_lt_zero _)
  | _, 0, s, _, h => absurd h (Nat.not_lt_zero _)
  | k + 1, k' + 1, [], _, _ => rfl
  | k + 1, k' + 1, n :: s, h1, h2 => by
    simp only [tksC, List.isEmpty_cons, Bool.false_eq_true, if_false]
    cases ht : tokC (n :: s) with
    | none => rfl
    | some x =>
      obtain ⟨t, r⟩ := x
      obtain ⟨p, g1, g2, _⟩ := tokC_del ht
      have hlen := congrArg List.length g2
      have hp := List.length_pos_iff.2 g1
      have hb := blkC_len false r
      simp only [List.length_append] at hlen
      simp only
      rw [tksC_fuel k k' (blkC false r) (by omega) (by omega)]
/-- A text's tokens by its signs. -/
theorem Tk_C (hl : b.length ≤ 1048576) : (∃ l, tksC (b.length + 1) (blkC false (sg b)) = some l ∧ Tk b = (l.map (mkT b) ++ [⟨4, b.length, [], []⟩], 0, 0)) ∨ tksC (b.length + 1) (blkC false (sg b)) = none ∧ (Tk b).2.2 ≠ 0 := by
  have h := tksC_eq hl (b.length + 1) (blk_suf false (units b))
  rw [blkC_eq] at h
  unfold sg
  cases e : tkS b (b.length + 1) (blk false (units b)) with
  | ok ts r =>
    rw [e] at h
    obtain ⟨l, h1, h2⟩ := h
    exact .inl ⟨l, h1, by unfold Tk; rw [e, h2]⟩
  | err c r =>
    rw [e] at h
    have hul := (from_all b).len
    have hlb := blk_len (units b)
    obtain ⟨_, _, hc0⟩ := tkS_err hl _ (blk_suf false (units b)) (by omega) e
    exact .inr ⟨h, by unfold Tk; rw [e]; exact hc0⟩
end
end Go.Val

/- part Q34 -/
/- Plain lemmas: the tokens of two texts, one behind the other. -/
namespace Go.Val
set_option linter.unusedVariables false
set_option linter.unusedSimpArgs false
noncomputable section
variable {us : List TUnit} {b : List UInt8}
/-! ### units of two texts -/
def sh (d : Nat) (u : TUnit) : TUnit := ⟨u.Rune, u.At + d, u.Width, u.Bad⟩
theorem uFirst_sh (d a : Nat) (l : List UInt8) : uFirst (a + d) l = sh d (uFirst a l) := by
  cases l with
  | nil => simp [uFirst, sh]
  | cons c l =>
    simp only [uFirst]
    split
    · simp [sh]
    · split
      · split
        · simp [sh]
        · simp [sh]
      · simp [sh]
theorem uMore_app : ∀ {n : Nat} {l : List UInt8} {r q : Nat} (m : List UInt8), uMore n l r = some q → uMore n (l ++ m) r = some q
  | 0, l, r, q, m, h => by simpa [uMore] using h
  | n + 1, [], r, q, m, h => by cases h
  | n + 1, c :: l, r, q, m, h => by
    simp only [uMore, List.cons_append] at h ⊢
    split at h
    · rename_i hc; rw [if_pos hc]; exact uMore_app m h
    · cases h
theorem uFirst_app {a : Nat} {l : List UInt8} (m : List UInt8) (hl : l ≠ []) (h : (uFirst a l).Bad = false) : uFirst a (l ++ m) = uFirst a l := by
  cases l with
  | nil => exact absurd rfl hl
  | cons c l =>
    simp only [uFirst, List.cons_append] at h ⊢
    split at h
    · cases h
    · rename_i n r hh
      split at h
      · rename_i q hq
        rw [uMore_app m hq]
      · cases h
theorem From.shift {l : List UInt8} {p : Nat} {vs : List TUnit} (h : From l p vs) : From (b ++ l) (p + b.length) (vs.map (sh b.length)) := by
  induction h with
  | nil => rw [show l.length + b.length = (b ++ l).length by simp; omega]; exact .nil
  | cons a w u us hlt he hw hf ih =>
    rw [List.map_cons]
    refine .cons (a + b.length) w _ _ (by simp; omega) ?_ hw (by rw [show a + b.length + w = a + w + b.length by omega]; exact ih)
    have hd : b.drop (a + b.length) = [] := List.drop_of_length_le (by omega)
    rw [he, ← uFirst_sh, List.drop_append, Nat.add_sub_cancel, hd, List.nil_append]
theorem From.append {l : List UInt8} {a : Nat} {ws : List TUnit} (h : From b a us) (hg : ∀ u ∈ us, u.Bad = false) (hw : From (b ++ l) b.length ws) : From (b ++ l) a (us ++ ws) := by
  induction h with
  | nil => exact hw
  | cons a w u us hlt he hw' hf ih =>
    rw [List.cons_append]
    refine .cons a w _ _ (by simp; omega) ?_ hw' (ih fun v hv => hg v (List.mem_cons_of_mem _ hv))
    rw [List.drop_append_of_le_length (by omega), uFirst_app _ (by intro h; have := List.drop_eq_nil_iff.1 h; omega) (by rw [← he]; exact hg u (by simp)), he]
theorem units_app {a l : List UInt8} (hg : ∀ u ∈ units a, u.Bad = false) : units (a ++ l) = units a ++ (units l).map (sh a.length) := by
  have h1 := (from_all l).shift (b := a)
  rw [Nat.zero_add] at h1
  exact (from_all (a ++ l)).eq ((from_all a).append hg h1)
theorem good_of (h : ∀ n ∈ sg b, n ≠ -2) : ∀ u ∈ units b, u.Bad = false := fun u hu => by
  cases hb : u.Bad with
  | false => rfl
  | true =>
    have : su u = -2 := by unfold su; rw [hb]; rfl
    exact absurd this (h _ (List.mem_map_of_mem hu))
theorem sg_app {a l : List UInt8} (h : ∀ n ∈ sg a, n ≠ -2) : sg (a ++ l) = sg a ++ sg l := by
  unfold sg
  rw [units_app (good_of h), List.map_append, List.map_map]
  congr 1
/-! ### blanks, tokens of two texts -/
theorem blkC_nl (m : Bool) (R : List Int) : blkC m (10 :: R) = blkC false R := by
  cases m
  · simp only [blkC]; rw [if_pos (by decide)]
  · simp only [blkC, if_true]
/-- The tokens, of whatever fuel. -/
def tksA (s : List Int) : Option (List (Con × Nat)) := tksC (s.length + 1) s
theorem tksA_of {k : Nat} {s : List Int} (h : s.length < k) : tksC k s = tksA s := tksC_fuel k _ s h (by omega)
theorem tksA_nil : tksA [] = some [] := rfl
theorem tksA_none {s : List Int} (hs : s ≠ []) (h : tokC s = none) : tksA s = none := by
  cases s with
  | nil => exact absurd rfl hs
  | cons n s => unfold tksA; simp only [tksC, List.isEmpty_cons, Bool.false_eq_true, if_false, h]
theorem tksA_cons {s r : List Int} {t : Con} (h : tokC s = some (t, r)) : tksA s = (tksA (blkC false r)).map fun l => (t, s.length) :: l := by
  cases s with
  | nil => cases h
  | cons n s =>
    obtain ⟨p, g1, g2, _⟩ := tokC_del h
    have hlen := congrArg List.length g2
    have hp := List.length_pos_iff.2 g1
    have hb := blkC_len false r
    simp only [List.length_append] at hlen
    have e : tksA (n :: s) = match tokC (n :: s) with
      | none => none
      | some (t, r) => match tksC (n :: s).length (blkC false r) with
        | none => none
        | some l => some ((t, (n :: s).length) :: l) := rfl
    rw [e, h]
    simp only
    rw [tksA_of (k := (n :: s).length) (by omega)]
    cases tksA (blkC false r) <;> rfl
/-- A text's tokens by its signs, of whatever fuel. -/
theorem Tk_A (hl : b.length ≤ 1048576) : (∃ l, tksA (blkC false (sg b)) = some l ∧ Tk b = (l.map (mkT b) ++ [⟨4, b.length, [], []⟩], 0, 0)) ∨ tksA (blkC false (sg b)) = none ∧ (Tk b).2.2 ≠ 0 := by
  have h1 := blkC_len false (sg b)
  have h2 := sg_len (b := b)
  have h := Tk_C hl
  rw [tksA_of (by omega)] at h
  exact h
end
end Go.Val

/- part Q35 -/
/- Plain lemmas: the joined texts' law. -/
namespace Go.Val
set_option linter.unusedVariables false
set_option linter.unusedSimpArgs false
noncomputable section
variable {us : List TUnit} {a b l : List UInt8}
theorem sg10 : sg [10] = [10] := rfl
end
end Go.Val

/- part Q33 -/
/- Plain lemmas: a set's text tells the set. -/
namespace Go.Val
set_option linter.unusedVariables false
set_option linter.unusedSimpArgs false
noncomputable section
variable {us : List TUnit} {b : List UInt8}
def sgs (l : List UInt8) : List Int := l.map fun c => (c.toNat : Int)
def encR (x : TRange) : Str := hexX x.Low ++ if x.High = x.Low then [] else 45 :: hexX x.High
theorem sg_ascii (hc : ∀ c ∈ b, c.toNat < 128) : sg b = sgs b := by unfold sg; rw [units_ascii hc, ascii_su]; rfl
/-! ### the reference's text of a set -/
end
end Go.Val

/- part Q36 -/
/- Plain lemmas: blanks and notes between tokens. -/
namespace Go.Val
set_option linter.unusedVariables false
set_option linter.unusedSimpArgs false
noncomputable section
variable {us : List TUnit} {b : List UInt8}
/-! ### pieces of a text -/
theorem uMore_take : ∀ {n : Nat} {l : List UInt8} {r q : Nat}, uMore n l r = some q → uMore n (l.take n) r = some q
  | 0, l, r, q, h => by simpa [uMore] using h
  | n + 1, [], r, q, h => by cases h
  | n + 1, c :: l, r, q, h => by
    simp only [uMore, List.take_succ_cons] at h ⊢
    split at h
    · rename_i hc; rw [if_pos hc]; exact uMore_take h
    · cases h
theorem uFirst_take {a w : Nat} {l : List UInt8} (h : (uFirst a l).Bad = false) (hw : (uFirst a l).Width = w) : uFirst a (l.take w) = uFirst a l := by
  cases l with
  | nil => simp
  | cons c l =>
    simp only [uFirst] at h
    split at h
    · cases h
    · rename_i n r hh
      split at h
      · rename_i q hq
        split at h
        · rename_i hg
          have e : uFirst a (c :: l) = ⟨q, a, (n + 1 : Nat), false⟩ := by simp only [uFirst, hh, hq, hg, if_true]
          rw [e] at hw ⊢
          have hwn : w = n + 1 := by have : ((n + 1 : Nat) : Int) = w := hw; omega
          rw [hwn, List.take_succ_cons]
          simp only [uFirst, hh, uMore_take hq, hg, if_true]
        · cases h
      · cases h
theorem sg_piece : ∀ {q vs : List TUnit} {a a' : Nat}, From b a (q ++ vs) → (∀ u ∈ q, u.Bad = false) → From b a' vs → sg (cutB b a a') = q.map su
  | [], vs, a, a', h, hg, h2 => by
    have e : a = a' := by have e1 := From.at_eq h; have e2 := h2.at_eq; rw [List.nil_append, e2] at e1; omega
    subst e
    have : cutB b a a = [] := by unfold cutB; simp
    rw [this]; rfl
  | u :: q, vs, a, a', h, hg, h2 => by
    have hbad := hg u (by simp)
    cases h with
    | cons _ w _ _ hlt he hw hf =>
      obtain ⟨_, _, w', hw', hw1, _⟩ := From.head (.cons a w u (q ++ vs) hlt he hw hf)
      have hww : w = w' := by rw [hw] at hw'; omega
      have hle1 := From.le hf
      have hle2 := h2.le
      have hle3 := From.mono hf (List.suffix_append q vs) h2
      have ih := sg_piece hf (fun v hv => hg v (List.mem_cons_of_mem _ hv)) h2
      have hsplit : cutB b a a' = cutB b a (a + w : Nat) ++ cutB b (a + w : Nat) a' := by
        unfold cutB
        simp only [Int.toNat_natCast]
        have e1 : (b.take a').drop a = ((b.take a').drop a).take w ++ ((b.take a').drop a).drop w := (List.take_append_drop _ _).symm
        rw [e1, List.drop_drop]
        congr 1
        rw [List.drop_take, List.drop_take, List.take_take]
        congr 1; omega
      have hx : cutB b a (a + w : Nat) = (b.drop a).take w := by
        unfold cutB; simp only [Int.toNat_natCast]; rw [List.drop_take, Nat.add_sub_cancel_left]
      have hlx : ((b.drop a).take w).length = w := by simp; omega
      have hu0 : uFirst 0 ((b.drop a).take w) = ⟨u.Rune, 0, w, false⟩ := by
        have hb2 : uFirst (0 + a) (b.drop a) = u := by rw [Nat.zero_add]; exact he.symm
        rw [uFirst_sh] at hb2
        have hbad0 : (uFirst 0 (b.drop a)).Bad = false := by rw [← hb2] at hbad; exact hbad
        have hw0 : (uFirst 0 (b.drop a)).Width = w := by rw [← hb2] at hw; exact hw
        have hr0 : (uFirst 0 (b.drop a)).Rune = u.Rune := by rw [← hb2]; rfl
        have ha0 : (uFirst 0 (b.drop a)).At = 0 := by rw [List.drop_eq_getElem_cons hlt]; exact (uFirst_of 0 b[a] (b.drop (a + 1))).at_
        rw [uFirst_take hbad0 hw0]
        generalize uFirst 0 (b.drop a) = z at *
        cases z; simp only at *; subst hbad0 hw0 hr0 ha0; rfl
      have hun : units ((b.drop a).take w) = [⟨u.Rune, 0, w, false⟩] := by
        refine (from_all _).eq (.cons 0 w _ _ (by omega) (by rw [List.drop_zero, hu0]) rfl ?_)
        rw [Nat.zero_add]
        have : From ((b.drop a).take w) ((b.drop a).take w).length [] := .nil
        rw [hlx] at this; exact this
      have hsu : su ⟨u.Rune, 0, w, false⟩ = su u := by unfold su; rw [hbad]
      have hs1 : sg ((b.drop a).take w) = [su u] := by unfold sg; rw [hun]; simp [hsu]
      have hne : su u ≠ -2 := by
        have := (From.runes (.cons a w u (q ++ vs) hlt he hw hf)) u (by simp)
        unfold su; rw [hbad]; simp; omega
      rw [hsplit, hx, sg_app (by rw [hs1]; simpa using hne), hs1, ih]; rfl
/-! ### what is between tokens -/
theorem gap_of : ∀ (m : Bool) (us : List TUnit), ∃ g m', us = g ++ blk m us ∧ (∀ u ∈ g, u.Bad = false) ∧ ∀ R, blkC m (g.map su ++ R) = blkC m' R
  | m, [] => ⟨[], m, by cases m <;> rfl, by simp, fun R => rfl⟩
  | false, u :: us => by
    have good : ∀ {n : Int}, su u = n → n ≠ -2 → u.Bad = false := fun h h2 => by
      cases hb : u.Bad with
      | false => rfl
      | true => have : su u = -2 := (by unfold su; rw [hb]; rfl); omega
    simp only [blk]
    by_cases h1 : isBl (su u) = true
    · obtain ⟨g, m', h2, h3, h4⟩ := gap_of false us
      rw [if_pos h1]
      refine ⟨u :: g, m', by rw [List.cons_append, ← h2], fun v hv => ?_, fun R => by simp only [List.map_cons, List.cons_append, blkC, if_pos h1]; exact h4 R⟩
      rcases List.mem_cons.1 hv with rfl | hv
      · exact good rfl (fun e => by rw [e] at h1; cases h1)
      · exact h3 v hv
    · rw [if_neg h1]
      by_cases h35 : su u = 35
      · obtain ⟨g, m', h2, h3, h4⟩ := gap_of true us
        rw [if_pos h35]
        refine ⟨u :: g, m', by rw [List.cons_append, ← h2], fun v hv => ?_, fun R => by simp only [List.map_cons, List.cons_append, blkC, if_neg h1, if_pos h35]; exact h4 R⟩
        rcases List.mem_cons.1 hv with rfl | hv
        · exact good h35 (by decide)
        · exact h3 v hv
      · rw [if_neg h35]
        exact ⟨[], false, rfl, by simp, fun R => rfl⟩
  | true, u :: us => by
    simp only [blk]
    by_cases h1 : su u = 10
    · obtain ⟨g, m', h2, h3, h4⟩ := gap_of false us
      rw [if_pos h1]
      refine ⟨u :: g, m', by rw [List.cons_append, ← h2], fun v hv => ?_, fun R => by simp only [List.map_cons, List.cons_append, blkC, if_pos h1]; exact h4 R⟩
      rcases List.mem_cons.1 hv with rfl | hv
      · cases hb : v.Bad with
        | false => rfl
        | true => have : su v = -2 := (by unfold su; rw [hb]; rfl); omega
      · exact h3 v hv
    · rw [if_neg h1]
      by_cases h2' : su u = -2
      · rw [if_pos h2']
        exact ⟨[], true, rfl, by simp, fun R => rfl⟩
      · obtain ⟨g, m', h2, h3, h4⟩ := gap_of true us
        rw [if_neg h2']
        refine ⟨u :: g, m', by rw [List.cons_append, ← h2], fun v hv => ?_, fun R => by simp only [List.map_cons, List.cons_append, blkC, if_neg h1, if_neg h2']; exact h4 R⟩
        rcases List.mem_cons.1 hv with rfl | hv
        · cases hb : v.Bad with
          | false => rfl
          | true => have : su v = -2 := (by unfold su; rw [hb]; rfl); omega
        · exact h3 v hv
/-- The tokens' texts and sets. -/
def cons7 (s : List Int) : Option (List Con) := (tksA s).map fun l => l.map Prod.fst
theorem cons7_tok {p : List Int} {t : Con} {r : List Int} (h : tokC (p ++ r) = some (t, r)) : cons7 (p ++ r) = (cons7 (blkC false r)).map fun l => t :: l := by
  unfold cons7
  rw [tksA_cons h]
  cases tksA (blkC false r) <;> rfl
/-- A token with the blanks and notes behind it. -/
theorem piece_of (hl : b.length ≤ 1048576) (h : us <:+ units b) (hne : us ≠ []) {L : List (Con × Nat)} (e : tksA (us.map su) = some L) :
    ∃ x L' vs, L = x :: L' ∧ vs <:+ us ∧ vs.length < us.length ∧ tksA (vs.map su) = some L' ∧ x.2 = us.length ∧ (∀ n ∈ sg (cutB b (atU b.length us) (atU b.length vs)), n ≠ -2) ∧
      ∀ R, cons7 (blkC false (sg (cutB b (atU b.length us) (atU b.length vs)) ++ 10 :: R)) = (cons7 (blkC false R)).map fun l => x.1 :: l := by
  cases ht : tokC (us.map su) with
  | none => rw [tksA_none (by simpa using hne) ht] at e; cases e
  | some y =>
    obtain ⟨t, r⟩ := y
    rw [tksA_cons ht] at e
    obtain ⟨p, g1, g2, g0, g3, g4, g5, g6⟩ := tokC_del ht
    -- the units of the token
    obtain ⟨us1, us2, rfl, hp1, hr2⟩ := List.map_eq_append_iff.1 g2
    obtain ⟨g, m', q1, q2, q3⟩ := gap_of false us2
    rw [← hr2, ← blkC_eq] at e
    cases e2 : tksA ((blk false us2).map su) with
    | none => rw [e2] at e; cases e
    | some L' =>
      rw [e2] at e
      simp only [Option.map_some, Option.some.injEq] at e
      have hvs : blk false us2 <:+ us1 ++ us2 := (blk_suf false us2).trans (List.suffix_append us1 us2)
      obtain ⟨a, hfa, hata⟩ := at_suf h
      obtain ⟨a', hfa', hata'⟩ := at_suf (hvs.trans h)
      have hgood1 : ∀ u ∈ us1, u.Bad = false := fun u hu => by
        have := g0 (su u) (by rw [← hp1]; exact List.mem_map_of_mem hu)
        cases hb : u.Bad with
        | false => rfl
        | true => have : su u = -2 := (by unfold su; rw [hb]; rfl); omega
      have hgood : ∀ u ∈ us1 ++ g, u.Bad = false := fun u hu => by
        rcases List.mem_append.1 hu with hu | hu
        · exact hgood1 u hu
        · exact q2 u hu
      have hsplit : us1 ++ us2 = (us1 ++ g) ++ blk false us2 := by rw [List.append_assoc, ← q1]
      have hpiece : sg (cutB b (atU b.length (us1 ++ us2)) (atU b.length (blk false us2))) = (us1 ++ g).map su := by
        rw [hata, hata']
        exact sg_piece (by rw [← hsplit]; exact hfa) hgood hfa'
      have hno : ∀ n ∈ (us1 ++ g).map su, n ≠ -2 := fun n hn => by
        obtain ⟨u, hu, rfl⟩ := List.mem_map.1 hn
        have hub := hgood u hu
        have humem : u ∈ us1 ++ us2 := by rw [hsplit]; exact List.mem_append_left _ hu
        have := (hfa.runes u humem).1
        unfold su; rw [hub]; simp; omega
      have hlen : (blk false us2).length < (us1 ++ us2).length := by
        have h1 := blk_len us2
        have h2 : 0 < us1.length := by have := List.length_pos_iff.2 g1; rw [← hp1] at this; simpa using this
        simp; omega
      refine ⟨(t, _), L', blk false us2, e.symm, hvs, hlen, e2, by simp, by rw [hpiece]; exact hno, fun R => ?_⟩
      rw [hpiece, List.map_append, hp1, List.append_assoc]
      have hpne : p ≠ [] := g1
      have hb : blkC false (p ++ (g.map su ++ 10 :: R)) = p ++ (g.map su ++ 10 :: R) := by
        cases p with
        | nil => exact absurd rfl g1
        | cons n p =>
          have h5 : isBl n = false := g5
          have h6 : n ≠ 35 := g6
          simp only [List.cons_append, blkC, h5, if_neg h6, Bool.false_eq_true, if_false]
      rw [hb, cons7_tok (g4 _ fun h1 => ?_), q3, blkC_nl]
      have h3 := g3 h1
      cases g with
      | nil => show goesB 10 = false; decide
      | cons u g =>
        rw [← hr2, q1] at h3
        exact h3
/-! ### the law's text -/
theorem and3 : ∀ n : Fin 256, ∃ k : Fin 4, bAnd .u8 (n.1 : Int) (3 : Int) = (k.1 : Int) := by decide +kernel
theorem blank_byte (n : UInt8) : ∃ c : UInt8, (idx ([32, 9, 10, 13] : Str) (bAnd .u8 (n.toNat : Int) (3 : Int))) = some c ∧ c.toNat < 128 ∧ isBl (c.toNat : Int) = true := by
  obtain ⟨k, hk⟩ := and3 ⟨n.toNat, n.toNat_lt⟩
  simp only at hk
  rw [hk, idx_nat]
  have : ∀ k : Fin 4, ∃ c : UInt8, ([32, 9, 10, 13] : Str)[k.1]? = some c ∧ c.toNat < 128 ∧ isBl (c.toNat : Int) = true := by decide
  exact this k
/-- Text that is skipped. -/
def Skip (B : List UInt8) : Prop := (∀ n ∈ sg B, n ≠ -2) ∧ ∀ R, blkC false (sg B ++ R) = blkC false R
theorem skip_one {c : UInt8} (h1 : c.toNat < 128) (h2 : isBl (c.toNat : Int) = true) : Skip [c] := by
  have : sg [c] = [(c.toNat : Int)] := sg_ascii (by simpa using h1)
  unfold Skip
  rw [this]
  exact ⟨by simp, fun R => by simp only [List.cons_append, List.nil_append, blkC, if_pos h2]⟩
theorem skip_app {B C : List UInt8} (h1 : Skip B) (h2 : Skip C) : Skip (B ++ C) := by
  unfold Skip
  rw [sg_app h1.1]
  refine ⟨fun n hn => ?_, fun R => by rw [List.append_assoc, h1.2, h2.2]⟩
  rcases List.mem_append.1 hn with hn | hn
  · exact h1.1 n hn
  · exact h2.1 n hn
theorem skip_nil : Skip [] := ⟨by simp [sg, units, uUnits], fun R => rfl⟩
theorem skip_note : Skip [35, 91, 32, 97, 10] := by
  have : sg [35, 91, 32, 97, 10] = [35, 91, 32, 97, 10] := rfl
  unfold Skip
  rw [this]
  exact ⟨by decide, fun R => rfl⟩
end
end Go.Val

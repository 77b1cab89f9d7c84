/- chapter 09: sets in another order make the same classes; a set more parts them, and joins none. -/
import Derived.Test.YtgekjbingaghaaaRows
import Derived.Test.YtgekjbingaghaaaOwnD
import Derived.Test.YtgekjbingaghaaaOwnE
import Derived.WalkKit
import Derived.ProofKit
import Derived.OpenShut
import Derived.ShutString
import Derived.ChangeOld
import Derived.Below
import Derived.SizedLaws
import Derived.Carry
set_option linter.all false
set_option linter.unnecessarySimpa false
set_option linter.unusedVariables false
set_option linter.unusedSimpArgs false
/- part JG11 -/
namespace Go.Val
theorem pure_AlphabetTurned (a0 : List (List TRange)) (a1 : Int) (hi1 : -9223372036854775808 ≤ a1 ∧ a1 ≤ 9223372036854775807) (a2 : Int) (hi2 : -9223372036854775808 ≤ a2 ∧ a2 ≤ 9223372036854775807) : scansionlaw09_AlphabetTurned a0 a1 a2 = some true := AlphabetTurned_of a0 a1 a2
end Go.Val
namespace Go.Proofs.Ytgekjbingaghaaa.alphabetTurned
open Go.ChangeShapes Go.WideShapes Go.ChangeAt Go.RowKit Go.Val
open Go.ChangeMaps (open_string shut_string)
set_option linter.unusedVariables false
theorem own : ownKnob Try.prog.godebug = none := by kernel_rfl
theorem laidOut : laidOutB Try.prog = true := by kernel_rfl
set_option maxRecDepth 100000 in
theorem lifted (os : Os) (started : os.Started) (H : Type) (enc : TypeId × Value → H) :
    ReturnsInHanded {} Try.checked os 11 .any (Rows.alphabetTurnedSpec.pre6 enc Try.prog Try.f11 Rows.alphabetTurnedRow.domain false) (Rows.alphabetTurnedSpec.post enc Try.prog Try.f11 false true false false) := by
  refine returnsInHanded_of_change_sized (C := Try.checked) own started (by kernel_rfl) Try.func11
    (ChangeSpec.witness6 (enc := enc) (C := Try.checked) false ⟨#[], #[.slice none 0 0, .int .i64 0, .int .i64 0], []⟩ 8 (by kernel_rfl) (by kernel_rfl) (by kernel_rfl) (by kernel_rfl)) ?_
  intro W base args ds gs before hval0 hW hcnd hsz0 _
  have hval : ∀ (j : Nat) t v, Try.f11.params[j]? = some t → args[j]? = some v → Value.okWide Try.prog W .any base t v := hval0
  have hW' := hW
  obtain ⟨p, q, hA0, hV, rfl, hfz, hnd⟩ := hW
  have hA : DataW.TrodAll enc Try.prog W 0 (fun _ => true) true Try.f11.params.toList args.toList ds p := hA0
  rw [Try.params11] at hA hval
  obtain ⟨v0, vs0, d0, ds0, p0, q0, hargs, rfl, rfl, h0, r0⟩ := trodAll_cons hA
  obtain ⟨v1, vs1, d1, ds1, p1, q1, rfl, rfl, rfl, h1, r1⟩ := trodAll_cons r0
  obtain ⟨v2, vs2, d2, ds2, p2, q2, rfl, rfl, rfl, h2, r2⟩ := trodAll_cons r1
  obtain ⟨rfl, rfl, rfl⟩ := trodAll_nil r2
  obtain rfl : args = #[v0, v1, v2] := by cases args; simp_all
  obtain ⟨rfl, rfl⟩ := trodVars_none hV
  have ok0 := hval 0 42 v0 rfl rfl
  have ok1 := hval 1 3 v1 rfl rfl
  have ok2 := hval 2 3 v2 rfl rfl
  have lt0 : ∀ x ∈ p0, x.block < W.heap.size := by obtain ⟨m, hm⟩ := h0; exact DataW.trod_lt m _ _ _ hm
  have k0 := h0
  obtain ⟨fuel0, hf0⟩ := h0
  obtain ⟨x0, rel0, ty0, _⟩ := trod_rel (G := gh0 Try.prog W) (gh0_imm Try.prog W) 6 (by kernel_rfl) hf0
  obtain ⟨l0, hl0, _⟩ := isT_rangess ty0
  have rv0 : RelV W (gh0 Try.prog W) (eL (eL eRange) l0) v0 := by
    obtain ⟨a, len, cap, rfl⟩ := okWide_slice Try.underlying42 ok0
    rw [hl0] at rel0
    cases rel0 with
    | cons _ _ _ _ _ h _ => exact h
  obtain ⟨n1, rfl, rfl, rfl, hn1⟩ := open_int Try.underlying3 ok1 h1
  have hi1 : -9223372036854775808 ≤ n1 ∧ n1 ≤ 9223372036854775807 := by
    have := hn1
    simp [Lit.wf, IntKind.min, IntKind.max, IntKind.signed, IntKind.bits] at this
    omega
  obtain ⟨n2, rfl, rfl, rfl, hn2⟩ := open_int Try.underlying3 ok2 h2
  have hi2 : -9223372036854775808 ≤ n2 ∧ n2 ≤ 9223372036854775807 := by
    have := hn2
    simp [Lit.wf, IntKind.min, IntKind.max, IntKind.signed, IntKind.bits] at this
    omega
  refine (law_calls (C := CT) (Go.Proofs.IR.ext_all) mixed (scansionlaw09_AlphabetTurned_runs l0 n1 n2 (pure_AlphabetTurned _ _ hi1 _ hi2)) (.cons 0 (.val (eL (eL eRange) l0)) v0 _ _ rv0 (.cons _ (.val (.int .i64 n1)) _ _ _ (.int _ _) (.cons _ (.val (.int .i64 n2)) _ [] [] (.int _ _) (.nil _))))).mono fun e W' ⟨he, bel⟩ => ?_
  subst he
  exact ⟨_, rfl, _, _, _, [], _, [], hW', trodAll_mk1 (shut_bool Try.underlying4 _), (trodAll_cons_mk (Below.trod laidOut (by kernel_rfl) (of_decide_eq_true (by kernel_rfl)) k0 bel lt0) (trodAll_cons_mk (shut_int Try.underlying3 hn1) (trodAll_cons_mk (shut_int Try.underlying3 hn2) trodAll_mk0))), rfl, bel.frame _, fun h => by cases h⟩
theorem over : Rows.alphabetTurnedRow.holds Try.pinned (OpenSpec.ofChange Rows.alphabetTurnedSpec) :=
  OpenClaim.holds_of_wide 11 Try.f11 rfl rfl rfl rfl rfl rfl rfl ⟨rfl, rfl, rfl, rfl, rfl⟩ rfl rfl rfl rfl rfl (by kernel_rfl) Try.func11 (by kernel_rfl)
    (of_decide_eq_true (by kernel_rfl)) (by unfold Func.isWrapper; first | (rw [if_pos (by decide +kernel)]; kernel_rfl) | (rw [if_neg (by decide +kernel)]; exact ⟨rfl, rfl⟩))
    (fun os started H enc _ => lifted os started H enc)
theorem proved : Rows.AlphabetTurnedSaid := over
end Go.Proofs.Ytgekjbingaghaaa.alphabetTurned
namespace Go.Proofs.Ytgekjbingaghaaa
/-- chapter 09: sets in another order make the same classes; a set more parts them, and joins none. -/
theorem alphabetTurned_holds : Rows.AlphabetTurnedSaid := alphabetTurned.proved
end Go.Proofs.Ytgekjbingaghaaa

/- chapter 09: the masks of any numbers are the reference's. -/
import Derived.Test.YtgekjbingaghaaaRows
import Derived.Test.YtgekjbingaghaaaOwnD
import Derived.Test.YtgekjbingaghaaaOwnE
import Derived.Test.YtgekjbingaghaaaOwnF
import Derived.WalkKit
import Derived.ProofKit
import Derived.OpenShut
import Derived.ShutString
import Derived.ChangeOld
import Derived.Below
import Derived.SizedLaws
import Derived.Carry
set_option linter.all false
set_option linter.unnecessarySimpa false
set_option linter.unusedVariables false
set_option linter.unusedSimpArgs false
/- part JG13 -/
namespace Go.Val
theorem pure_AlphabetWords (a0 : List (List TRange)) (a1 : List Int) : scansionlaw09_AlphabetWords a0 a1 = some true := AlphabetWords_of a0 a1
end Go.Val
namespace Go.Proofs.Ytgekjbingaghaaa.alphabetWords
open Go.ChangeShapes Go.WideShapes Go.ChangeAt Go.RowKit Go.Val
open Go.ChangeMaps (open_string shut_string)
set_option linter.unusedVariables false
theorem own : ownKnob Try.prog.godebug = none := by kernel_rfl
theorem laidOut : laidOutB Try.prog = true := by kernel_rfl
set_option maxRecDepth 100000 in
theorem lifted (os : Os) (started : os.Started) (H : Type) (enc : TypeId × Value → H) :
    ReturnsInHanded {} Try.checked os 13 .any (Rows.alphabetWordsSpec.pre6 enc Try.prog Try.f13 Rows.alphabetWordsRow.domain false) (Rows.alphabetWordsSpec.post enc Try.prog Try.f13 false true false false) := by
  refine returnsInHanded_of_change_sized (C := Try.checked) own started (by kernel_rfl) Try.func13
    (ChangeSpec.witness6 (enc := enc) (C := Try.checked) false ⟨#[], #[.slice none 0 0, .slice none 0 0], []⟩ 8 (by kernel_rfl) (by kernel_rfl) (by kernel_rfl) (by kernel_rfl)) ?_
  intro W base args ds gs before hval0 hW hcnd hsz0 _
  have hval : ∀ (j : Nat) t v, Try.f13.params[j]? = some t → args[j]? = some v → Value.okWide Try.prog W .any base t v := hval0
  have hW' := hW
  obtain ⟨p, q, hA0, hV, rfl, hfz, hnd⟩ := hW
  have hA : DataW.TrodAll enc Try.prog W 0 (fun _ => true) true Try.f13.params.toList args.toList ds p := hA0
  rw [Try.params13] at hA hval
  obtain ⟨v0, vs0, d0, ds0, p0, q0, hargs, rfl, rfl, h0, r0⟩ := trodAll_cons hA
  obtain ⟨v1, vs1, d1, ds1, p1, q1, rfl, rfl, rfl, h1, r1⟩ := trodAll_cons r0
  obtain ⟨rfl, rfl, rfl⟩ := trodAll_nil r1
  obtain rfl : args = #[v0, v1] := by cases args; simp_all
  obtain ⟨rfl, rfl⟩ := trodVars_none hV
  have ok0 := hval 0 42 v0 rfl rfl
  have ok1 := hval 1 56 v1 rfl rfl
  have lt0 : ∀ x ∈ p0, x.block < W.heap.size := by obtain ⟨m, hm⟩ := h0; exact DataW.trod_lt m _ _ _ hm
  have k0 := h0
  obtain ⟨fuel0, hf0⟩ := h0
  obtain ⟨x0, rel0, ty0, _⟩ := trod_rel (G := gh0 Try.prog W) (gh0_imm Try.prog W) 6 (by kernel_rfl) hf0
  obtain ⟨l0, hl0, _⟩ := isT_rangess ty0
  have rv0 : RelV W (gh0 Try.prog W) (eL (eL eRange) l0) v0 := by
    obtain ⟨a, len, cap, rfl⟩ := okWide_slice Try.underlying42 ok0
    rw [hl0] at rel0
    cases rel0 with
    | cons _ _ _ _ _ h _ => exact h
  have lt1 : ∀ x ∈ p1, x.block < W.heap.size := by obtain ⟨m, hm⟩ := h1; exact DataW.trod_lt m _ _ _ hm
  have k1 := h1
  obtain ⟨fuel1, hf1⟩ := h1
  obtain ⟨x1, rel1, ty1, _⟩ := trod_rel (G := gh0 Try.prog W) (gh0_imm Try.prog W) 6 (by kernel_rfl) hf1
  obtain ⟨l1, hl1, _⟩ := isT_ints ty1
  have rv1 : RelV W (gh0 Try.prog W) (eL eI l1) v1 := by
    obtain ⟨a, len, cap, rfl⟩ := okWide_slice Try.underlying56 ok1
    rw [hl1] at rel1
    cases rel1 with
    | cons _ _ _ _ _ h _ => exact h
  refine (law_calls (C := CT) (Go.Proofs.IR.ext_all) mixed (scansionlaw09_AlphabetWords_runs l0 l1 (pure_AlphabetWords _ _)) (.cons 0 (.val (eL (eL eRange) l0)) v0 _ _ rv0 (.cons _ (.val (eL eI l1)) v1 [] [] rv1 (.nil _)))).mono fun e W' ⟨he, bel⟩ => ?_
  subst he
  exact ⟨_, rfl, _, _, _, [], _, [], hW', trodAll_mk1 (shut_bool Try.underlying4 _), (trodAll_cons_mk (Below.trod laidOut (by kernel_rfl) (of_decide_eq_true (by kernel_rfl)) k0 bel lt0) (trodAll_cons_mk (Below.trod laidOut (by kernel_rfl) (of_decide_eq_true (by kernel_rfl)) k1 bel lt1) trodAll_mk0)), rfl, bel.frame _, fun h => by cases h⟩
theorem over : Rows.alphabetWordsRow.holds Try.pinned (OpenSpec.ofChange Rows.alphabetWordsSpec) :=
  OpenClaim.holds_of_wide 13 Try.f13 rfl rfl rfl rfl rfl rfl rfl ⟨rfl, rfl, rfl, rfl, rfl⟩ rfl rfl rfl rfl rfl (by kernel_rfl) Try.func13 (by kernel_rfl)
    (of_decide_eq_true (by kernel_rfl)) (by unfold Func.isWrapper; first | (rw [if_pos (by decide +kernel)]; kernel_rfl) | (rw [if_neg (by decide +kernel)]; exact ⟨rfl, rfl⟩))
    (fun os started H enc _ => lifted os started H enc)
theorem proved : Rows.AlphabetWordsSaid := over
end Go.Proofs.Ytgekjbingaghaaa.alphabetWords
namespace Go.Proofs.Ytgekjbingaghaaa
/-- chapter 09: the masks of any numbers are the reference's. -/
theorem alphabetWords_holds : Rows.AlphabetWordsSaid := alphabetWords.proved
end Go.Proofs.Ytgekjbingaghaaa

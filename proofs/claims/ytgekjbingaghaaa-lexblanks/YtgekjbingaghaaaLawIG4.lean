/- Chapter 07: blanks, and notes, more between tokens turn nothing but the places. -/
import Derived.Test.YtgekjbingaghaaaRows
import Derived.Test.YtgekjbingaghaaaOwnD
import Derived.Test.YtgekjbingaghaaaOwnE
import Derived.Test.YtgekjbingaghaaaOwnF
import Derived.WalkKit
import Derived.ProofKit
import Derived.OpenShut
import Derived.ShutString
import Derived.ChangeOld
import Derived.Below
import Derived.SizedLaws
import Derived.Carry
set_option linter.all false
set_option linter.unnecessarySimpa false
set_option linter.unusedVariables false
set_option linter.unusedSimpArgs false
/- part IG4 -/
namespace Go.Val
theorem pure_LexBlanks (a0 : List UInt8) (a1 : List (List UInt8)) : scansionlaw07_LexBlanks a0 a1 = some true := LexBlanks_of a0 a1
end Go.Val
namespace Go.Proofs.Ytgekjbingaghaaa.lexBlanks
open Go.ChangeShapes Go.WideShapes Go.ChangeAt Go.RowKit Go.Val
open Go.ChangeMaps (open_string shut_string)
set_option linter.unusedVariables false
theorem own : ownKnob Try.prog.godebug = none := by kernel_rfl
theorem laidOut : laidOutB Try.prog = true := by kernel_rfl
set_option maxRecDepth 100000 in
theorem lifted (os : Os) (started : os.Started) (H : Type) (enc : TypeId × Value → H) :
    ReturnsInHanded {} Try.checked os 4 .any (Rows.lexBlanksSpec.pre6 enc Try.prog Try.f4 Rows.lexBlanksRow.domain false) (Rows.lexBlanksSpec.post enc Try.prog Try.f4 false true false false) := by
  refine returnsInHanded_of_change_sized (C := Try.checked) own started (by kernel_rfl) Try.func4
    (ChangeSpec.witness6 (enc := enc) (C := Try.checked) false ⟨#[], #[.slice none 0 0, .slice none 0 0], []⟩ 8 (by kernel_rfl) (by kernel_rfl) (by kernel_rfl) (by kernel_rfl)) ?_
  intro W base args ds gs before hval0 hW hcnd hsz0 _
  have hval : ∀ (j : Nat) t v, Try.f4.params[j]? = some t → args[j]? = some v → Value.okWide Try.prog W .any base t v := hval0
  have hW' := hW
  obtain ⟨p, q, hA0, hV, rfl, hfz, hnd⟩ := hW
  have hA : DataW.TrodAll enc Try.prog W 0 (fun _ => true) true Try.f4.params.toList args.toList ds p := hA0
  rw [Try.params4] at hA hval
  obtain ⟨v0, vs0, d0, ds0, p0, q0, hargs, rfl, rfl, h0, r0⟩ := trodAll_cons hA
  obtain ⟨v1, vs1, d1, ds1, p1, q1, rfl, rfl, rfl, h1, r1⟩ := trodAll_cons r0
  obtain ⟨rfl, rfl, rfl⟩ := trodAll_nil r1
  obtain rfl : args = #[v0, v1] := by cases args; simp_all
  obtain ⟨rfl, rfl⟩ := trodVars_none hV
  have ok0 := hval 0 22 v0 rfl rfl
  have ok1 := hval 1 30 v1 rfl rfl
  have lt0 : ∀ x ∈ p0, x.block < W.heap.size := by obtain ⟨m, hm⟩ := h0; exact DataW.trod_lt m _ _ _ hm
  have k0 := h0
  obtain ⟨fuel0, hf0⟩ := h0
  obtain ⟨x0, rel0, ty0, _⟩ := trod_rel (G := gh0 Try.prog W) (gh0_imm Try.prog W) 6 (by kernel_rfl) hf0
  obtain ⟨l0, hl0, _⟩ := isT_bytes ty0
  have rv0 : RelV W (gh0 Try.prog W) (eL eU l0) v0 := by
    obtain ⟨a, len, cap, rfl⟩ := okWide_slice Try.underlying22 ok0
    rw [hl0] at rel0
    cases rel0 with
    | cons _ _ _ _ _ h _ => exact h
  have lt1 : ∀ x ∈ p1, x.block < W.heap.size := by obtain ⟨m, hm⟩ := h1; exact DataW.trod_lt m _ _ _ hm
  have k1 := h1
  obtain ⟨fuel1, hf1⟩ := h1
  obtain ⟨x1, rel1, ty1, _⟩ := trod_rel (G := gh0 Try.prog W) (gh0_imm Try.prog W) 6 (by kernel_rfl) hf1
  obtain ⟨l1, hl1, _⟩ := isT_bytess ty1
  have rv1 : RelV W (gh0 Try.prog W) (eL (eL eU) l1) v1 := by
    obtain ⟨a, len, cap, rfl⟩ := okWide_slice Try.underlying30 ok1
    rw [hl1] at rel1
    cases rel1 with
    | cons _ _ _ _ _ h _ => exact h
  refine (law_calls (C := CT) (Go.Proofs.IR.ext_all) mixed (scansionlaw07_LexBlanks_runs l0 l1 (pure_LexBlanks _ _)) (.cons 0 (.val (eL eU l0)) v0 _ _ rv0 (.cons _ (.val (eL (eL eU) l1)) v1 [] [] rv1 (.nil _)))).mono fun e W' ⟨he, bel⟩ => ?_
  subst he
  exact ⟨_, rfl, _, _, _, [], _, [], hW', trodAll_mk1 (shut_bool Try.underlying4 _), (trodAll_cons_mk (Below.trod laidOut (by kernel_rfl) (of_decide_eq_true (by kernel_rfl)) k0 bel lt0) (trodAll_cons_mk (Below.trod laidOut (by kernel_rfl) (of_decide_eq_true (by kernel_rfl)) k1 bel lt1) trodAll_mk0)), rfl, bel.frame _, fun h => by cases h⟩
theorem over : Rows.lexBlanksRow.holds Try.pinned (OpenSpec.ofChange Rows.lexBlanksSpec) :=
  OpenClaim.holds_of_wide 4 Try.f4 rfl rfl rfl rfl rfl rfl rfl ⟨rfl, rfl, rfl, rfl, rfl⟩ rfl rfl rfl rfl rfl (by kernel_rfl) Try.func4 (by kernel_rfl)
    (of_decide_eq_true (by kernel_rfl)) (by unfold Func.isWrapper; first | (rw [if_pos (by decide +kernel)]; kernel_rfl) | (rw [if_neg (by decide +kernel)]; exact ⟨rfl, rfl⟩))
    (fun os started H enc _ => lifted os started H enc)
theorem proved : Rows.LexBlanksSaid := over
end Go.Proofs.Ytgekjbingaghaaa.lexBlanks
namespace Go.Proofs.Ytgekjbingaghaaa
/-- chapter 07: blanks, and notes, more between tokens turn nothing but the places. -/
theorem lexBlanks_holds : Rows.LexBlanksSaid := lexBlanks.proved
end Go.Proofs.Ytgekjbingaghaaa

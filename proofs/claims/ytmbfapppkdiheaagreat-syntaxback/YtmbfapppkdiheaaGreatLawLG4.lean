/- chapter 08: the text of a program that may be is parsed as that program. -/
import Derived.Test.YtmbfapppkdiheaaGreatRows
import Derived.Test.YtmbfapppkdiheaaGreatOwnD
import Derived.Test.YtmbfapppkdiheaaGreatOwnE
import Derived.Test.YtmbfapppkdiheaaGreatOwnF
import Derived.WalkKit
import Derived.ProofKit
import Derived.OpenShut
import Derived.ShutString
import Derived.ChangeOld
import Derived.Below
import Derived.SizedLaws
import Derived.Carry
set_option linter.all false
set_option linter.unnecessarySimpa false
set_option linter.unusedVariables false
set_option linter.unusedSimpArgs false
/- part LG4 -/
namespace Go.Val
theorem pure_SyntaxBack (a0 : TProgram) : scansionlaw08_SyntaxBack a0 = some true := SyntaxBack_of a0
end Go.Val
namespace Go.Proofs.YtmbfapppkdiheaaGreat.syntaxBack
open Go.ChangeShapes Go.WideShapes Go.ChangeAt Go.RowKit Go.Val
open Go.ChangeMaps (open_string shut_string)
theorem own : ownKnob Tryz.prog.godebug = none := by kernel_rfl
theorem laidOut : laidOutB Tryz.prog = true := by kernel_rfl
set_option maxRecDepth 100000 in
theorem lifted (os : Os) (started : os.Started) (H : Type) (enc : TypeId × Value → H) :
    ReturnsInHanded {} Tryz.checked os 4 .any (Rows.syntaxBackSpec.pre6 enc Tryz.prog Tryz.f4 Rows.syntaxBackRow.domain false) (Rows.syntaxBackSpec.post enc Tryz.prog Tryz.f4 false true false false) := by
  refine returnsInHanded_of_change_sized (C := Tryz.checked) own started (by kernel_rfl) Tryz.func4
    (ChangeSpec.witness6 (enc := enc) (C := Tryz.checked) false ⟨#[], #[.agg #[.slice none 0 0, .slice none 0 0]], []⟩ 8 (by kernel_rfl) (by kernel_rfl) (by kernel_rfl) (by kernel_rfl)) ?_
  intro W base args ds gs before hval0 hW hcnd hsz0 _
  have hval : ∀ (j : Nat) t v, Tryz.f4.params[j]? = some t → args[j]? = some v → Value.okWide Tryz.prog W .any base t v := hval0
  have hW' := hW
  obtain ⟨p, q, hA0, hV, rfl, hfz, hnd⟩ := hW
  have hA : DataW.TrodAll enc Tryz.prog W 0 (fun _ => true) true Tryz.f4.params.toList args.toList ds p := hA0
  rw [Tryz.params4] at hA hval
  obtain ⟨v0, vs0, d0, ds0, p0, q0, hargs, rfl, rfl, h0, r0⟩ := trodAll_cons hA
  obtain ⟨rfl, rfl, rfl⟩ := trodAll_nil r0
  obtain rfl : args = #[v0] := by cases args; simp_all
  obtain ⟨rfl, rfl⟩ := trodVars_none hV
  have ok0 := hval 0 25 v0 rfl rfl
  have lt0 : ∀ x ∈ p0, x.block < W.heap.size := by obtain ⟨m, hm⟩ := h0; exact DataW.trod_lt m _ _ _ hm
  have k0 := h0
  obtain ⟨fuel0, hf0⟩ := h0
  obtain ⟨x0, rel0, ty0, _⟩ := trod_relS (G := gh0 Tryz.prog W) (gh0_imm Tryz.prog W) closed0 fuel0 (by kernel_rfl) hf0
  obtain ⟨g0, hg0⟩ := isT_Program ty0
  have rv0 : RelV W (gh0 Tryz.prog W) (eProgram g0) v0 := by
    unfold Value.okWide at ok0
    rw [Tryz.underlying25] at ok0
    obtain ⟨cs, rfl, _⟩ := ok0
    rw [hg0] at rel0
    exact .agg _ _ rel0
  refine (law_calls (C := CT) (Go.Proofs.IR.ext_all) mixed (scansionlaw08_SyntaxBack_runs g0 (pure_SyntaxBack _)) (.cons 0 (.val (eProgram g0)) v0 [] [] rv0 (.nil _))).mono fun e W' ⟨he, bel⟩ => ?_
  subst he
  exact ⟨_, rfl, _, _, _, [], _, [], hW', trodAll_mk1 (shut_bool Tryz.underlying4 _), (trodAll_cons_mk (Below.trod laidOut (by kernel_rfl) (of_decide_eq_true (by kernel_rfl)) k0 bel lt0) trodAll_mk0), rfl, bel.frame _, fun h => by cases h⟩
theorem over : Rows.syntaxBackRow.holds Tryz.pinned (OpenSpec.ofChange Rows.syntaxBackSpec) :=
  OpenClaim.holds_of_wide 4 Tryz.f4 rfl rfl rfl rfl rfl rfl rfl ⟨rfl, rfl, rfl, rfl, rfl⟩ rfl rfl rfl rfl rfl (by kernel_rfl) Tryz.func4 (by kernel_rfl)
    (of_decide_eq_true (by kernel_rfl)) (by unfold Func.isWrapper; first | (rw [if_pos (by decide +kernel)]; kernel_rfl) | (rw [if_neg (by decide +kernel)]; exact ⟨rfl, rfl⟩))
    (fun os started H enc _ => lifted os started H enc)
theorem proved : Rows.SyntaxBackSaid := over
end Go.Proofs.YtmbfapppkdiheaaGreat.syntaxBack
namespace Go.Proofs.YtmbfapppkdiheaaGreat
/-- chapter 08: the text of a program that may be is parsed as that program. -/
theorem syntaxBack_holds : Rows.SyntaxBackSaid := syntaxBack.proved
end Go.Proofs.YtmbfapppkdiheaaGreat

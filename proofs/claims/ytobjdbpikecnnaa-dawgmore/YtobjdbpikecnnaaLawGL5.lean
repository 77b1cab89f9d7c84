/- The law DawgMore holds of every list of words and every two texts. -/
import Derived.Test.YtobjdbpikecnnaaRows
import Derived.Test.YtobjdbpikecnnaaOwnD
import Derived.Test.YtobjdbpikecnnaaOwnE
import Derived.Test.YtobjdbpikecnnaaOwnF
import Derived.WalkKit
import Derived.ProofKit
import Derived.OpenShut
import Derived.ShutString
import Derived.ChangeOld
import Derived.Below
import Derived.SizedLaws
import Derived.Carry
set_option linter.all false
set_option linter.unnecessarySimpa false
set_option linter.unusedVariables false
set_option linter.unusedSimpArgs false
/- part GL5 -/
namespace Go.Val
theorem pure_DawgMore (a0 : List Str) (a1 : Str) (a2 : Str) : scansionlaw17_DawgMore a0 a1 a2 = some true := DawgMore_of a0 a1 a2
end Go.Val
namespace Go.Proofs.Ytobjdbpikecnnaa.dawgMore
open Go.ChangeShapes Go.WideShapes Go.ChangeAt Go.RowKit Go.Val
open Go.ChangeMaps (open_string shut_string)
set_option linter.unusedVariables false
theorem own : ownKnob Try.prog.godebug = none := by kernel_rfl
theorem laidOut : laidOutB Try.prog = true := by kernel_rfl
set_option maxRecDepth 100000 in
theorem lifted (os : Os) (started : os.Started) (H : Type) (enc : TypeId × Value → H) :
    ReturnsInHanded {} Try.checked os 5 .any (Rows.dawgMoreSpec.pre6 enc Try.prog Try.f5 Rows.dawgMoreRow.domain false) (Rows.dawgMoreSpec.post enc Try.prog Try.f5 false true false false) := by
  refine returnsInHanded_of_change_sized (C := Try.checked) own started (by kernel_rfl) Try.func5
    (ChangeSpec.witness6 (enc := enc) (C := Try.checked) false ⟨#[], #[.slice none 0 0, .string ⟨#[]⟩, .string ⟨#[]⟩], []⟩ 8 (by kernel_rfl) (by kernel_rfl) (by kernel_rfl) (by kernel_rfl)) ?_
  intro W base args ds gs before hval0 hW hcnd hsz0 _
  have hval : ∀ (j : Nat) t v, Try.f5.params[j]? = some t → args[j]? = some v → Value.okWide Try.prog W .any base t v := hval0
  have hW' := hW
  obtain ⟨p, q, hA0, hV, rfl, hfz, hnd⟩ := hW
  have hA : DataW.TrodAll enc Try.prog W 0 (fun _ => true) true Try.f5.params.toList args.toList ds p := hA0
  rw [Try.params5] at hA hval
  obtain ⟨v0, vs0, d0, ds0, p0, q0, hargs, rfl, rfl, h0, r0⟩ := trodAll_cons hA
  obtain ⟨v1, vs1, d1, ds1, p1, q1, rfl, rfl, rfl, h1, r1⟩ := trodAll_cons r0
  obtain ⟨v2, vs2, d2, ds2, p2, q2, rfl, rfl, rfl, h2, r2⟩ := trodAll_cons r1
  obtain ⟨rfl, rfl, rfl⟩ := trodAll_nil r2
  obtain rfl : args = #[v0, v1, v2] := by cases args; simp_all
  obtain ⟨rfl, rfl⟩ := trodVars_none hV
  have ok0 := hval 0 22 v0 rfl rfl
  have ok1 := hval 1 9 v1 rfl rfl
  have ok2 := hval 2 9 v2 rfl rfl
  have lt0 : ∀ x ∈ p0, x.block < W.heap.size := by obtain ⟨m, hm⟩ := h0; exact DataW.trod_lt m _ _ _ hm
  have k0 := h0
  obtain ⟨fuel0, hf0⟩ := h0
  obtain ⟨x0, rel0, ty0, _⟩ := trod_rel (G := gh0 Try.prog W) (gh0_imm Try.prog W) 6 (by kernel_rfl) hf0
  obtain ⟨l0, hl0, _⟩ := isT_strs ty0
  have rv0 : RelV W (gh0 Try.prog W) (eL eS l0) v0 := by
    obtain ⟨a, len, cap, rfl⟩ := okWide_slice Try.underlying22 ok0
    rw [hl0] at rel0
    cases rel0 with
    | cons _ _ _ _ _ h _ => exact h
  obtain ⟨s1, rfl, rfl, rfl, hs1⟩ := open_string Try.underlying9 ok1 h1
  have rv1 : RelV W (gh0 Try.prog W) (.str (bs s1.data.toList)) (.string s1) := by rw [bs_of]; exact .str s1
  obtain ⟨s2, rfl, rfl, rfl, hs2⟩ := open_string Try.underlying9 ok2 h2
  have rv2 : RelV W (gh0 Try.prog W) (.str (bs s2.data.toList)) (.string s2) := by rw [bs_of]; exact .str s2
  refine (law_calls (C := CT) mixed (scansionlaw17_DawgMore_runs l0 s1.data.toList s2.data.toList (pure_DawgMore _ _ _)) (.cons 0 (.val (eL eS l0)) v0 _ _ rv0 (.cons _ (.val (.str (bs s1.data.toList))) _ _ _ rv1 (.cons _ (.val (.str (bs s2.data.toList))) _ [] [] rv2 (.nil _))))).mono fun e W' ⟨he, bel⟩ => ?_
  subst he
  exact ⟨_, rfl, _, _, _, [], _, [], hW', trodAll_mk1 (shut_bool Try.underlying4 _), (trodAll_cons_mk (Below.trod laidOut (by kernel_rfl) (of_decide_eq_true (by kernel_rfl)) k0 bel lt0) (trodAll_cons_mk (shut_string Try.underlying9 hs1) (trodAll_cons_mk (shut_string Try.underlying9 hs2) trodAll_mk0))), rfl, bel.frame _, fun h => by cases h⟩
theorem over : Rows.dawgMoreRow.holds Try.pinned (OpenSpec.ofChange Rows.dawgMoreSpec) :=
  OpenClaim.holds_of_wide 5 Try.f5 rfl rfl rfl rfl rfl rfl rfl ⟨rfl, rfl, rfl, rfl, rfl⟩ rfl rfl rfl rfl rfl (by kernel_rfl) Try.func5 (by kernel_rfl)
    (of_decide_eq_true (by kernel_rfl)) (by unfold Func.isWrapper; first | (rw [if_pos (by decide +kernel)]; kernel_rfl) | (rw [if_neg (by decide +kernel)]; exact ⟨rfl, rfl⟩))
    (fun os started H enc _ => lifted os started H enc)
theorem proved : Rows.DawgMoreSaid := over
end Go.Proofs.Ytobjdbpikecnnaa.dawgMore
namespace Go.Proofs.Ytobjdbpikecnnaa
/-- The law holds of every list of words and every two texts. -/
theorem dawgMore_holds : Rows.DawgMoreSaid := dawgMore.proved
end Go.Proofs.Ytobjdbpikecnnaa

/- Chapter 07: any set's text is one token, that tells the set. -/
import Derived.Test.YtgekjbingaghaaaRows
import Derived.Test.YtgekjbingaghaaaOwnD
import Derived.Test.YtgekjbingaghaaaOwnE
import Derived.Test.YtgekjbingaghaaaOwnF
import Derived.WalkKit
import Derived.ProofKit
import Derived.OpenShut
import Derived.ShutString
import Derived.ChangeOld
import Derived.Below
import Derived.SizedLaws
import Derived.Carry
set_option linter.all false
set_option linter.unnecessarySimpa false
set_option linter.unusedVariables false
set_option linter.unusedSimpArgs false
/- part IG8 -/
namespace Go.Val
theorem pure_LexSets (a0 : List TRange) (hb0 : a0.length * 16 ≤ 140737488355328) : scansionlaw07_LexSets a0 = some true := LexSets_of a0
end Go.Val
namespace Go.Proofs.Ytgekjbingaghaaa.lexSets
open Go.ChangeShapes Go.WideShapes Go.ChangeAt Go.RowKit Go.Val
open Go.ChangeMaps (open_string shut_string)
set_option linter.unusedVariables false
theorem own : ownKnob Try.prog.godebug = none := by kernel_rfl
theorem laidOut : laidOutB Try.prog = true := by kernel_rfl
set_option maxRecDepth 100000 in
theorem lifted (os : Os) (started : os.Started) (H : Type) (enc : TypeId × Value → H) :
    ReturnsInHanded {} Try.checked os 8 .any (Rows.lexSetsSpec.pre6 enc Try.prog Try.f8 Rows.lexSetsRow.domain false) (Rows.lexSetsSpec.post enc Try.prog Try.f8 false true false false) := by
  refine returnsInHanded_of_change_sized (C := Try.checked) own started (by kernel_rfl) Try.func8
    (ChangeSpec.witness6 (enc := enc) (C := Try.checked) false ⟨#[], #[.slice none 0 0], []⟩ 8 (by kernel_rfl) (by kernel_rfl) (by kernel_rfl) (by kernel_rfl)) ?_
  intro W base args ds gs before hval0 hW hcnd hsz0 _
  have hval : ∀ (j : Nat) t v, Try.f8.params[j]? = some t → args[j]? = some v → Value.okWide Try.prog W .any base t v := hval0
  have hW' := hW
  obtain ⟨p, q, hA0, hV, rfl, hfz, hnd⟩ := hW
  have hA : DataW.TrodAll enc Try.prog W 0 (fun _ => true) true Try.f8.params.toList args.toList ds p := hA0
  rw [Try.params8] at hA hval
  obtain ⟨v0, vs0, d0, ds0, p0, q0, hargs, rfl, rfl, h0, r0⟩ := trodAll_cons hA
  obtain ⟨rfl, rfl, rfl⟩ := trodAll_nil r0
  obtain rfl : args = #[v0] := by cases args; simp_all
  obtain ⟨rfl, rfl⟩ := trodVars_none hV
  have ok0 := hval 0 31 v0 rfl rfl
  have lt0 : ∀ x ∈ p0, x.block < W.heap.size := by obtain ⟨m, hm⟩ := h0; exact DataW.trod_lt m _ _ _ hm
  have k0 := h0
  obtain ⟨fuel0, hf0⟩ := h0
  obtain ⟨x0, rel0, ty0, _⟩ := trod_rel (G := gh0 Try.prog W) (gh0_imm Try.prog W) 6 (by kernel_rfl) hf0
  obtain ⟨l0, hl0, _⟩ := isT_ranges ty0
  have rv0 : RelV W (gh0 Try.prog W) (eL eRange l0) v0 := by
    obtain ⟨a, len, cap, rfl⟩ := okWide_slice Try.underlying31 ok0
    rw [hl0] at rel0
    cases rel0 with
    | cons _ _ _ _ _ h _ => exact h
  have hb0 : l0.length * 16 ≤ 140737488355328 := by
    obtain ⟨a, len, cap, rfl⟩ := okWide_slice Try.underlying31 ok0
    rcases len_slice Try.underlying31 hf0 rv0 with h | ⟨el, sp, hd, hl⟩
    · have : l0 = [] := List.map_eq_nil_iff.1 h
      rw [this]; simp
    · have hs := sized_slice (j := 0) (t := 31) hsz0 (by kernel_rfl) (by rw [hd]; rfl) Try.underlying31
      have hb : Try.checked.prog.bytesOf 80 = 16 := by kernel_rfl
      have hl' : el.length = l0.length := by rw [hl]; simp
      have hr := reachBytes_lt
      rw [hb, hl'] at hs
      omega
  refine (law_calls (C := CT) (Go.Proofs.IR.ext_all) mixed (scansionlaw07_LexSets_runs l0 (pure_LexSets _ hb0)) (.cons 0 (.val (eL eRange l0)) v0 [] [] rv0 (.nil _))).mono fun e W' ⟨he, bel⟩ => ?_
  subst he
  exact ⟨_, rfl, _, _, _, [], _, [], hW', trodAll_mk1 (shut_bool Try.underlying4 _), (trodAll_cons_mk (Below.trod laidOut (by kernel_rfl) (of_decide_eq_true (by kernel_rfl)) k0 bel lt0) trodAll_mk0), rfl, bel.frame _, fun h => by cases h⟩
theorem over : Rows.lexSetsRow.holds Try.pinned (OpenSpec.ofChange Rows.lexSetsSpec) :=
  OpenClaim.holds_of_wide 8 Try.f8 rfl rfl rfl rfl rfl rfl rfl ⟨rfl, rfl, rfl, rfl, rfl⟩ rfl rfl rfl rfl rfl (by kernel_rfl) Try.func8 (by kernel_rfl)
    (of_decide_eq_true (by kernel_rfl)) (by unfold Func.isWrapper; first | (rw [if_pos (by decide +kernel)]; kernel_rfl) | (rw [if_neg (by decide +kernel)]; exact ⟨rfl, rfl⟩))
    (fun os started H enc _ => lifted os started H enc)
theorem proved : Rows.LexSetsSaid := over
end Go.Proofs.Ytgekjbingaghaaa.lexSets
namespace Go.Proofs.Ytgekjbingaghaaa
/-- chapter 07: any set's text is one token, that tells the set. -/
theorem lexSets_holds : Rows.LexSetsSaid := lexSets.proved
end Go.Proofs.Ytgekjbingaghaaa

/- RulesTurned: where all rules ask for the signs next to a place alone, a text that stands behind a sign of no set plays no part ahead of it. -/
import Derived.Test.YtmfelmglmhjggaaGreatRows
import Derived.Test.YtmfelmglmhjggaaGreatOwnD
import Derived.Test.YtmfelmglmhjggaaGreatOwnF
import Derived.Test.YtmfelmglmhjggaaGreatOwnG
import Derived.WalkKit
import Derived.ProofKit
import Derived.OpenShut
import Derived.ShutString
import Derived.ChangeOld
import Derived.Below
import Derived.SizedLaws
import Derived.Carry
set_option linter.all false
set_option linter.unnecessarySimpa false
set_option linter.unusedVariables false
set_option linter.unusedSimpArgs false
namespace Go.Val
theorem pure_RulesTurned (a0:List Int) (a1:Int) (hi1: -9223372036854775808≤a1∧a1≤9223372036854775807):aF a0 a1=some true:=rQ a0 a1
end Go.Val
namespace Go.Proofs.YtmfelmglmhjggaaGreat.rulesTurned
open Go.ChangeShapes Go.WideShapes Go.ChangeAt Go.RowKit Go.Val
open Go.ChangeMaps (open_string shut_string)
theorem own:ownKnob Tryz.prog.godebug=none:=by kernel_rfl
theorem laidOut:laidOutB Tryz.prog=true:=by kernel_rfl
set_option maxRecDepth 100000 in
theorem lifted (os:Os) (started:os.Started) (H:Type) (enc:TypeId×Value→H):
  ReturnsInHanded {} Tryz.checked os 5 .any (Rows.rulesTurnedSpec.pre6 enc Tryz.prog Tryz.f5 Rows.rulesTurnedRow.domain false) (Rows.rulesTurnedSpec.post enc Tryz.prog Tryz.f5 false true false false):=by
 refine returnsInHanded_of_change_sized (C:=Tryz.checked) own started (by kernel_rfl) Tryz.func5
  (ChangeSpec.witness6 (enc:=enc) (C:=Tryz.checked) false ⟨#[],#[.slice none 0 0,.int .i64 0],[]⟩ 8 (by kernel_rfl) (by kernel_rfl) (by kernel_rfl) (by kernel_rfl)) ?_
 intro W base args ds gs before hval0 hW hcnd hsz0 _
 have hval:∀ (j:Nat) t v,Tryz.f5.params[j]? =some t→args[j]? =some v→Value.okWide Tryz.prog W .any base t v:=hval0
 have hW':=hW
 obtain ⟨p,q,hA0,hV,rfl,hfz,hnd⟩:=hW
 have hA:DataW.TrodAll enc Tryz.prog W 0 (fun _=>true) true Tryz.f5.params.toList args.toList ds p:=hA0
 rw[Tryz.params5]at hA hval
 obtain ⟨v0,vs0,d0,ds0,p0,q0,hargs,rfl,rfl,h0,r0⟩:=trodAll_cons hA
 obtain ⟨v1,vs1,d1,ds1,p1,q1,rfl,rfl,rfl,h1,r1⟩:=trodAll_cons r0
 obtain ⟨rfl,rfl,rfl⟩:=trodAll_nil r1
 obtain rfl:args= #[v0,v1]:=by cases args;simp_all
 obtain ⟨rfl,rfl⟩:=trodVars_none hV
 have ok0:=hval 0 26 v0 rfl rfl
 have ok1:=hval 1 3 v1 rfl rfl
 have lt0:∀ x∈p0,x.block < W.heap.size:=by obtain ⟨m,hm⟩:=h0;exact DataW.trod_lt m _ _ _ hm
 have k0:=h0
 obtain ⟨fuel0,hf0⟩:=h0
 obtain ⟨x0,rel0,ty0,_⟩:=adN (G:=gh0 Tryz.prog W) (ajG Tryz.prog W) 6 (by kernel_rfl) hf0
 obtain ⟨l0,hl0,_⟩:=aoc ty0
 have rv0:RelV W (gh0 Tryz.prog W) (eL eI l0) v0:=by
  obtain ⟨a,len,cap,rfl⟩:=okWide_slice Tryz.underlying26 ok0
  rw[hl0]at rel0
  cases rel0 with
  | cons _ _ _ _ _ h _=>exact h
 obtain ⟨n1,rfl,rfl,rfl,hn1⟩:=open_int Tryz.underlying3 ok1 h1
 have hi1: -9223372036854775808≤n1∧n1≤9223372036854775807:=by
  have:=hn1
  simp[Lit.wf,IntKind.min,IntKind.max,IntKind.signed,IntKind.bits]at this
  omega
 refine (alR (C:=CT) (Go.Proofs.IR.asA) mixed (gY l0 n1 (pure_RulesTurned _ _ hi1)) (.cons 0 (.val (eL eI l0)) v0 _ _ rv0 (.cons _ (.val (.int .i64 n1)) _ [] [] (.int _ _) (.nil _)))).mono fun e W' ⟨he,bel⟩=>?_
 subst he
 exact ⟨_,rfl,_,_,_,[],_,[],hW',trodAll_mk1 (shut_bool Tryz.underlying4 _),(trodAll_cons_mk (Below.trod laidOut (by kernel_rfl) (of_decide_eq_true (by kernel_rfl)) k0 bel lt0) (trodAll_cons_mk (shut_int Tryz.underlying3 hn1) trodAll_mk0)),rfl,bel.frame _,fun h=>by cases h⟩
theorem over:Rows.rulesTurnedRow.holds Tryz.pinned (OpenSpec.ofChange Rows.rulesTurnedSpec):=
 OpenClaim.holds_of_wide 5 Tryz.f5 rfl rfl rfl rfl rfl rfl rfl ⟨rfl,rfl,rfl,rfl,rfl⟩ rfl rfl rfl rfl rfl (by kernel_rfl) Tryz.func5 (by kernel_rfl)
  (of_decide_eq_true (by kernel_rfl)) (by unfold Func.isWrapper;first | (rw[if_pos (by decide+kernel)];kernel_rfl) | (rw[if_neg (by decide+kernel)];exact ⟨rfl,rfl⟩))
  (fun os started H enc _=>lifted os started H enc)
theorem proved:Rows.RulesTurnedSaid:=over
end Go.Proofs.YtmfelmglmhjggaaGreat.rulesTurned
namespace Go.Proofs.YtmfelmglmhjggaaGreat
theorem rulesTurned_holds:Rows.RulesTurnedSaid:=rulesTurned.proved
end Go.Proofs.YtmfelmglmhjggaaGreat

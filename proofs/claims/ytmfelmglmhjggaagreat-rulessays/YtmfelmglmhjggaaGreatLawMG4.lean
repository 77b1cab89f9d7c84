/- RulesSays: at each place of any text the first rule fits that does so by its words alone, and says whether it breaks there. -/
import Derived.Test.YtmfelmglmhjggaaGreatRows
import Derived.Test.YtmfelmglmhjggaaGreatOwnD
import Derived.Test.YtmfelmglmhjggaaGreatOwnG
import Derived.Test.YtmfelmglmhjggaaGreatOwnH
import Derived.WalkKit
import Derived.ProofKit
import Derived.OpenShut
import Derived.ShutString
import Derived.ChangeOld
import Derived.Below
import Derived.SizedLaws
import Derived.Carry
set_option linter.all false
set_option linter.unnecessarySimpa false
set_option linter.unusedVariables false
set_option linter.unusedSimpArgs false
namespace Go.Val
theorem pure_RulesSays(a0:bL)(a1:List Int):af a0 a1=some true:=zG a0 a1
end Go.Val
namespace Go.Proofs.YtmfelmglmhjggaaGreat.rulesSays
open Go.ChangeShapes Go.WideShapes Go.ChangeAt Go.RowKit Go.Val
open Go.ChangeMaps (open_string shut_string)
theorem own:ownKnob Tryz.prog.godebug=none:=by kernel_rfl
theorem laidOut:laidOutB Tryz.prog=true:=by kernel_rfl
set_option maxRecDepth 100000 in
theorem lifted(os:Os)(started:os.Started)(H:Type)(enc:TypeId×Value→H):
  ReturnsInHanded {} Tryz.checked os 4 .any (Rows.rulesSaysSpec.pre6 enc Tryz.prog Tryz.f4 Rows.rulesSaysRow.domain false) (Rows.rulesSaysSpec.post enc Tryz.prog Tryz.f4 false true false false):=by
 refine returnsInHanded_of_change_sized (C:=Tryz.checked) own started (by kernel_rfl) Tryz.func4
  (ChangeSpec.witness6 (enc:=enc) (C:=Tryz.checked) false ⟨#[],#[.agg #[.slice none 0 0,.slice none 0 0],.slice none 0 0],[]⟩ 8 (by kernel_rfl) (by kernel_rfl) (by kernel_rfl) (by kernel_rfl)) ?_
 intro W base args ds gs before hval0 hW hcnd hsz0 _
 have hval:∀(j:Nat) t v,Tryz.f4.params[j]? =some t→args[j]? =some v→Value.okWide Tryz.prog W .any base t v:=hval0
 have hW':=hW
 obtain⟨p,q,hA0,hV,rfl,hfz,hnd⟩:=hW
 have hA:DataW.TrodAll enc Tryz.prog W 0 (fun _=>true) true Tryz.f4.params.toList args.toList ds p:=hA0
 rw[Tryz.params4]at hA hval
 obtain⟨v0,vs0,d0,ds0,p0,q0,hargs,rfl,rfl,h0,r0⟩:=trodAll_cons hA
 obtain⟨v1,vs1,d1,ds1,p1,q1,rfl,rfl,rfl,h1,r1⟩:=trodAll_cons r0
 obtain⟨rfl,rfl,rfl⟩:=trodAll_nil r1
 obtain rfl:args= #[v0,v1]:=by cases args;simp_all
 obtain⟨rfl,rfl⟩:=trodVars_none hV
 have ok0:=hval 0 25 v0 rfl rfl
 have ok1:=hval 1 26 v1 rfl rfl
 have lt0:∀x∈p0,x.block < W.heap.size:=by obtain⟨m,hm⟩:=h0;exact DataW.trod_lt m _ _ _ hm
 have k0:=h0
 obtain⟨fuel0,hf0⟩:=h0
 obtain⟨x0,rel0,ty0,_⟩:=yU (G:=gh0 Tryz.prog W) (abU Tryz.prog W) asn fuel0 (by kernel_rfl) hf0
 obtain⟨g0,hg0⟩:=acN ty0
 have rv0:cU W (gh0 Tryz.prog W) (gB g0) v0:=by
  unfold Value.okWide at ok0
  rw[Tryz.underlying25]at ok0
  obtain⟨cs,rfl,_⟩:=ok0
  rw[hg0]at rel0
  exact .agg _ _ rel0
 have lt1:∀x∈p1,x.block < W.heap.size:=by obtain⟨m,hm⟩:=h1;exact DataW.trod_lt m _ _ _ hm
 have k1:=h1
 obtain⟨fuel1,hf1⟩:=h1
 obtain⟨x1,rel1,ty1,_⟩:=aej (G:=gh0 Tryz.prog W) (abU Tryz.prog W) 6 (by kernel_rfl) hf1
 obtain⟨l1,hl1,_⟩:=ao2 ty1
 have rv1:cU W (gh0 Tryz.prog W) (eL eI l1) v1:=by
  obtain⟨a,len,cap,rfl⟩:=okWide_slice Tryz.underlying26 ok1
  rw[hl1]at rel1
  cases rel1 with
  |cons _ _ _ _ _ h _=>exact h
 refine(ajb (C:=CT) (Go.Proofs.IR.arl) mixed (jL g0 l1 (pure_RulesSays _ _)) (.cons 0 (.val (gB g0)) v0 _ _ rv0 (.cons _ (.val (eL eI l1)) v1 [] [] rv1 (.nil _)))).mono fun e W' ⟨he,bel⟩=>?_
 subst he
 exact⟨_,rfl,_,_,_,[],_,[],hW',trodAll_mk1 (shut_bool Tryz.underlying4 _),(trodAll_cons_mk (Below.trod laidOut (by kernel_rfl) (of_decide_eq_true (by kernel_rfl)) k0 bel lt0) (trodAll_cons_mk (Below.trod laidOut (by kernel_rfl) (of_decide_eq_true (by kernel_rfl)) k1 bel lt1) trodAll_mk0)),rfl,bel.frame _,fun h=>by cases h⟩
theorem over:Rows.rulesSaysRow.holds Tryz.pinned (OpenSpec.ofChange Rows.rulesSaysSpec):=
 OpenClaim.holds_of_wide 4 Tryz.f4 rfl rfl rfl rfl rfl rfl rfl ⟨rfl,rfl,rfl,rfl,rfl⟩ rfl rfl rfl rfl rfl (by kernel_rfl) Tryz.func4 (by kernel_rfl)
  (of_decide_eq_true (by kernel_rfl)) (by unfold Func.isWrapper;first|(rw[if_pos (by decide+kernel)];kernel_rfl)|(rw[if_neg (by decide+kernel)];exact⟨rfl,rfl⟩))
  (fun os started H enc _=>lifted os started H enc)
theorem proved:Rows.RulesSaysSaid:=over
end Go.Proofs.YtmfelmglmhjggaaGreat.rulesSays
namespace Go.Proofs.YtmfelmglmhjggaaGreat
theorem rulesSays_holds:Rows.RulesSaysSaid:=rulesSays.proved
end Go.Proofs.YtmfelmglmhjggaaGreat

/- RulesFirst: rules behind one that fits everywhere play no part; without rules a text breaks everywhere; where the first rule fits nowhere the others say it. -/
import Derived.Test.YtmfelmglmhjggaaGreatRows
import Derived.Test.YtmfelmglmhjggaaGreatOwnD
import Derived.Test.YtmfelmglmhjggaaGreatOwnF
import Derived.Test.YtmfelmglmhjggaaGreatOwnG
import Derived.WalkKit
import Derived.ProofKit
import Derived.OpenShut
import Derived.ShutString
import Derived.ChangeOld
import Derived.Below
import Derived.SizedLaws
import Derived.Carry
set_option linter.all false
set_option linter.unnecessarySimpa false
set_option linter.unusedVariables false
set_option linter.unusedSimpArgs false
namespace Go.Val
theorem pure_RulesFirst (a0:aW) (a1:List Int) (a2:Bool):av a0 a1 a2=some true:=wF a0 a1 a2
end Go.Val
namespace Go.Proofs.YtmfelmglmhjggaaGreat.rulesFirst
open Go.ChangeShapes Go.WideShapes Go.ChangeAt Go.RowKit Go.Val
open Go.ChangeMaps (open_string shut_string)
theorem own:ownKnob Tryz.prog.godebug=none:=by kernel_rfl
theorem laidOut:laidOutB Tryz.prog=true:=by kernel_rfl
set_option maxRecDepth 100000 in
theorem lifted (os:Os) (started:os.Started) (H:Type) (enc:TypeId×Value→H):
  ReturnsInHanded {} Tryz.checked os 3 .any (Rows.rulesFirstSpec.pre6 enc Tryz.prog Tryz.f3 Rows.rulesFirstRow.domain false) (Rows.rulesFirstSpec.post enc Tryz.prog Tryz.f3 false true false false):=by
 refine returnsInHanded_of_change_sized (C:=Tryz.checked) own started (by kernel_rfl) Tryz.func3
  (ChangeSpec.witness6 (enc:=enc) (C:=Tryz.checked) false ⟨#[],#[.agg #[.slice none 0 0,.slice none 0 0],.slice none 0 0,.bool false],[]⟩ 8 (by kernel_rfl) (by kernel_rfl) (by kernel_rfl) (by kernel_rfl)) ?_
 intro W base args ds gs before hval0 hW hcnd hsz0 _
 have hval:∀ (j:Nat) t v,Tryz.f3.params[j]? =some t→args[j]? =some v→Value.okWide Tryz.prog W .any base t v:=hval0
 have hW':=hW
 obtain ⟨p,q,hA0,hV,rfl,hfz,hnd⟩:=hW
 have hA:DataW.TrodAll enc Tryz.prog W 0 (fun _=>true) true Tryz.f3.params.toList args.toList ds p:=hA0
 rw[Tryz.params3]at hA hval
 obtain ⟨v0,vs0,d0,ds0,p0,q0,hargs,rfl,rfl,h0,r0⟩:=trodAll_cons hA
 obtain ⟨v1,vs1,d1,ds1,p1,q1,rfl,rfl,rfl,h1,r1⟩:=trodAll_cons r0
 obtain ⟨v2,vs2,d2,ds2,p2,q2,rfl,rfl,rfl,h2,r2⟩:=trodAll_cons r1
 obtain ⟨rfl,rfl,rfl⟩:=trodAll_nil r2
 obtain rfl:args= #[v0,v1,v2]:=by cases args;simp_all
 obtain ⟨rfl,rfl⟩:=trodVars_none hV
 have ok0:=hval 0 25 v0 rfl rfl
 have ok1:=hval 1 26 v1 rfl rfl
 have ok2:=hval 2 4 v2 rfl rfl
 have lt0:∀ x∈p0,x.block < W.heap.size:=by obtain ⟨m,hm⟩:=h0;exact DataW.trod_lt m _ _ _ hm
 have k0:=h0
 obtain ⟨fuel0,hf0⟩:=h0
 obtain ⟨x0,rel0,ty0,_⟩:=zh (G:=gh0 Tryz.prog W) (adz Tryz.prog W) avE fuel0 (by kernel_rfl) hf0
 obtain ⟨g0,hg0⟩:=ac3 ty0
 have rv0:cC W (gh0 Tryz.prog W) (fP g0) v0:=by
  unfold Value.okWide at ok0
  rw[Tryz.underlying25]at ok0
  obtain ⟨cs,rfl,_⟩:=ok0
  rw[hg0]at rel0
  exact .agg _ _ rel0
 have lt1:∀ x∈p1,x.block < W.heap.size:=by obtain ⟨m,hm⟩:=h1;exact DataW.trod_lt m _ _ _ hm
 have k1:=h1
 obtain ⟨fuel1,hf1⟩:=h1
 obtain ⟨x1,rel1,ty1,_⟩:=afl (G:=gh0 Tryz.prog W) (adz Tryz.prog W) 6 (by kernel_rfl) hf1
 obtain ⟨l1,hl1,_⟩:=aqO ty1
 have rv1:cC W (gh0 Tryz.prog W) (eL eI l1) v1:=by
  obtain ⟨a,len,cap,rfl⟩:=okWide_slice Tryz.underlying26 ok1
  rw[hl1]at rel1
  cases rel1 with
  | cons _ _ _ _ _ h _=>exact h
 obtain ⟨bo2,rfl,rfl,rfl⟩:=open_bool Tryz.underlying4 ok2 h2
 refine (anC (C:=CT) (Go.Proofs.IR.auw) mixed (iX g0 l1 bo2 (pure_RulesFirst _ _ _)) (.cons 0 (.val (fP g0)) v0 _ _ rv0 (.cons _ (.val (eL eI l1)) v1 _ _ rv1 (.cons _ (.val (.bool bo2)) _ [] [] (.bool _) (.nil _))))).mono fun e W' ⟨he,bel⟩=>?_
 subst he
 exact ⟨_,rfl,_,_,_,[],_,[],hW',trodAll_mk1 (shut_bool Tryz.underlying4 _),(trodAll_cons_mk (Below.trod laidOut (by kernel_rfl) (of_decide_eq_true (by kernel_rfl)) k0 bel lt0) (trodAll_cons_mk (Below.trod laidOut (by kernel_rfl) (of_decide_eq_true (by kernel_rfl)) k1 bel lt1) (trodAll_cons_mk (shut_bool Tryz.underlying4 bo2) trodAll_mk0))),rfl,bel.frame _,fun h=>by cases h⟩
theorem over:Rows.rulesFirstRow.holds Tryz.pinned (OpenSpec.ofChange Rows.rulesFirstSpec):=
 OpenClaim.holds_of_wide 3 Tryz.f3 rfl rfl rfl rfl rfl rfl rfl ⟨rfl,rfl,rfl,rfl,rfl⟩ rfl rfl rfl rfl rfl (by kernel_rfl) Tryz.func3 (by kernel_rfl)
  (of_decide_eq_true (by kernel_rfl)) (by unfold Func.isWrapper;first | (rw[if_pos (by decide+kernel)];kernel_rfl) | (rw[if_neg (by decide+kernel)];exact ⟨rfl,rfl⟩))
  (fun os started H enc _=>lifted os started H enc)
theorem proved:Rows.RulesFirstSaid:=over
end Go.Proofs.YtmfelmglmhjggaaGreat.rulesFirst
namespace Go.Proofs.YtmfelmglmhjggaaGreat
theorem rulesFirst_holds:Rows.RulesFirstSaid:=rulesFirst.proved
end Go.Proofs.YtmfelmglmhjggaaGreat

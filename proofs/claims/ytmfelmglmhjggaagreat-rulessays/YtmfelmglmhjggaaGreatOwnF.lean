/- A value semantics of the model's programs, sound against it, and functions read off the given program with the proofs that it runs so; no condition. -/
import Derived.Test.YtmfelmglmhjggaaGreatOwnC
import Derived.Test.YtmfelmglmhjggaaGreatOwnD
import Derived.Test.YtmfelmglmhjggaaGreatOwnE
set_option linter.all false
set_option linter.unnecessarySimpa false
set_option linter.unusedVariables false
set_option linter.unusedSimpArgs false
namespace Go.Val
set_option maxRecDepth 20000
open Go.Proofs
theorem rp(n:aD){h:bn}{a:(cM×Int)}(e:jr n=some a):
  cq CT 87 [.cv (.val (.agg [.int .i64 n.Kind,.int .i64 n.Set,.sl (List.map bW n.Kids)]))] h fun o h'=>o=[.cv (.val (.agg [.bool a.1.Null,.sl (List.map eI a.1.Sets),.sl (List.map eI a.1.First),.sl (List.map eI a.1.Last),.sl (List.map (eL eI) a.1.Follow)])),.cv (.val (.int .i64 a.2))]∧h'=h:=by
 refine bg Tryz.func87 fun hwf hu=>?_
 obtain⟨D,hD,hr⟩:=Holds.one e
 dsimp only[jr]at hr
 change aO _ _ _ _ _ ⟨[(0,.cv (.val (.agg [.int .i64 n.Kind,.int .i64 n.Set,.sl (List.map bW n.Kids)])))],h.on []⟩
 refine A_s ?_
 refine al (aw (fD 1 ?_))
 obtain⟨r,eF1,hr⟩:=hr.bind
 refine aT (out:=?o1) (hp:=?p1) ?c1 ?d1 ?_
 case c1=>exact sf n eF1
 case d1=>rfl
 refine fj ?_
 refine ak hr (fun cF2 hr=>?_) (fun cF2 hr=>?_)
 ·refine A_s ?_
  refine bk ?_
  obtain rfl:=hD _ hr
  exact(fa (cm (fU (aU (os':=[none,some (.cells [.val (.bool false),.val (.sl (List.map eI ([]:List Int))),.val (.sl (List.map eI ([]:List Int))),.val (.sl (List.map eI ([]:List Int))),.val (.sl (List.map (eL eI) ([]:List (List Int))))])]) (sl:=[(2,.cv (.val (.ptr (some (h.n+1,0))))),(3,.cv (.val (.int .i64 (1:Int))))]) hwf) (by simp (disch:=(apply dd.mk;decide)) only[go_sem,Nat.reduceAdd,Nat.reduceLT,Nat.reduceMul,Nat.reduceLeDiff,Int.reduceToNat,Int.reduceLT,Int.reduceLE,Tryz.results87,ai qy,eT,fB.eq_2,dH,cF2]) (Drops.on (os:=[none,some (.cells [.val (.bool false),.val (.sl (List.map eI ([]:List Int))),.val (.sl (List.map eI ([]:List Int))),.val (.sl (List.map eI ([]:List Int))),.val (.sl (List.map (eL eI) ([]:List (List Int))))])]) (os':=[]) hwf (nR _) (by simp (disch:=(apply dd.mk;decide)) only[go_sem,Nat.reduceAdd,Nat.reduceLT,Nat.reduceMul,Nat.reduceLeDiff,Int.reduceToNat,Int.reduceLT,Int.reduceLE,cF2])) ⟨rfl,aE hwf⟩)))
 ·refine fD 1 ?_
  obtain⟨r1,eF3,hr⟩:=hr.bind
  refine aT (out:=?o3) (hp:=?p3) ?c3 ?d3 ?_
  case c3=>exact rk n eF3
  case d3=>rfl
  refine fj ?_
  refine ak hr (fun cF4 hr=>?_) (fun cF4 hr=>?_)
  ·refine A_s ?_
   refine bk ?_
   obtain rfl:=hD _ hr
   exact(fa (cm (fU (aU (os':=[none,some (.cells [.val (.bool false),.val (.sl (List.map eI ([]:List Int))),.val (.sl (List.map eI ([]:List Int))),.val (.sl (List.map eI ([]:List Int))),.val (.sl (List.map (eL eI) ([]:List (List Int))))])]) (sl:=[(2,.cv (.val (.ptr (some (h.n+1,0))))),(3,.cv (.val (.int .i64 (3:Int))))]) hwf) (by simp (disch:=(apply dd.mk;decide)) only[go_sem,Nat.reduceAdd,Nat.reduceLT,Nat.reduceMul,Nat.reduceLeDiff,Int.reduceToNat,Int.reduceLT,Int.reduceLE,Tryz.results87,ai qy,eT,fB.eq_2,dH,cF2,cF4]) (Drops.on (os:=[none,some (.cells [.val (.bool false),.val (.sl (List.map eI ([]:List Int))),.val (.sl (List.map eI ([]:List Int))),.val (.sl (List.map eI ([]:List Int))),.val (.sl (List.map (eL eI) ([]:List (List Int))))])]) (os':=[]) hwf (nR _) (by simp (disch:=(apply dd.mk;decide)) only[go_sem,Nat.reduceAdd,Nat.reduceLT,Nat.reduceMul,Nat.reduceLeDiff,Int.reduceToNat,Int.reduceLT,Int.reduceLE,cF2,cF4])) ⟨rfl,aE hwf⟩)))
  ·refine az (dC (w_n ?_))
   refine A_s ?_
   refine al (tF (s1:=⟨[(1,.cv (.val (.ptr (some (h.n+0,0))))),(2,.cv (.val (.ptr (some (h.n+1,0))))),(4,.cv (.val (.ptr (some (h.n+2,0)))))],h.on [some (.cells [.val (.int .i64 n.Kind),.val (.int .i64 n.Set),.val (.sl (List.map bW n.Kids))]),some (.cells [.val (.bool false),.nil,.nil,.nil,.nil]),some (.cells [.val (.bool false),.row 3 (List.map eI []),.val (.sl (List.map eI ([]:List Int))),.val (.sl (List.map eI ([]:List Int))),.row 26 (List.map (eL eI) [])])]⟩) A_c ?_)
   refine cB ?_
   refine aG 1 ?_
   obtain⟨r2,eF5,hr⟩:=hr.bind
   refine aT (out:=?o5) (hp:=?p5) ?c5 ?d5 ?_
   case c5=>(refine qC (cM.mk false [] ([]:List Int) ([]:List Int) []) n (h.n+2) ?_ eF5;(simp (disch:=(apply dd.mk;decide)) only[go_sem,Nat.reduceAdd,Nat.reduceLT,Nat.reduceMul,Nat.reduceLeDiff,Int.reduceToNat,Int.reduceLT,Int.reduceLE] <;> rfl))
   case d5=>rfl
   refine fj ?_
   refine al (cT [0,1,2,3,4,5,6,7,8,9,10,11] (by rfl) ?_)
   refine bU [0,1,2,3,4,5,6] [6,5,4,3,2,1,0] ?_
   refine dt [5,4,3,2] ?_
   refine bU [8] [8,5,4,3,2] ?_
   refine dt [5,4] ?_
   refine bU [10] [10,5,4] ?_
   refine dt [] ?_
   refine df ?_
   refine w_n (al ?_)
   refine tF (.fix _ _ (.cell (h.n+2) 1) 3 _ (by simp (disch:=(apply dd.mk;decide)) only[go_sem,Nat.reduceAdd,Nat.reduceLT,Nat.reduceMul,Nat.reduceLeDiff,Int.reduceToNat,Int.reduceLT,Int.reduceLE,cF2,cF4];rfl) (.refl _)) ?_
   refine tF (.fix _ _ (.cell (h.n+2) 4) 26 _ (by simp (disch:=(apply dd.mk;decide)) only[go_sem,Nat.reduceAdd,Nat.reduceLT,Nat.reduceMul,Nat.reduceLeDiff,Int.reduceToNat,Int.reduceLT,Int.reduceLE,cF2,cF4];rfl) (.refl _)) ?_
   refine A_n ?_
   refine bk ?_
   obtain rfl:=hD _ hr
   exact(fU (aU (os':=[none,some (.cells [.val (.bool (cM.mk r2.1.null r2.2.Sets r2.1.first r2.1.last r2.2.Follow).Null),.val (.sl (List.map eI (cM.mk r2.1.null r2.2.Sets r2.1.first r2.1.last r2.2.Follow).Sets)),.val (.sl (List.map eI (cM.mk r2.1.null r2.2.Sets r2.1.first r2.1.last r2.2.Follow).First)),.val (.sl (List.map eI (cM.mk r2.1.null r2.2.Sets r2.1.first r2.1.last r2.2.Follow).Last)),.val (.sl (List.map (eL eI) (cM.mk r2.1.null r2.2.Sets r2.1.first r2.1.last r2.2.Follow).Follow))])]) (sl:=[(2,.cv (.val (.ptr (some (h.n+1,0))))),(3,.cv (.val (.int .i64 (0:Int))))]) hwf) (by simp (disch:=(apply dd.mk;decide)) only[go_sem,Nat.reduceAdd,Nat.reduceLT,Nat.reduceMul,Nat.reduceLeDiff,Int.reduceToNat,Int.reduceLT,Int.reduceLE,Tryz.results87,ai qy,eT,fB.eq_2,dH,cF2,cF4]) (Drops.on (os:=[none,some (.cells [.val (.bool (cM.mk r2.1.null r2.2.Sets r2.1.first r2.1.last r2.2.Follow).Null),.val (.sl (List.map eI (cM.mk r2.1.null r2.2.Sets r2.1.first r2.1.last r2.2.Follow).Sets)),.val (.sl (List.map eI (cM.mk r2.1.null r2.2.Sets r2.1.first r2.1.last r2.2.Follow).First)),.val (.sl (List.map eI (cM.mk r2.1.null r2.2.Sets r2.1.first r2.1.last r2.2.Follow).Last)),.val (.sl (List.map (eL eI) (cM.mk r2.1.null r2.2.Sets r2.1.first r2.1.last r2.2.Follow).Follow))])]) (os':=[]) hwf (nR _) (by simp (disch:=(apply dd.mk;decide)) only[go_sem,Nat.reduceAdd,Nat.reduceLT,Nat.reduceMul,Nat.reduceLeDiff,Int.reduceToNat,Int.reduceLT,Int.reduceLE,cF2,cF4])) ⟨rfl,aE hwf⟩)
theorem lE{h:bn}{a:List Int}(e:iA=some a):
  cq CT 159 [] h fun o h'=>o=[.cv (.val (.sl (List.map eI a)))]∧h'=h:=by
 refine bg Tryz.func159 fun hwf hu=>?_
 obtain⟨D,hD,hr⟩:=Holds.one e
 dsimp only[iA]at hr
 change aO _ _ _ _ _ ⟨[],h.on []⟩
 iterate 2 refine A_s ?_
 refine bk ?_
 obtain rfl:=hD _ hr
 exact(aN (.fix _ _ (.slot 0) 3 _ kB (aU (os':=[]) (sl:=[(0,.cv (.val (.sl (List.map eI ([(0:Int)])))))]) hwf)) ⟨rfl,aE hwf⟩)
end Go.Val
namespace Go.Val
theorem fZ(s:List Int)(sg:Int)(A:cM)(p q:Nat){h:bn}(hp:h.at_ p=some (.cells [.val (.int .u64 sg)]))(hq:h.at_ q=some (.cells [.val (.bool A.Null),wL eI A.Sets,wL eI A.First,wL eI A.Last,wL (eL eI) A.Follow]))(hn:p≠q){a:List Int}(e:cw s sg A=some a):
  cq CT 225 [rI s,.cv (.val (.fn 224 [] [.ptr (some (p,0)),.ptr (some (q,0))]))] h fun o h'=>o=[vL eI a]∧h'=h:=
 cq.hand (C:=CT) (show tU 225 _ h _ h from⟨rfl,.inr (.inr (.inr (.inr (.inr (.inl ⟨rfl,s,sg,A,p,q,a,rfl,hp,hq,e,rfl⟩)))))⟩) ⟨rfl,rfl⟩
end Go.Val
namespace Go.Val
set_option maxRecDepth 20000
open Go.Proofs
theorem sa(a_:cM)(at_:List Int)(sign:Int){h:bn}{a:List Int}(e:cQ a_ at_ sign=some a):
  cq CT 160 [.cv (.val (.agg [.bool a_.Null,.sl (List.map eI a_.Sets),.sl (List.map eI a_.First),.sl (List.map eI a_.Last),.sl (List.map (eL eI) a_.Follow)])),vL eI at_,.cv (.val (.int .u64 sign))] h fun o h'=>o=[vL eI a]∧h'=h:=by
 refine bg Tryz.func160 fun hwf hu=>?_
 obtain⟨D,hD,hr⟩:=Holds.one e
 dsimp only[cQ]at hr
 change aO _ _ _ _ _ ⟨[(0,.cv (.val (.agg [.bool a_.Null,.sl (List.map eI a_.Sets),.sl (List.map eI a_.First),.sl (List.map eI a_.Last),.sl (List.map (eL eI) a_.Follow)]))),(1,vL eI at_),(2,.cv (.val (.int .u64 sign)))],h.on []⟩
 iterate 2 refine A_s ?_
 refine al (A_s ?_)
 refine w_K (D:=D) (fun xX:List Int=>⟨[(3,vP (h.n+0)),(5,vP (h.n+1)),(7,rI xX)],h.on [some (.cells [.val (.bool a_.Null),wL eI a_.Sets,wL eI a_.First,wL eI a_.Last,wL (eL eI) a_.Follow]),some (.cells [.val (.int .u64 sign)])]⟩) (fun xX:List Int=>cQ.k1 a_ sign xX) (fun all s' hr ht=>?_) ?_
 ·dsimp only[cQ.k1]at hr ht
  refine(dG ht ?_)
  refine A_s ?_
  refine fD 1 ?_
  obtain⟨r,eF1,hr⟩:=hr.bind
  refine aT (out:=?o1) (hp:=?p1) ?c1 ?d1 ?_
  case c1=>exact cS all [] eF1
  case d1=>rfl
  refine aG 1 ?_
  obtain⟨r1,eF2,hr⟩:=hr.bind
  refine aT (out:=?o2) (hp:=?p2) ?c2 ?d2 ?_
  case c2=>(refine fZ r sign a_ (h.n+1) (h.n+0) ?_ ?_ ?_ eF2;exact cN;exact cN;exact qv)
  case d2=>rfl
  refine fj ?_
  refine bk ?_
  obtain rfl:=hD _ hr
  exact(aN (aU (os':=[]) (sl:=[(6,vL eI r1)]) hwf) ⟨rfl,aE hwf⟩)
 ·refine aw (cb (fun xX:(List Int×Int)=>⟨[(3,vP (h.n+0)),(5,vP (h.n+1)),(7,rI xX.1),(11,vL eI at_),(12,vI (at_.length:Int)),(13,vI xX.2)],h.on [some (.cells [.val (.bool a_.Null),wL eI a_.Sets,wL eI a_.First,wL eI a_.Last,wL (eL eI) a_.Follow]),some (.cells [.val (.int .u64 sign)])]⟩) hr A_c (fun W1 xX hr=>?_))
  obtain⟨all1,v⟩:=xX
  dsimp only[cQ.b1]at hr
  refine A_s ?_
  refine al (ak hr (fun cF3 hr=>?_) (fun cF3 hr=>?_))
  ·refine az (w_n (al (w_K (D:=(Aft W1 D)) (fun xX:List Int=>⟨[(3,vP (h.n+0)),(5,vP (h.n+1)),(7,rI xX),(11,vL eI at_),(12,vI (at_.length:Int)),(13,vI v)],h.on [some (.cells [.val (.bool a_.Null),wL eI a_.Sets,wL eI a_.First,wL eI a_.Last,wL (eL eI) a_.Follow]),some (.cells [.val (.int .u64 sign)])]⟩) (fun xX:List Int=>cQ.k2 v xX) (fun all2 s' hr ht=>?_) ?_)))
   ·dsimp only[cQ.k2]at hr ht
    refine(dG ht ?_)
    refine aC ?_
    exact(w_k ⟨(all2,(IntKind.i64.wrap (v+(1:Int)))),hr,A_c⟩)
   ·refine aw (al ?_)
    obtain⟨n,nF4,eF5,gF6,hr⟩:=hr.idx
    refine A_n ?_
    refine A_s ?_
    refine ak hr (fun cF7 hr=>?_) (fun cF7 hr=>?_)
    ·obtain⟨nF8,hr⟩:=hr.room
     refine aC ?_
     exact(dC (w_k ⟨(all1++a_.First),hr,A_c⟩))
    ·obtain⟨xs,nF9,eF10,gF11,hr⟩:=hr.idx
     obtain⟨nF12,hr⟩:=hr.room
     refine aC ?_
     exact(dC (w_k ⟨(all1++xs),hr,A_c⟩))
  ·exact ca (cX (cX (fm (w_k ⟨all1,(hr).map,A_c⟩))))
theorem jF(s:List Int)(f:Int→Option Bool)(fid_f:FuncId)(caps_f:List au){h:bn}(h_f:∀os x0 r,f x0=some r→cq CT fid_f ([vI x0]++jI caps_f) (h.on os) fun o h'=>o=[vB r]∧h'=h.on os)(d_f:∀i,CT.how fid_f i= .data){a:Int}(e:bu s f=some a):
  cq CT 165 [vL eI s,.cv (.val (.fn fid_f [] caps_f))] h fun o h'=>o=[vI a]∧h'=h:=by
 refine bg Tryz.func165 fun hwf hu=>?_
 have u_f:cc h.n caps_f:=(hu (.cv (.val (.fn fid_f [] caps_f))) (by simp)).2
 have vu_f:=fun k=>fN (k:=k) u_f
 obtain⟨D,hD,hr⟩:=Holds.one e
 dsimp only[bu]at hr
 change aO _ _ _ _ _ ⟨[(0,vL eI s),(1,.cv (.val (.fn fid_f [] caps_f)))],h.on []⟩
 refine A_s ?_
 refine al (A_s ?_)
 refine w_K (D:=D) (fun xX:Unit=>⟨[],h.on []⟩) (fun xX:Unit=>bu.k1) (fun xX s' hr ht=>?_) ?_
 ·dsimp only[bu.k1]at hr ht
  refine(dG ht ?_)
  refine A_s ?_
  refine bk ?_
  obtain rfl:=hD _ hr
  exact(aN (aU (os':=[]) (sl:=[(4,vI (-1:Int))]) hwf) ⟨rfl,aE hwf⟩)
 ·refine aw (cb (fun xX:Int=>⟨[(0,vL eI s),(1,.cv (.val (.fn fid_f [] caps_f))),(7,vI (s.length:Int)),(8,vI xX)],h.on []⟩) hr A_c (fun W1 v hr=>?_))
  dsimp only[bu.b1]at hr
  refine A_s ?_
  refine al (ak hr (fun cF1 hr=>?_) (fun cF1 hr=>?_))
  ·refine az (w_n (al (aw (A_s ?_))))
   refine al (cB ?_)
   obtain⟨n,nF2,eF3,gF4,hr⟩:=hr.idx
   refine aG 5 ?_
   obtain⟨r,eF5,hr⟩:=hr.bind
   refine aT (out:=?o5) (hp:=?p5) ?c5 ?d5 ?_
   case c5=>exact h_f _ _ _ eF5
   case d5=>rfl
   refine dA ?_
   refine w_n (ak hr (fun cF6 hr=>?_) (fun cF6 hr=>?_))
   ·refine A_s ?_
    refine bk ?_
    obtain rfl:=hD _ hr
    exact(fa (cm (cm (fa (cm (cm (aN (aU (os':=[]) (sl:=[(4,vI v)]) hwf) ⟨rfl,aE hwf⟩)))))))
   ·refine az (dC (w_n ?_))
    refine aC ?_
    exact(w_k ⟨(IntKind.i64.wrap (v+(1:Int))),hr,A_c⟩)
  ·exact ca (cX (cX (fm (w_k ⟨(),(hr).map,A_c⟩))))
theorem dY(s:List Int)(f:Int→Option Bool)(fid_f:FuncId)(caps_f:List au){h:bn}(h_f:∀os x0 r,f x0=some r→cq CT fid_f ([vI x0]++jI caps_f) (h.on os) fun o h'=>o=[vB r]∧h'=h.on os)(d_f:∀i,CT.how fid_f i= .data){a:Bool}(e:cz s f=some a):
  cq CT 91 [vL eI s,.cv (.val (.fn fid_f [] caps_f))] h fun o h'=>o=[vB a]∧h'=h:=by
 refine bg Tryz.func91 fun hwf hu=>?_
 have u_f:cc h.n caps_f:=(hu (.cv (.val (.fn fid_f [] caps_f))) (by simp)).2
 have vu_f:=fun k=>fN (k:=k) u_f
 obtain⟨D,hD,hr⟩:=Holds.one e
 dsimp only[cz]at hr
 change aO _ _ _ _ _ ⟨[(0,vL eI s),(1,.cv (.val (.fn fid_f [] caps_f)))],h.on []⟩
 refine A_s ?_
 refine fD 2 ?_
 obtain⟨r,eF1,hr⟩:=hr.bind
 refine aT (out:=?o1) (hp:=?p1) ?c1 ?d1 ?_
 case c1=>(refine jF s f _ _ ?_ ?_ eF1;(exact(fun os x0 r e=>by rw[abD];exact h_f _ x0 r e));(exact d_f))
 case d1=>rfl
 refine fj ?_
 refine bk ?_
 obtain rfl:=hD _ hr
 exact(aN (aU (os':=[]) (sl:=[(4,vB (decide (r≥(0:Int))))]) hwf) ⟨rfl,aE hwf⟩)
theorem lh(s:List Int)(v:Int){h:bn}{a:Int}(e:cD s v=some a):
  cq CT 94 [vL eI s,vI v] h fun o h'=>o=[vI a]∧h'=h:=by
 refine bg Tryz.func94 fun hwf hu=>?_
 obtain⟨D,hD,hr⟩:=Holds.one e
 dsimp only[cD]at hr
 change aO _ _ _ _ _ ⟨[(0,vL eI s),(1,vI v)],h.on []⟩
 refine A_s ?_
 refine al (A_s ?_)
 refine w_K (D:=D) (fun xX:Unit=>⟨[],h.on []⟩) (fun xX:Unit=>cD.k1) (fun xX s' hr ht=>?_) ?_
 ·dsimp only[cD.k1]at hr ht
  refine(dG ht ?_)
  refine A_s ?_
  refine bk ?_
  obtain rfl:=hD _ hr
  exact(aN (aU (os':=[]) (sl:=[(4,vI (-1:Int))]) hwf) ⟨rfl,aE hwf⟩)
 ·refine aw (cb (fun xX:Int=>⟨[(0,vL eI s),(1,vI v),(7,vI (s.length:Int)),(8,vI xX)],h.on []⟩) hr A_c (fun W1 v1 hr=>?_))
  dsimp only[cD.b1]at hr
  refine A_s ?_
  refine al (ak hr (fun cF1 hr=>?_) (fun cF1 hr=>?_))
  ·refine az (w_n (al (aw (A_s ?_))))
   refine al ?_
   obtain⟨n,nF2,eF3,gF4,hr⟩:=hr.idx
   refine A_n ?_
   refine ak hr (fun cF5 hr=>?_) (fun cF5 hr=>?_)
   ·refine A_s ?_
    refine bk ?_
    obtain rfl:=hD _ hr
    exact(fa (cm (cm (fa (cm (cm (aN (aU (os':=[]) (sl:=[(4,vI v1)]) hwf) ⟨rfl,aE hwf⟩)))))))
   ·refine az (dC (w_n ?_))
    refine aC ?_
    exact(w_k ⟨(IntKind.i64.wrap (v1+(1:Int))),hr,A_c⟩)
  ·exact ca (cX (cX (fm (w_k ⟨(),(hr).map,A_c⟩))))
theorem eJ(s:List Int)(v:Int){h:bn}{a:Bool}(e:dh s v=some a):
  cq CT 40 [vL eI s,vI v] h fun o h'=>o=[vB a]∧h'=h:=by
 refine bg Tryz.func40 fun hwf hu=>?_
 obtain⟨D,hD,hr⟩:=Holds.one e
 dsimp only[dh]at hr
 change aO _ _ _ _ _ ⟨[(0,vL eI s),(1,vI v)],h.on []⟩
 refine A_s ?_
 refine fD 2 ?_
 obtain⟨r,eF1,hr⟩:=hr.bind
 refine aT (out:=?o1) (hp:=?p1) ?c1 ?d1 ?_
 case c1=>exact lh s v eF1
 case d1=>rfl
 refine fj ?_
 refine bk ?_
 obtain rfl:=hD _ hr
 exact(aN (aU (os':=[]) (sl:=[(4,vB (decide (r≥(0:Int))))]) hwf) ⟨rfl,aE hwf⟩)
theorem qW(i:Int)(p1:cM)(l1:Nat){h:bn}(ha1:h.at_ l1=some (.cells [.val (.bool p1.Null),wL eI p1.Sets,wL eI p1.First,wL eI p1.Last,wL (eL eI) p1.Follow])){a:Bool}(e:ir i p1=some a):
  cq CT 227 [vI i,vP l1] h fun o h'=>o=[vB a]∧h'=h:=by
 refine bg Tryz.func227 fun hwf hu=>?_
 have hl1:=(hwf _ _ ha1).1
 have kl1:=kZ hl1
 obtain⟨D,hD,hr⟩:=Holds.one e
 dsimp only[ir]at hr
 change aO _ _ _ _ _ ⟨[(0,vI i),(1,vP l1)],h.on []⟩
 refine A_s ?_
 obtain⟨v,vF5,hr⟩:=hr.bind
 refine cf (sj:=⟨[(3,vB v)],h.on []⟩) (cB ?_) ?_
 ·have hr:=Holds.intro (D:=fun z=>z=v) vF5 rfl
  refine aG 3 ?_
  rcases hr.ite with⟨cF1,hr⟩|⟨cF1,hr⟩
  ·refine aG 4 ?_
   rcases hr.ite with⟨cF2,hr⟩|⟨cF2,hr⟩
   ·refine aG 3 ?_
    refine iF ?_
    refine aj ?_
    obtain rfl:_=v:=hr
    exact w_k A_c
   ·refine aG 3 ?_
    obtain⟨r,eF3,hr⟩:=hr.bind
    refine aT (out:=?o3) (hp:=?p3) ?c3 ?d3 ?_
    case c3=>exact eJ p1.Last i eF3
    case d3=>rfl
    refine aj ?_
    obtain rfl:_=v:=hr
    exact w_k A_c
  ·refine aG 7 ?_
   obtain⟨r1,eF4,hr⟩:=hr.bind
   refine aT (out:=?o4) (hp:=?p4) ?c4 ?d4 ?_
   case c4=>exact eJ p1.Last i eF4
   case d4=>rfl
   refine aj ?_
   obtain rfl:_=v:=hr
   exact w_k A_c
 refine bk ?_
 obtain rfl:=hD _ hr
 exact(aN (aU (os':=[]) (sl:=[(3,vB v)]) hwf) ⟨rfl,aE hwf⟩)
theorem tH(a_:cM)(at_:List Int){h:bn}{a:Bool}(e:lP a_ at_=some a):
  cq CT 162 [.cv (.val (.agg [.bool a_.Null,.sl (List.map eI a_.Sets),.sl (List.map eI a_.First),.sl (List.map eI a_.Last),.sl (List.map (eL eI) a_.Follow)])),vL eI at_] h fun o h'=>o=[vB a]∧h'=h:=by
 refine bg Tryz.func162 fun hwf hu=>?_
 obtain⟨D,hD,hr⟩:=Holds.one e
 dsimp only[lP]at hr
 change aO _ _ _ _ _ ⟨[(0,.cv (.val (.agg [.bool a_.Null,.sl (List.map eI a_.Sets),.sl (List.map eI a_.First),.sl (List.map eI a_.Last),.sl (List.map (eL eI) a_.Follow)]))),(1,vL eI at_)],h.on []⟩
 iterate 2 refine A_s ?_
 refine fD 2 ?_
 obtain⟨r,eF1,hr⟩:=hr.bind
 refine aT (out:=?o1) (hp:=?p1) ?c1 ?d1 ?_
 case c1=>(refine dY at_ (fun x0=>ir x0 a_) _ _ ?_ ?_ eF1;(exact(fun os x0 r e=>qW x0 a_ (h.n+0) cN e));(exact(fun i=>by simp[CT])))
 case d1=>rfl
 refine fj ?_
 refine bk ?_
 obtain rfl:=hD _ hr
 exact(aN (aU (os':=[]) (sl:=[(4,vB r)]) hwf) ⟨rfl,aE hwf⟩)
end Go.Val
namespace Go.Val
theorem lW(s:List Int)(n:Int){h:bn}{a:List Int}(e:ie s n=some a):
  cq CT 226 [.cv .nil,vI n] h fun o h'=>o=[rI a]∧h'=h:=by
 unfold ie at e
 split at e
 ·rename_i hc
  obtain⟨rfl,h1,h2⟩:=hc
  obtain rfl:=sI e
  exact cq.hand (C:=CT) (show tU 226 _ h _ h from⟨rfl,.inr (.inr (.inr (.inr (.inl ⟨.inl rfl,n,rfl,h1,h2,rfl⟩))))⟩) ⟨rfl,rfl⟩
 ·cases e
end Go.Val
namespace Go.Val
set_option maxRecDepth 20000
open Go.Proofs
theorem kE(slices:List (List Int)){h:bn}{a:List Int}(e:bE slices=some a):
  cq CT 161 [vL (eL eI) slices] h fun o h'=>o=[rI a]∧h'=h:=by
 refine bg Tryz.func161 fun hwf hu=>?_
 obtain⟨D,hD,hr⟩:=Holds.one e
 dsimp only[bE]at hr
 change aO _ _ _ _ _ ⟨[(0,vL (eL eI) slices)],h.on []⟩
 iterate 2 refine A_s ?_
 refine al (A_s ?_)
 refine w_K (D:=D) (fun xX:Int=>⟨[(0,vL (eL eI) slices),(3,vI xX)],h.on []⟩) (fun xX:Int=>bE.k1 slices xX) (fun size s' hr ht=>?_) ?_
 ·dsimp only[bE.k1]at hr ht
  refine(dG ht ?_)
  refine fD 1 ?_
  obtain⟨r,eF1,hr⟩:=hr.bind
  refine aT (out:=?o1) (hp:=?p1) ?c1 ?d1 ?_
  case c1=>exact lW [] size eF1
  case d1=>rfl
  refine fj ?_
  refine al (A_s ?_)
  refine w_K (D:=D) (fun xX:List Int=>⟨[(6,rI xX)],h.on []⟩) (fun xX:List Int=>bE.k2 xX) (fun newslice s' hr ht=>?_) ?_
  ·dsimp only[bE.k2]at hr ht
   refine(dG ht ?_)
   refine A_s ?_
   refine bk ?_
   obtain rfl:=hD _ hr
   exact(aN (aU (os':=[]) (sl:=[(2,rI newslice)]) hwf) ⟨rfl,aE hwf⟩)
  ·refine aw (cb (fun xX:(List Int×Int)=>⟨[(6,rI xX.1),(25,vL (eL eI) slices),(26,vI (slices.length:Int)),(27,vI xX.2)],h.on []⟩) hr A_c (fun W1 xX hr=>?_))
   obtain⟨newslice1,v⟩:=xX
   dsimp only[bE.b1]at hr
   refine A_s ?_
   refine al (ak hr (fun cF2 hr=>?_) (fun cF2 hr=>?_))
   ·refine az (w_n (al (aw (al ?_))))
    obtain⟨xs,nF3,eF4,gF5,hr⟩:=hr.idx
    refine A_n ?_
    obtain⟨nF6,hr⟩:=hr.room
    refine aC ?_
    refine(dC (w_n ?_))
    refine aC ?_
    exact(w_k ⟨((newslice1++xs),(IntKind.i64.wrap (v+(1:Int)))),hr,A_c⟩)
   ·exact ca (cX (cX (fm (w_k ⟨newslice1,(hr).map,A_c⟩))))
 ·refine aw (cb (fun xX:(Int×Int)=>⟨[(0,vL (eL eI) slices),(3,vI xX.1),(9,vL (eL eI) slices),(10,vI (slices.length:Int)),(11,vI xX.2)],h.on []⟩) hr A_c (fun W2 xX hr=>?_))
  obtain⟨size1,v1⟩:=xX
  dsimp only[bE.b2]at hr
  refine A_s ?_
  refine al (ak hr (fun cF7 hr=>?_) (fun cF7 hr=>?_))
  ·refine az (w_n (al (aw (al ?_))))
   obtain⟨xs1,nF8,eF9,gF10,hr⟩:=hr.idx
   refine A_n ?_
   iterate 2 refine A_s ?_
   refine ak hr (fun cF11 hr=>?_) (fun cF11 hr=>?_)
   ·exact hr.elim
   ·refine az (dC (w_n ?_))
    refine aC ?_
    exact(w_k ⟨((IntKind.i64.wrap (size1+(xs1.length:Int))),(IntKind.i64.wrap (v1+(1:Int)))),hr,A_c⟩)
  ·exact ca (cX (cX (fm (w_k ⟨size1,(hr).map,A_c⟩))))
theorem tM(at_:List Int){h:bn}{a:Str}(e:eh at_=some a):
  cq CT 158 [vL eI at_] h fun o h'=>o=[.cv (.val (.str (bs a)))]∧h'=h:=by
 refine bg Tryz.func158 fun hwf hu=>?_
 obtain⟨D,hD,hr⟩:=Holds.one e
 dsimp only[eh]at hr
 change aO _ _ _ _ _ ⟨[(0,vL eI at_)],h.on []⟩
 iterate 2 refine A_s ?_
 refine al (A_s ?_)
 refine w_K (D:=D) (fun xX:List UInt8=>⟨[(3,.cv (.row 5 (List.map eU xX)))],h.on []⟩) (fun xX:List UInt8=>eh.k1 xX) (fun b s' hr ht=>?_) ?_
 ·dsimp only[eh.k1]at hr ht
  refine(dG ht ?_)
  refine A_s ?_
  refine bk ?_
  obtain rfl:=hD _ hr
  exact(aN (aU (os':=[]) (sl:=[(2,.cv (.val (.str (bs b))))]) hwf) ⟨rfl,aE hwf⟩)
 ·refine aw (cb (fun xX:(List UInt8×Int)=>⟨[(3,.cv (.row 5 (List.map eU xX.1))),(6,vL eI at_),(7,vI (at_.length:Int)),(8,vI xX.2)],h.on []⟩) hr A_c (fun W1 xX hr=>?_))
  obtain⟨b1,v⟩:=xX
  dsimp only[eh.b1]at hr
  refine A_s ?_
  refine al (ak hr (fun cF1 hr=>?_) (fun cF1 hr=>?_))
  ·refine az (w_n (al (aw (al ?_))))
   obtain⟨n,nF2,eF3,gF4,hr⟩:=hr.idx
   refine A_n ?_
   obtain⟨nF5,hr⟩:=hr.room
   refine kM rfl kB ?_
   refine(dC (w_n ?_))
   refine aC ?_
   exact(w_k ⟨((b1++([(u8 (IntKind.u8.wrap (shR .i64 n (8:Int)))),(u8 (IntKind.u8.wrap n))])),(IntKind.i64.wrap (v+(1:Int)))),hr,A_c⟩)
  ·exact ca (cX (cX (fm (w_k ⟨b1,(hr).map,A_c⟩))))
theorem kh(at_:List Int)(p1:List (Str×Int))(p2:List (List Int))(l1:Nat)(l1m0:Nat)(l2:Nat){h:bn}(ha1:h.at_ l1=some (.cells [.val (.map (some (l1m0)))]))(ha1m0:h.at_ l1m0=some (.map 9 (gy eS eI p1)))(ha2:h.at_ l2=some (.cells [.row 26 (List.map (eL eI) p2)]))(hn1_1m0:l1≠l1m0)(hn1_2:l1≠l2)(hn1m0_2:l1m0≠l2){a:(Int×List (Str×Int)×List (List Int))}(e:dw at_ p1 p2=some a):
  cq CT 157 [vL eI at_,vP l1,vP l2] h fun o h'=>o=[vI a.1]∧h'=((h.upd l1m0 (.map 9 (gy eS eI a.2.1))).upd l2 (.cells [.row 26 (List.map (eL eI) a.2.2)])):=by
 refine bg Tryz.func157 fun hwf hu=>?_
 have hl1:=(hwf _ _ ha1).1
 have kl1:=kZ hl1
 have hl1m0:=(hwf _ _ ha1m0).1
 have kl1m0:=kZ hl1m0
 have hl2:=(hwf _ _ ha2).1
 have kl2:=kZ hl2
 have ku1:=aaK hl1 ha1
 have ku1m0:=aaK hl1m0 ha1m0
 have ku2:=aaK hl2 ha2
 have kp1_1m0:=aiC hn1_1m0
 have kp1_2:=aiC hn1_2
 have kp1m0_2:=aiC hn1m0_2
 have kk1_1m0:=av9 hn1_1m0 ha1m0
 obtain⟨D,hD,hr⟩:=Holds.one e
 dsimp only[dw]at hr
 change aO _ _ _ _ _ ⟨[(0,vL eI at_),(1,vP l1),(2,vP l2)],h.on []⟩
 refine A_s ?_
 refine fD 1 ?_
 obtain⟨r,eF1,hr⟩:=hr.bind
 refine aT (out:=?o1) (hp:=?p1) ?c1 ?d1 ?_
 case c1=>exact tM at_ eF1
 case d1=>rfl
 refine fj ?_
 refine A_s ?_
 refine al (A_s ?_)
 refine w_K (D:=D) (fun xX:(Int×List (Str×Int)×List (List Int))=>⟨[(6,vI xX.1)],((h.upd l1m0 (.map 9 (gy eS eI xX.2.1))).upd l2 (.cells [.row 26 (List.map (eL eI) xX.2.2)])).on []⟩) (fun xX:(Int×List (Str×Int)×List (List Int))=>dw.k1 xX.1 xX.2.1 xX.2.2) (fun xX s' hr ht=>?_) ?_
 ·obtain⟨s,m,v⟩:=xX
  dsimp only[dw.k1]at hr ht
  refine(dG ht ?_)
  refine A_s ?_
  refine bk ?_
  obtain rfl:=hD _ hr
  exact(aN (aU (os':=[]) (sl:=[(4,vI s)]) (h:=((h.upd l1m0 (.map 9 (gy eS eI m))).upd l2 (.cells [.row 26 (List.map (eL eI) v)]))) (ft (ft hwf hl1m0) hl2)) ⟨rfl,aE (ft (ft hwf hl1m0) hl2)⟩)
 ·refine ak hr (fun cF2 hr=>?_) (fun cF2 hr=>?_)
  ·refine A_s ?_
   refine cT [0,1,2,3,4,5,6,7,8] (by rfl) ?_
   obtain⟨nF3,hr⟩:=hr.room
   refine bU [0,1,2,3,4,5] [5,4,3,2,1,0] ?_
   refine dt [2,1,0] ?_
   refine dt [] ?_
   refine dt [] ?_
   refine df ?_
   exact(w_k ⟨((p2.length:Int),(kF r (p2.length:Int) p1),(p2++([at_]))),hr,(aU (ft (ft hwf hl1m0) hl2))⟩)
  ·exact az (w_k ⟨(((oL r p1).getD (0:Int)),p1,p2),hr,(aU (ft (ft hwf hl1m0) hl2))⟩)
theorem qG(a_:cM) (masks:List Int) (free:Bool) (limit:Int) {h:bn} {a:(fG×Int)} (e:bh a_ masks free limit=some a):
  cq CT 88 [.cv (.val (.agg [.bool a_.Null,.sl (List.map eI a_.Sets),.sl (List.map eI a_.First),.sl (List.map eI a_.Last),.sl (List.map (eL eI) a_.Follow)])),vL (eK .u64) masks,vB free,vI limit] h fun o h'=>o=[.cv (.val (.agg [.sl (List.map (eL eI) a.1.Next),.sl (List.map eB a.1.Final)])),vI a.2]∧h'=h:=by
 refine bg Tryz.func88 fun hwf hu=>?_
 obtain⟨D,hD,hr⟩:=Holds.one e
 dsimp only[bh]at hr
 change aO _ _ _ _ _ ⟨[(0,.cv (.val (.agg [.bool a_.Null,.sl (List.map eI a_.Sets),.sl (List.map eI a_.First),.sl (List.map eI a_.Last),.sl (List.map (eL eI) a_.Follow)]))),(1,vL (eK .u64) masks),(2,vB free),(3,vI limit)],h.on []⟩
 refine A_s ?_
 refine al (cf (sj:=⟨[(1,vL (eK .u64) masks),(2,vB free),(3,vI limit),(4,vP (h.n+0)),(8,vP (h.n+1)),(34,vB ((decide ((masks.length:Int) < (1:Int)))||((decide ((masks.length:Int) > (200:Int)))||((decide (limit < (1:Int)))||(decide (limit > (5000:Int)))))))],h.on [some (.cells [.val (.bool a_.Null),wL eI a_.Sets,wL eI a_.First,wL eI a_.Last,wL (eL eI) a_.Follow]),some (.cells [.nil,.nil])]⟩) (cB ?_) ?_)
 ·refine aG 4 ?_
  rcases Bool.eq_false_or_eq_true (decide ((masks.length:Int) < (1:Int)))with cF1|cF1
  ·refine aj ?_
   exact w_k A_c
  ·refine aG 5 ?_
   rcases Bool.eq_false_or_eq_true (decide ((masks.length:Int) > (200:Int)))with cF2|cF2
   ·refine aj ?_
    exact w_k A_c
   ·refine aG 4 ?_
    rcases Bool.eq_false_or_eq_true (decide (limit < (1:Int)))with cF3|cF3
    ·refine aj ?_
     exact w_k A_c
    ·refine aj ?_
     exact w_k A_c
 refine ak hr (fun cF4 hr=>?_) (fun cF4 hr=>?_)
 ·refine A_s ?_
  refine bk ?_
  obtain rfl:=hD _ hr
  exact(cm (fU (aU (os':=[none,some (.cells [wL (eL eI) ([]:List (List Int)),wL eB ([]:List Bool)])]) (sl:=[(8,vP (h.n+1)),(9,vI (1:Int))]) hwf) (by simp (disch:=(apply dd.mk;decide)) only[go_sem,Nat.reduceAdd,Nat.reduceLT,Nat.reduceMul,Nat.reduceLeDiff,Int.reduceToNat,Int.reduceLT,Int.reduceLE,Tryz.results88,ai ro,eT,fB.eq_2,dH,cF4]) (Drops.on (os:=[none,some (.cells [wL (eL eI) ([]:List (List Int)),wL eB ([]:List Bool)])]) (os':=[]) hwf (nR _) (by simp (disch:=(apply dd.mk;decide)) only[go_sem,Nat.reduceAdd,Nat.reduceLT,Nat.reduceMul,Nat.reduceLeDiff,Int.reduceToNat,Int.reduceLT,Int.reduceLE,cF4])) ⟨rfl,aE hwf⟩))
 ·refine az (w_n ?_)
  iterate 4 refine A_s ?_
  refine al (tF (s1:=⟨[(1,vL (eK .u64) masks),(2,vB free),(3,vI limit),(4,vP (h.n+0)),(8,vP (h.n+1)),(10,vP (h.n+2)),(11,vP (h.n+3)),(13,.cv (.val (.fn 157 [] [.ptr (some (h.n+5,0)),.ptr (some (h.n+3,0))])))],h.on [some (.cells [.val (.bool a_.Null),wL eI a_.Sets,wL eI a_.First,wL eI a_.Last,wL (eL eI) a_.Follow]),some (.cells [.nil,.nil]),some (.cells [.nil,.nil]),some (.cells [.row 26 (List.map (eL eI) [])]),some (.map 9 (gy eS eI [])),some (.cells [.val (.map (some (h.n+4)))])]⟩) A_c ?_)
  refine cB ?_
  refine aG 1 ?_
  obtain⟨r,eF5,hr⟩:=hr.bind
  refine aT (out:=?o5) (hp:=?p5) ?c5 ?d5 ?_
  case c5=>exact lE  eF5
  case d5=>rfl
  obtain⟨r1,eF6,hr⟩:=hr.bind
  refine aT (out:=?o6) (hp:=?p6) ?c6 ?d6 ?_
  case c6=>(refine kh r [] [] (h.n+5) (h.n+4) (h.n+3) ?_ ?_ ?_ ?_ ?_ ?_ eF6;exact xT;exact xT;exact xT;(first|omega|assumption|exact Ne.symm (by assumption));(first|omega|assumption|exact Ne.symm (by assumption));(first|omega|assumption|exact Ne.symm (by assumption)))
  case d6=>rfl
  refine dA ?_
  refine w_n (al (A_s ?_))
  refine w_K (D:=D) (fun xX:(List (List Int)×List Bool)=>⟨[(8,vP (h.n+1)),(10,vP (h.n+2))],h.on [none,some (.cells [.nil,.nil]),some (.cells [.row 26 (List.map (eL eI) xX.1),.row 4 (List.map eB xX.2)])]⟩) (fun xX:(List (List Int)×List Bool)=>bh.k1 xX.1 xX.2) (fun xX s' hr ht=>?_) ?_
  ·obtain⟨Next,Final⟩:=xX
   dsimp only[bh.k1]at hr ht
   refine(dG ht ?_)
   refine al ?_
   refine tF (.fix _ _ (.cell (h.n+2) 0) 26 _ (by simp (disch:=(apply dd.mk;decide)) only[go_sem,Nat.reduceAdd,Nat.reduceLT,Nat.reduceMul,Nat.reduceLeDiff,Int.reduceToNat,Int.reduceLT,Int.reduceLE,cF4];rfl) (.refl _)) ?_
   refine tF (.fix _ _ (.cell (h.n+2) 1) 4 _ (by simp (disch:=(apply dd.mk;decide)) only[go_sem,Nat.reduceAdd,Nat.reduceLT,Nat.reduceMul,Nat.reduceLeDiff,Int.reduceToNat,Int.reduceLT,Int.reduceLE,cF4];rfl) (.refl _)) ?_
   refine A_n ?_
   refine bk ?_
   obtain rfl:=hD _ hr
   exact(fU (aU (os':=[none,some (.cells [wL (eL eI) (fG.mk Next Final).Next,wL eB (fG.mk Next Final).Final])]) (sl:=[(8,vP (h.n+1)),(9,vI (0:Int))]) hwf) (by simp (disch:=(apply dd.mk;decide)) only[go_sem,Nat.reduceAdd,Nat.reduceLT,Nat.reduceMul,Nat.reduceLeDiff,Int.reduceToNat,Int.reduceLT,Int.reduceLE,Tryz.results88,ai ro,eT,fB.eq_2,dH,cF4]) (Drops.on (os:=[none,some (.cells [wL (eL eI) (fG.mk Next Final).Next,wL eB (fG.mk Next Final).Final])]) (os':=[]) hwf (nR _) (by simp (disch:=(apply dd.mk;decide)) only[go_sem,Nat.reduceAdd,Nat.reduceLT,Nat.reduceMul,Nat.reduceLeDiff,Int.reduceToNat,Int.reduceLT,Int.reduceLE,cF4])) ⟨rfl,aE hwf⟩)
  ·refine aw (cb (fun xX:(Int×List (List Int)×List Bool×List (List Int)×List (Str×Int))=>⟨[(1,vL (eK .u64) masks),(2,vB free),(3,vI limit),(4,vP (h.n+0)),(8,vP (h.n+1)),(10,vP (h.n+2)),(11,vP (h.n+3)),(13,.cv (.val (.fn 157 [] [.ptr (some (h.n+5,0)),.ptr (some (h.n+3,0))]))),(14,vI xX.1)],h.on [some (.cells [.val (.bool a_.Null),wL eI a_.Sets,wL eI a_.First,wL eI a_.Last,wL (eL eI) a_.Follow]),some (.cells [.nil,.nil]),some (.cells [.row 26 (List.map (eL eI) xX.2.1),.row 4 (List.map eB xX.2.2.1)]),some (.cells [.row 26 (List.map (eL eI) xX.2.2.2.1)]),some (.map 9 (gy eS eI xX.2.2.2.2)),some (.cells [.val (.map (some (h.n+4)))])]⟩) hr A_c (fun W1 xX hr=>?_))
   obtain⟨s,Next1,Final1,v1,m⟩:=xX
   dsimp only[bh.b1]at hr
   refine al (A_s ?_)
   refine ak hr (fun cF7 hr=>?_) (fun cF7 hr=>?_)
   ·refine az (w_n (al (w_K (D:=(Aft W1 D)) (fun xX:(List (List Int)×List Bool×List (List Int)×List (Str×Int))=>⟨[(1,vL (eK .u64) masks),(2,vB free),(3,vI limit),(4,vP (h.n+0)),(8,vP (h.n+1)),(10,vP (h.n+2)),(11,vP (h.n+3)),(13,.cv (.val (.fn 157 [] [.ptr (some (h.n+5,0)),.ptr (some (h.n+3,0))]))),(14,vI s)],h.on [some (.cells [.val (.bool a_.Null),wL eI a_.Sets,wL eI a_.First,wL eI a_.Last,wL (eL eI) a_.Follow]),some (.cells [.nil,.nil]),some (.cells [.row 26 (List.map (eL eI) xX.1),.row 4 (List.map eB xX.2.1)]),some (.cells [.row 26 (List.map (eL eI) xX.2.2.1)]),some (.map 9 (gy eS eI xX.2.2.2)),some (.cells [.val (.map (some (h.n+4)))])]⟩) (fun xX:(List (List Int)×List Bool×List (List Int)×List (Str×Int))=>bh.k2 s xX.1 xX.2.1 xX.2.2.1 xX.2.2.2) (fun xX s' hr ht=>?_) ?_)))
    ·obtain⟨Next2,Final2,v2,m1⟩:=xX
     dsimp only[bh.k2]at hr ht
     refine(dG ht ?_)
     refine aC ?_
     exact(w_k ⟨((IntKind.i64.wrap (s+(1:Int))),Next2,Final2,v2,m1),hr,A_c⟩)
    ·refine aw (A_s ?_)
     refine al (A_s ?_)
     refine w_K (D:=(Aft W1 D)) (fun xX:(List Int×List (List Int)×List (Str×Int))=>⟨[(1,vL (eK .u64) masks),(2,vB free),(3,vI limit),(4,vP (h.n+0)),(8,vP (h.n+1)),(10,vP (h.n+2)),(11,vP (h.n+3)),(13,.cv (.val (.fn 157 [] [.ptr (some (h.n+5,0)),.ptr (some (h.n+3,0))]))),(14,vI s),(15,rI xX.1)],h.on [some (.cells [.val (.bool a_.Null),wL eI a_.Sets,wL eI a_.First,wL eI a_.Last,wL (eL eI) a_.Follow]),some (.cells [.nil,.nil]),some (.cells [.row 26 (List.map (eL eI) Next1),.row 4 (List.map eB Final1)]),some (.cells [.row 26 (List.map (eL eI) xX.2.1)]),some (.map 9 (gy eS eI xX.2.2)),some (.cells [.val (.map (some (h.n+4)))])]⟩) (fun xX:(List Int×List (List Int)×List (Str×Int))=>bh.k3 a_ s Next1 Final1 xX.1 xX.2.1 xX.2.2) (fun xX s' hr ht=>?_) ?_
     ·obtain⟨row,v3,m2⟩:=xX
      dsimp only[bh.k3]at hr ht
      refine(dG ht ?_)
      refine tF (.fix _ _ (.slot 15) 3 _ (by simp (disch:=(apply dd.mk;decide)) only[go_sem,Nat.reduceAdd,Nat.reduceLT,Nat.reduceMul,Nat.reduceLeDiff,Int.reduceToNat,Int.reduceLT,Int.reduceLE,cF4,cF7];rfl) (.refl _)) ?_
      refine cT [0,1,2,3,5,6,7,8,9,10,11,4,15,12,13,14,16,17,18] (by rfl) ?_
      obtain⟨xs,nF8,eF9,gF10,hr⟩:=hr.idx
      obtain⟨nF11,hr⟩:=hr.room
      refine bU [0,1,2,3,5,6,7,8,9,10,11] [11,10,9,8,7,6,5,3,2,1,0] ?_
      refine dt [11,10,9,8,7,6,5] ?_
      refine bU [15] [15,11,10,9,8,7,6,5] ?_
      obtain⟨r2,eF12,hr⟩:=hr.bind
      refine aqa (out:=?o_SeF12) rfl (by simp (disch:=(apply dd.mk;decide)) only[go_sem,Nat.reduceAdd,Nat.reduceLT,Nat.reduceMul,Nat.reduceLeDiff,Int.reduceToNat,Int.reduceLT,Int.reduceLE,gS,nF8,eF9,gF10,nF11]) rfl (by simp (disch:=(apply dd.mk;decide)) only[go_sem,Nat.reduceAdd,Nat.reduceLT,Nat.reduceMul,Nat.reduceLeDiff,Int.reduceToNat,Int.reduceLT,Int.reduceLE,gS,nF8,eF9,gF10,nF11];rfl) (by simp (disch:=(apply dd.mk;decide)) only[go_sem,Nat.reduceAdd,Nat.reduceLT,Nat.reduceMul,Nat.reduceLeDiff,Int.reduceToNat,Int.reduceLT,Int.reduceLE,gS,nF8,eF9,gF10,nF11];rfl) (by rfl) (by simp (disch:=(apply dd.mk;decide)) only[go_sem,Nat.reduceAdd,Nat.reduceLT,Nat.reduceMul,Nat.reduceLeDiff,Int.reduceToNat,Int.reduceLT,Int.reduceLE,gS,nF8,eF9,gF10,nF11]) ?c_SeF12 ?d_SeF12 ?_ (pend':=[15,6,5])
      case c_SeF12=>exact tH a_ xs eF12
      case d_SeF12=>rfl
      obtain⟨nF13,hr⟩:=hr.room
      refine bU [13] [13,15,6,5] ?_
      refine dt [15] ?_
      refine dt [] ?_
      refine bU [17] [17] ?_
      refine dt [] ?_
      refine df ?_
      exact(dC (w_k ⟨((Next1++([row])),(Final1++([r2])),v3,m2),hr,A_c⟩))
     ·refine aw (cb (fun xX:(List Int×Int×List (List Int)×List (Str×Int))=>⟨[(1,vL (eK .u64) masks),(2,vB free),(3,vI limit),(4,vP (h.n+0)),(8,vP (h.n+1)),(10,vP (h.n+2)),(11,vP (h.n+3)),(13,.cv (.val (.fn 157 [] [.ptr (some (h.n+5,0)),.ptr (some (h.n+3,0))]))),(14,vI s),(15,rI xX.1),(47,vL (eK .u64) masks),(48,vI (masks.length:Int)),(49,vI xX.2.1)],h.on [some (.cells [.val (.bool a_.Null),wL eI a_.Sets,wL eI a_.First,wL eI a_.Last,wL (eL eI) a_.Follow]),some (.cells [.nil,.nil]),some (.cells [.row 26 (List.map (eL eI) Next1),.row 4 (List.map eB Final1)]),some (.cells [.row 26 (List.map (eL eI) xX.2.2.1)]),some (.map 9 (gy eS eI xX.2.2.2)),some (.cells [.val (.map (some (h.n+4)))])]⟩) hr A_c (fun W2 xX hr=>?_))
      obtain⟨row1,v4,v5,m3⟩:=xX
      dsimp only[bh.b2]at hr
      refine A_s ?_
      refine al (ak hr (fun cF14 hr=>?_) (fun cF14 hr=>?_))
      ·refine az (w_n (al (aw (al ?_))))
       obtain⟨n,nF15,eF16,gF17,hr⟩:=hr.idx
       refine A_n ?_
       refine al (cT [0,1,2,3,4,5,6,7] (by rfl) ?_)
       obtain⟨xs1,nF18,eF19,gF20,hr⟩:=hr.idx
       refine bU [0,1,2,3,4,5] [5,4,3,2,1,0] ?_
       obtain⟨r3,eF21,hr⟩:=hr.bind
       refine dO [] (out:=?o21) (hp:=?p21) ?c21 ?d21 ?_
       case c21=>exact sa a_ xs1 n eF21
       case d21=>rfl
       refine dt [] ?_
       refine df ?_
       refine w_n (al (A_s ?_))
       refine w_K (D:=(Aft W2 (Aft W1 D))) (fun xX:List Int=>⟨[(1,vL (eK .u64) masks),(2,vB free),(3,vI limit),(4,vP (h.n+0)),(8,vP (h.n+1)),(10,vP (h.n+2)),(11,vP (h.n+3)),(13,.cv (.val (.fn 157 [] [.ptr (some (h.n+5,0)),.ptr (some (h.n+3,0))]))),(14,vI s),(15,rI row1),(18,vL eI xX),(47,vL (eK .u64) masks),(48,vI (masks.length:Int)),(49,vI v4)],h.on [some (.cells [.val (.bool a_.Null),wL eI a_.Sets,wL eI a_.First,wL eI a_.Last,wL (eL eI) a_.Follow]),some (.cells [.nil,.nil]),some (.cells [.row 26 (List.map (eL eI) Next1),.row 4 (List.map eB Final1)]),some (.cells [.row 26 (List.map (eL eI) v5)]),some (.map 9 (gy eS eI m3)),some (.cells [.val (.map (some (h.n+4)))])]⟩) (fun xX:List Int=>bh.k4 limit row1 v4 v5 m3 xX) (fun at_ s' hr ht=>?_) ?_
       ·dsimp only[bh.k4]at hr ht
        refine(dG ht ?_)
        refine fD 3 ?_
        obtain⟨r4,eF22,hr⟩:=hr.bind
        refine aT (out:=?o22) (hp:=?p22) ?c22 ?d22 ?_
        case c22=>(refine kh at_ m3 v5 (h.n+5) (h.n+4) (h.n+3) ?_ ?_ ?_ ?_ ?_ ?_ eF22;exact xT;exact xT;exact xT;(first|omega|assumption|exact Ne.symm (by assumption));(first|omega|assumption|exact Ne.symm (by assumption));(first|omega|assumption|exact Ne.symm (by assumption)))
        case d22=>rfl
        obtain⟨nF23,hr⟩:=hr.room
        refine fj ?_
        refine A_s ?_
        refine ak hr (fun cF24 hr=>?_) (fun cF24 hr=>?_)
        ·refine A_s ?_
         refine bk ?_
         obtain rfl:=hD _ hr
         exact(fa (cm (cm (fa (cm (cm (fa (cm (cm (cm (fa (cm (cm (fU (aU (os':=[none,some (.cells [wL (eL eI) ([]:List (List Int)),wL eB ([]:List Bool)])]) (sl:=[(8,vP (h.n+1)),(9,vI (8:Int))]) hwf) (by simp (disch:=(apply dd.mk;decide)) only[go_sem,Nat.reduceAdd,Nat.reduceLT,Nat.reduceMul,Nat.reduceLeDiff,Int.reduceToNat,Int.reduceLT,Int.reduceLE,Tryz.results88,ai ro,eT,fB.eq_2,dH,cF4,cF7,cF14,cF24]) (Drops.on (os:=[none,some (.cells [wL (eL eI) ([]:List (List Int)),wL eB ([]:List Bool)])]) (os':=[]) hwf (nR _) (by simp (disch:=(apply dd.mk;decide)) only[go_sem,Nat.reduceAdd,Nat.reduceLT,Nat.reduceMul,Nat.reduceLeDiff,Int.reduceToNat,Int.reduceLT,Int.reduceLE,cF4,cF7,cF14,cF24])) ⟨rfl,aE hwf⟩))))))))))))))
        ·refine az (dC (w_n ?_))
         refine aC ?_
         exact(w_k ⟨((row1++([r4.1])),(IntKind.i64.wrap (v4+(1:Int))),r4.2.2,r4.2.1),hr,A_c⟩)
       ·refine ak hr (fun cF25 hr=>?_) (fun cF25 hr=>?_)
        ·refine cB ?_
         obtain⟨r5,eF26,hr⟩:=hr.bind
         refine aT (out:=?o26) (hp:=?p26) ?c26 ?d26 ?_
         case c26=>exact lE  eF26
         case d26=>rfl
         refine aG 2 ?_
         obtain⟨r6,eF27,hr⟩:=hr.bind
         refine aT (out:=?o27) (hp:=?p27) ?c27 ?d27 ?_
         case c27=>exact cq.fixd (kE ([r5,r3]) eF27)
         case d27=>rfl
         refine aj ?_
         exact(w_k ⟨r6,hr,A_c⟩)
        ·exact az (w_k ⟨r3,hr,A_c⟩)
      ·exact ca (cX (cX (fm (w_k ⟨(row1,v5,m3),(hr).map,A_c⟩))))
   ·exact ca (cX (cX (fm (w_k ⟨(Next1,Final1),(hr).map,A_c⟩))))
theorem oW(s:Int)(p1:Int)(l1:Nat){h:bn}(ha1:h.at_ l1=some (.cells [wI p1])){a:Bool}(e:fp s p1=some a):
  cq CT 189 [vI s,vP l1] h fun o h'=>o=[vB a]∧h'=h:=by
 refine bg Tryz.func189 fun hwf hu=>?_
 have hl1:=(hwf _ _ ha1).1
 have kl1:=kZ hl1
 obtain⟨D,hD,hr⟩:=Holds.one e
 dsimp only[fp]at hr
 change aO _ _ _ _ _ ⟨[(0,vI s),(1,vP l1)],h.on []⟩
 refine A_s ?_
 refine cf (sj:=⟨[(3,vB ((decide (s < (0:Int)))||(decide (s≥p1))))],h.on []⟩) (cB ?_) ?_
 ·refine aG 3 ?_
  rcases Bool.eq_false_or_eq_true (decide (s < (0:Int)))with cF1|cF1
  ·refine aj ?_
   exact w_k A_c
  ·refine aj ?_
   exact w_k A_c
 refine bk ?_
 obtain rfl:=hD _ hr
 exact(aN (aU (os':=[]) (sl:=[(3,vB ((decide (s < (0:Int)))||(decide (s≥p1))))]) hwf) ⟨rfl,aE hwf⟩)
theorem oT(row:List Int)(p1:Int)(p2:Int→Option Bool)(l1:Nat)(fid_p2:FuncId)(caps_p2:List au)(l2:Nat){h:bn}(h_p2:∀os x0 r,p2 x0=some r→cq CT fid_p2 ([vI x0]++jI caps_p2) (h.on os) fun o h'=>o=[vB r]∧h'=h.on os)(d_p2:∀i,CT.how fid_p2 i= .data)(ha1:h.at_ l1=some (.cells [wI p1]))(ha2:h.at_ l2=some (.cells [.val (.fn fid_p2 [] caps_p2)]))(hn1_2:l1≠l2){a:Bool}(e:fP row p1 p2=some a):
  cq CT 190 [vL eI row,vP l1,vP l2] h fun o h'=>o=[vB a]∧h'=h:=by
 refine bg Tryz.func190 fun hwf hu=>?_
 have u_p2:cc h.n caps_p2:=(hwf _ _ ha2).2.1.2
 have vu_p2:=fun k=>fN (k:=k) u_p2
 have hl1:=(hwf _ _ ha1).1
 have kl1:=kZ hl1
 have hl2:=(hwf _ _ ha2).1
 have kl2:=kZ hl2
 obtain⟨D,hD,hr⟩:=Holds.one e
 dsimp only[fP]at hr
 change aO _ _ _ _ _ ⟨[(0,vL eI row),(1,vP l1),(2,vP l2)],h.on []⟩
 refine A_s ?_
 obtain⟨v,vF3,hr⟩:=hr.bind
 refine cf (sj:=⟨[(4,vB v)],h.on []⟩) (cB ?_) ?_
 ·have hr:=Holds.intro (D:=fun z=>z=v) vF3 rfl
  refine aG 5 ?_
  rcases hr.ite with⟨cF1,hr⟩|⟨cF1,hr⟩
  ·refine aG 2 ?_
   refine iF ?_
   refine aj ?_
   obtain rfl:_=v:=hr
   exact w_k A_c
  ·refine aG 2 ?_
   obtain⟨r,eF2,hr⟩:=hr.bind
   refine aT (out:=?o2) (hp:=?p2) ?c2 ?d2 ?_
   case c2=>(refine dY row p2 _ _ ?_ ?_ eF2;(exact(fun os x0 r e=>by rw[abD];exact h_p2 _ x0 r e));(exact d_p2))
   case d2=>rfl
   refine aj ?_
   obtain rfl:_=v:=hr
   exact w_k A_c
 refine bk ?_
 obtain rfl:=hD _ hr
 exact(aN (aU (os':=[]) (sl:=[(4,vB v)]) hwf) ⟨rfl,aE hwf⟩)
theorem iU(s:List (List Int))(f:(List Int)→Option Bool)(fid_f:FuncId)(caps_f:List au){h:bn}(h_f:∀os x0 r,f x0=some r→cq CT fid_f ([vL eI x0]++jI caps_f) (h.on os) fun o h'=>o=[vB r]∧h'=h.on os)(d_f:∀i,CT.how fid_f i= .data){a:Int}(e:bb s f=some a):
  cq CT 241 [vL (eL eI) s,.cv (.val (.fn fid_f [] caps_f))] h fun o h'=>o=[vI a]∧h'=h:=by
 refine bg Tryz.func241 fun hwf hu=>?_
 have u_f:cc h.n caps_f:=(hu (.cv (.val (.fn fid_f [] caps_f))) (by simp)).2
 have vu_f:=fun k=>fN (k:=k) u_f
 obtain⟨D,hD,hr⟩:=Holds.one e
 dsimp only[bb]at hr
 change aO _ _ _ _ _ ⟨[(0,vL (eL eI) s),(1,.cv (.val (.fn fid_f [] caps_f)))],h.on []⟩
 refine A_s ?_
 refine al (A_s ?_)
 refine w_K (D:=D) (fun xX:Unit=>⟨[],h.on []⟩) (fun xX:Unit=>bb.k1) (fun xX s' hr ht=>?_) ?_
 ·dsimp only[bb.k1]at hr ht
  refine(dG ht ?_)
  refine A_s ?_
  refine bk ?_
  obtain rfl:=hD _ hr
  exact(aN (aU (os':=[]) (sl:=[(4,vI (-1:Int))]) hwf) ⟨rfl,aE hwf⟩)
 ·refine aw (cb (fun xX:Int=>⟨[(0,vL (eL eI) s),(1,.cv (.val (.fn fid_f [] caps_f))),(7,vI (s.length:Int)),(8,vI xX)],h.on []⟩) hr A_c (fun W1 v hr=>?_))
  dsimp only[bb.b1]at hr
  refine A_s ?_
  refine al (ak hr (fun cF1 hr=>?_) (fun cF1 hr=>?_))
  ·refine az (w_n (al (aw (A_s ?_))))
   refine al (cB ?_)
   obtain⟨xs,nF2,eF3,gF4,hr⟩:=hr.idx
   refine aG 5 ?_
   obtain⟨r,eF5,hr⟩:=hr.bind
   refine aT (out:=?o5) (hp:=?p5) ?c5 ?d5 ?_
   case c5=>exact h_f _ _ _ eF5
   case d5=>rfl
   refine dA ?_
   refine w_n (ak hr (fun cF6 hr=>?_) (fun cF6 hr=>?_))
   ·refine A_s ?_
    refine bk ?_
    obtain rfl:=hD _ hr
    exact(fa (cm (cm (fa (cm (cm (aN (aU (os':=[]) (sl:=[(4,vI v)]) hwf) ⟨rfl,aE hwf⟩)))))))
   ·refine az (dC (w_n ?_))
    refine aC ?_
    exact(w_k ⟨(IntKind.i64.wrap (v+(1:Int))),hr,A_c⟩)
  ·exact ca (cX (cX (fm (w_k ⟨(),(hr).map,A_c⟩))))
theorem gO(s:List (List Int))(f:(List Int)→Option Bool)(fid_f:FuncId)(caps_f:List au){h:bn}(h_f:∀os x0 r,f x0=some r→cq CT fid_f ([vL eI x0]++jI caps_f) (h.on os) fun o h'=>o=[vB r]∧h'=h.on os)(d_f:∀i,CT.how fid_f i= .data){a:Bool}(e:de s f=some a):
  cq CT 191 [vL (eL eI) s,.cv (.val (.fn fid_f [] caps_f))] h fun o h'=>o=[vB a]∧h'=h:=by
 refine bg Tryz.func191 fun hwf hu=>?_
 have u_f:cc h.n caps_f:=(hu (.cv (.val (.fn fid_f [] caps_f))) (by simp)).2
 have vu_f:=fun k=>fN (k:=k) u_f
 obtain⟨D,hD,hr⟩:=Holds.one e
 dsimp only[de]at hr
 change aO _ _ _ _ _ ⟨[(0,vL (eL eI) s),(1,.cv (.val (.fn fid_f [] caps_f)))],h.on []⟩
 refine A_s ?_
 refine fD 2 ?_
 obtain⟨r,eF1,hr⟩:=hr.bind
 refine aT (out:=?o1) (hp:=?p1) ?c1 ?d1 ?_
 case c1=>(refine iU s f _ _ ?_ ?_ eF1;(exact(fun os x0 r e=>by rw[abD];exact h_f _ x0 r e));(exact d_f))
 case d1=>rfl
 refine fj ?_
 refine bk ?_
 obtain rfl:=hD _ hr
 exact(aN (aU (os':=[]) (sl:=[(4,vB (decide (r≥(0:Int))))]) hwf) ⟨rfl,aE hwf⟩)
theorem qZ(d:fG){h:bn}{a:Bool}(e:jq d=some a):
  cq CT 123 [.cv (.val (.agg [.sl (List.map (eL eI) d.Next),.sl (List.map eB d.Final)]))] h fun o h'=>o=[vB a]∧h'=h:=by
 refine bg Tryz.func123 fun hwf hu=>?_
 obtain⟨D,hD,hr⟩:=Holds.one e
 dsimp only[jq]at hr
 change aO _ _ _ _ _ ⟨[(0,.cv (.val (.agg [.sl (List.map (eL eI) d.Next),.sl (List.map eB d.Final)])))],h.on []⟩
 iterate 2 refine A_s ?_
 refine al (cf (sj:=⟨[(1,vP (h.n+0)),(3,vP (h.n+1)),(22,vB ((decide ((d.Next.length:Int) < (1:Int)))||((decide ((d.Next.length:Int) > (5000:Int)))||((d.Final.length:Int) != (d.Next.length:Int)))))],h.on [some (.cells [wL (eL eI) d.Next,wL eB d.Final]),some (.cells [wI (d.Next.length:Int)])]⟩) (cB ?_) ?_)
 ·refine aG 3 ?_
  rcases Bool.eq_false_or_eq_true (decide ((d.Next.length:Int) < (1:Int)))with cF1|cF1
  ·refine aj ?_
   exact w_k A_c
  ·refine aG 4 ?_
   rcases Bool.eq_false_or_eq_true (decide ((d.Next.length:Int) > (5000:Int)))with cF2|cF2
   ·refine aj ?_
    exact w_k A_c
   ·refine aj ?_
    exact w_k A_c
 refine ak hr (fun cF3 hr=>?_) (fun cF3 hr=>?_)
 ·refine A_s ?_
  refine bk ?_
  obtain rfl:=hD _ hr
  exact(cm (aN (aU (os':=[]) (sl:=[(2,vB false)]) hwf) ⟨rfl,aE hwf⟩))
 ·refine az (w_n (al ?_))
  obtain⟨xs,eF4,gF5,hr⟩:=hr.idxK
  refine A_n ?_
  iterate 2 refine A_s ?_
  obtain⟨v1,vF9,hr⟩:=hr.bind
  refine cf (sj:=⟨[(2,vB v1)],h.on []⟩) (cB ?_) ?_
  ·have hr:=Holds.intro (D:=fun z=>z=v1) vF9 rfl
   refine aG 3 ?_
   rcases hr.ite with⟨cF6,hr⟩|⟨cF6,hr⟩
   ·refine aG 4 ?_
    rcases hr.ite with⟨cF7,hr⟩|⟨cF7,hr⟩
    ·refine aG 3 ?_
     obtain⟨r,eF8,hr⟩:=hr.bind
     refine aT (out:=?o8) (hp:=?p8) ?c8 ?d8 ?_
     case c8=>(refine gO d.Next (fun x0=>fP x0 (xs.length:Int) (fun x0=>fp x0 (d.Next.length:Int))) _ _ ?_ ?_ eF8;(exact(fun os x0 r e=>oT x0 (xs.length:Int) (fun x0=>fp x0 (d.Next.length:Int)) (h.n+2) 189 ([.ptr (some (h.n+1,0))]) (h.n+3) (by exact(fun os x0 r e=>oW x0 (d.Next.length:Int) (h.n+1) cN e)) (by exact(fun i=>by simp[CT])) cN cN (by first|omega|assumption|exact Ne.symm (by assumption)) e));(exact(fun i=>by simp[CT])))
     case d8=>rfl
     refine aj ?_
     obtain rfl:_=v1:=hr
     exact w_k A_c
    ·refine aG 3 ?_
     refine iF ?_
     refine aj ?_
     obtain rfl:_=v1:=hr
     exact w_k A_c
   ·refine aG 7 ?_
    refine iF ?_
    refine aj ?_
    obtain rfl:_=v1:=hr
    exact w_k A_c
  refine bk ?_
  obtain rfl:=hD _ hr
  exact(aN (aU (os':=[]) (sl:=[(2,vB v1)]) hwf) ⟨rfl,aE hwf⟩)
theorem uy(kind:List Int)(i:Int)(row:List Int){h:bn}{a:Str}(e:eR kind i row=some a):
  cq CT 228 [vL eI kind,vI i,vL eI row] h fun o h'=>o=[.cv (.val (.str (bs a)))]∧h'=h:=by
 refine bg Tryz.func228 fun hwf hu=>?_
 obtain⟨D,hD,hr⟩:=Holds.one e
 dsimp only[eR]at hr
 change aO _ _ _ _ _ ⟨[(0,vL eI kind),(1,vI i),(2,vL eI row)],h.on []⟩
 refine A_s ?_
 refine al (cT [0,1,2,3,4,5,6,7,8,9,10,11,12] (by rfl) ?_)
 obtain⟨n,nF1,eF2,gF3,hr⟩:=hr.idx
 refine anG (l:=[0,1,2,3,4,5,6,7,8,9,10,11]) (pend':=[11,10,9,8,7,6,5,4,3,2,1,0]) kB rfl ?_
 refine avR (pend':=[]) rfl cN kB (by rfl) ?_
 refine apa cN ?_
 refine w_n (al (A_s ?_))
 refine w_K (D:=D) (fun xX:List UInt8=>⟨[(7,.cv (.row 5 (List.map eU xX)))],h.on []⟩) (fun xX:List UInt8=>eR.k1 xX) (fun b s' hr ht=>?_) ?_
 ·dsimp only[eR.k1]at hr ht
  refine(dG ht ?_)
  refine A_s ?_
  refine bk ?_
  obtain rfl:=hD _ hr
  exact(aN (aU (os':=[]) (sl:=[(6,.cv (.val (.str (bs b))))]) hwf) ⟨rfl,aE hwf⟩)
 ·refine aw (cb (fun xX:(List UInt8×Int)=>⟨[(0,vL eI kind),(7,.cv (.row 5 (List.map eU xX.1))),(22,vL eI row),(23,vI (row.length:Int)),(24,vI xX.2)],h.on []⟩) hr A_c (fun W1 xX hr=>?_))
  obtain⟨b1,v⟩:=xX
  dsimp only[eR.b1]at hr
  refine A_s ?_
  refine al (ak hr (fun cF4 hr=>?_) (fun cF4 hr=>?_))
  ·refine az (w_n (al (aw (al ?_))))
   obtain⟨n1,nF5,eF6,gF7,hr⟩:=hr.idx
   refine A_n ?_
   refine cT [0,1,2,3,4,5,6,7,8,9,10,11,12,13,14] (by rfl) ?_
   obtain⟨n2,nF8,eF9,gF10,hr⟩:=hr.idx
   obtain⟨nF11,hr⟩:=hr.room
   refine anG (l:=[0,1,2,3,4,5,6,7,8,9,10,11,12]) (pend':=[12,11,10,9,8,7,6,5,4,3,2,1,0]) kB rfl ?_
   refine avR (pend':=[]) rfl cN kB (by rfl) ?_
   refine avR (pend':=[]) rfl cN kB (by rfl) ?_
   refine apa cN ?_
   refine(dC (w_n ?_))
   refine aC ?_
   exact(w_k ⟨((b1++([(u8 (IntKind.u8.wrap (shR .i64 n2 (8:Int)))),(u8 (IntKind.u8.wrap n2))])),(IntKind.i64.wrap (v+(1:Int)))),hr,A_c⟩)
  ·exact ca (cX (cX (fm (w_k ⟨b1,(hr).map,A_c⟩))))
theorem qa(d:fG) {h:bn} {a:List Int} (e:aH d=some a):
  cq CT 163 [.cv (.val (.agg [.sl (List.map (eL eI) d.Next),.sl (List.map eB d.Final)]))] h fun o h'=>o=[vL eI a]∧h'=h:=by
 refine bg Tryz.func163 fun hwf hu=>?_
 obtain⟨D,hD,hr⟩:=Holds.one e
 dsimp only[aH]at hr
 change aO _ _ _ _ _ ⟨[(0,.cv (.val (.agg [.sl (List.map (eL eI) d.Next),.sl (List.map eB d.Final)])))],h.on []⟩
 refine A_s ?_
 refine al ?_
 obtain⟨nF1,nF2,hr⟩:=hr.mk
 refine A_n ?_
 refine al (A_s ?_)
 refine w_K (D:=D) (fun xX:List Int=>⟨[(1,vP (h.n+0)),(3,rI xX)],h.on [some (.cells [wL (eL eI) d.Next,wL eB d.Final])]⟩) (fun xX:List Int=>aH.k1 d xX) (fun kind s' hr ht=>?_) ?_
 ·dsimp only[aH.k1]at hr ht
  refine(dG ht ?_)
  refine A_s ?_
  refine aw (cb (fun xX:(List Int×Int)=>⟨[(1,vP (h.n+0)),(3,rI xX.1),(5,vI xX.2)],h.on [some (.cells [wL (eL eI) d.Next,wL eB d.Final])]⟩) hr A_c (fun W1 xX hr=>?_))
  obtain⟨kind1,many⟩:=xX
  dsimp only[aH.b1]at hr
  refine w_K (D:=(Aft W1 D)) (fun xX:(List Int×Int)=>⟨[(1,vP (h.n+0)),(3,rI xX.1),(5,vI xX.2)],h.on [some (.cells [wL (eL eI) d.Next,wL eB d.Final])]⟩) (fun xX:(List Int×Int)=>aH.k2 xX.1 xX.2) (fun xX s' hr ht=>?_) ?_
  ·obtain⟨kind2,many1⟩:=xX
   dsimp only[aH.k2]at hr ht
   exact(w_k ⟨(kind2,many1),hr,(To.trans ht A_c)⟩)
  ·refine aw (A_s ?_)
   refine al ?_
   obtain⟨nF3,nF4,hr⟩:=hr.mk
   refine A_n ?_
   refine al (A_s ?_)
   refine w_K (D:=(Aft W1 D)) (fun xX:(List Int×List (Str×Int))=>⟨[(1,vP (h.n+0)),(5,vI many),(6,.cv (.val (.map (some (h.n+1))))),(7,rI xX.1)],h.on [some (.cells [wL (eL eI) d.Next,wL eB d.Final]),some (.map 9 (gy eS eI xX.2))]⟩) (fun xX:(List Int×List (Str×Int))=>aH.k3 many xX.1 xX.2) (fun xX s' hr ht=>?_) ?_
   ·obtain⟨next,m⟩:=xX
    dsimp only[aH.k3]at hr ht
    refine(dG ht ?_)
    refine al ?_
    iterate 2 refine A_s ?_
    refine ak hr (fun cF5 hr=>?_) (fun cF5 hr=>?_)
    ·refine A_s ?_
     refine bk ?_
     obtain rfl:=hD _ hr
     exact(cm (fa (cm (cm (fa (aN (.fix _ _ (.slot 2) 3 _ kB (aU (os':=[]) (sl:=[(2,vL eI next)]) hwf)) ⟨rfl,aE hwf⟩))))))
    ·refine az (w_n (aC ?_))
     exact(dC (w_k ⟨(next,(m.length:Int)),hr,A_c⟩))
   ·refine aw (cb (fun xX:(List Int×List Int×Int×List (Str×Int))=>⟨[(1,vP (h.n+0)),(3,vL eI xX.1),(5,vI many),(6,.cv (.val (.map (some (h.n+1))))),(7,rI xX.2.1),(35,vI (kind1.length:Int)),(36,vI xX.2.2.1)],h.on [some (.cells [wL (eL eI) d.Next,wL eB d.Final]),some (.map 9 (gy eS eI xX.2.2.2))]⟩) hr (.fix _ _ (.slot 3) 3 _ kB A_c) (fun W2 xX hr=>?_))
    obtain⟨kind3,next1,v,m1⟩:=xX
    dsimp only[aH.b2]at hr
    refine A_s ?_
    refine al (ak hr (fun cF6 hr=>?_) (fun cF6 hr=>?_))
    ·refine az (w_n (al (aw (A_s ?_))))
     refine al (cB ?_)
     obtain⟨xs,nF7,eF8,gF9,hr⟩:=hr.idx
     refine aG 7 ?_
     obtain⟨r,eF10,hr⟩:=hr.bind
     refine aT (out:=?o10) (hp:=?p10) ?c10 ?d10 ?_
     case c10=>exact uy kind3 v xs eF10
     case d10=>rfl
     refine fj ?_
     refine A_s ?_
     refine al (A_s ?_)
     refine w_K (D:=(Aft W2 (Aft W1 D))) (fun xX:(Int×List (Str×Int))=>⟨[(1,vP (h.n+0)),(3,vL eI kind3),(5,vI many),(6,.cv (.val (.map (some (h.n+1))))),(7,rI next1),(8,vI v),(10,vI xX.1),(35,vI (kind1.length:Int)),(36,vI v)],h.on [some (.cells [wL (eL eI) d.Next,wL eB d.Final]),some (.map 9 (gy eS eI xX.2))]⟩) (fun xX:(Int×List (Str×Int))=>aH.k4 kind3 next1 v xX.1 xX.2) (fun xX s' hr ht=>?_) ?_
     ·obtain⟨n,m2⟩:=xX
      dsimp only[aH.k4]at hr ht
      refine(dG ht ?_)
      obtain⟨n1,nF11,eF12,gF13,hr⟩:=hr.idx
      refine aC ?_
      refine(dC (w_n ?_))
      refine aC ?_
      exact(w_k ⟨(kind3,(List.set next1 (Int.toNat v) n),(IntKind.i64.wrap (v+(1:Int))),m2),hr,A_c⟩)
     ·refine ak hr (fun cF14 hr=>?_) (fun cF14 hr=>?_)
      ·refine A_s ?_
       refine aC ?_
       exact(w_k ⟨((m1.length:Int),(kF r (m1.length:Int) m1)),hr,A_c⟩)
      ·exact az (w_k ⟨(((oL r m1).getD (0:Int)),m1),hr,A_c⟩)
    ·exact ca (cX (cX (fm (w_k ⟨(next1,m1),(hr).map,A_c⟩))))
 ·refine aw (cb (fun xX:(List Int×Int)=>⟨[(1,vP (h.n+0)),(3,rI xX.1),(17,vI ((List.replicate (Int.toNat (d.Next.length:Int)) (0:Int)).length:Int)),(18,vI xX.2)],h.on [some (.cells [wL (eL eI) d.Next,wL eB d.Final])]⟩) hr A_c (fun W3 xX hr=>?_))
  obtain⟨kind4,v1⟩:=xX
  dsimp only[aH.b3]at hr
  refine A_s ?_
  refine al (ak hr (fun cF15 hr=>?_) (fun cF15 hr=>?_))
  ·refine az (w_n (al (w_K (D:=(Aft W3 D)) (fun xX:List Int=>⟨[(1,vP (h.n+0)),(3,rI xX),(17,vI ((List.replicate (Int.toNat (d.Next.length:Int)) (0:Int)).length:Int)),(18,vI v1)],h.on [some (.cells [wL (eL eI) d.Next,wL eB d.Final])]⟩) (fun xX:List Int=>aH.k5 v1 xX) (fun kind5 s' hr ht=>?_) ?_)))
   ·dsimp only[aH.k5]at hr ht
    refine(dG ht ?_)
    refine aC ?_
    exact(w_k ⟨(kind5,(IntKind.i64.wrap (v1+(1:Int)))),hr,A_c⟩)
   ·refine aw (A_s ?_)
    refine al ?_
    obtain⟨b,nF16,eF17,gF18,hr⟩:=hr.idx
    refine A_n ?_
    refine ak hr (fun cF19 hr=>?_) (fun cF19 hr=>?_)
    ·obtain⟨n2,nF20,eF21,gF22,hr⟩:=hr.idx
     refine aC ?_
     exact(dC (w_k ⟨(List.set kind4 (Int.toNat v1) (1:Int)),hr,A_c⟩))
    ·exact az (dC (w_k ⟨kind4,hr,A_c⟩))
  ·exact ca (cX (cX (fm (w_k ⟨kind4,(hr).map,A_c⟩))))
theorem kN(s:Int)(p1:List (Int×Int))(p2:List Int)(p3:List Int)(l1:Nat)(l1m0:Nat)(l2:Nat)(l3:Nat){h:bn}(ha1:h.at_ l1=some (.cells [.val (.map (some (l1m0)))]))(ha1m0:h.at_ l1m0=some (.map 3 (gy eI eI p1)))(ha2:h.at_ l2=some (.cells [wL eI p2]))(ha3:h.at_ l3=some (.cells [.row 3 (List.map eI p3)]))(hn1_1m0:l1≠l1m0)(hn1_2:l1≠l2)(hn1_3:l1≠l3)(hn1m0_2:l1m0≠l2)(hn1m0_3:l1m0≠l3)(hn2_3:l2≠l3){a:(Int×List (Int×Int)×List Int)}(e:dx s p1 p2 p3=some a):
  cq CT 164 [vI s,vP l1,vP l2,vP l3] h fun o h'=>o=[vI a.1]∧h'=((h.upd l1m0 (.map 3 (gy eI eI a.2.1))).upd l3 (.cells [.row 3 (List.map eI a.2.2)])):=by
 refine bg Tryz.func164 fun hwf hu=>?_
 have hl1:=(hwf _ _ ha1).1
 have kl1:=kZ hl1
 have hl1m0:=(hwf _ _ ha1m0).1
 have kl1m0:=kZ hl1m0
 have hl2:=(hwf _ _ ha2).1
 have kl2:=kZ hl2
 have hl3:=(hwf _ _ ha3).1
 have kl3:=kZ hl3
 have ku1:=aaK hl1 ha1
 have ku1m0:=aaK hl1m0 ha1m0
 have ku2:=aaK hl2 ha2
 have ku3:=aaK hl3 ha3
 have kp1_1m0:=aiC hn1_1m0
 have kp1_2:=aiC hn1_2
 have kp1_3:=aiC hn1_3
 have kp1m0_2:=aiC hn1m0_2
 have kp1m0_3:=aiC hn1m0_3
 have kp2_3:=aiC hn2_3
 have kk1_1m0:=av9 hn1_1m0 ha1m0
 obtain⟨D,hD,hr⟩:=Holds.one e
 dsimp only[dx]at hr
 change aO _ _ _ _ _ ⟨[(0,vI s),(1,vP l1),(2,vP l2),(3,vP l3)],h.on []⟩
 refine A_s ?_
 refine al (cT [0,1,2,3,4,5,6,7,8,9,10] (by rfl) ?_)
 obtain⟨n,nF1,eF2,gF3,hr⟩:=hr.idx
 refine bU [0,1,2,3,4,5,6,7,8] [8,7,6,5,4,3,2,1,0] ?_
 refine dt [8] ?_
 refine dt [] ?_
 refine df ?_
 refine w_n (al (A_s ?_))
 refine w_K (D:=D) (fun xX:(Int×List (Int×Int)×List Int)=>⟨[(6,vI xX.1)],((h.upd l1m0 (.map 3 (gy eI eI xX.2.1))).upd l3 (.cells [.row 3 (List.map eI xX.2.2)])).on []⟩) (fun xX:(Int×List (Int×Int)×List Int)=>dx.k1 xX.1 xX.2.1 xX.2.2) (fun xX s' hr ht=>?_) ?_
 ·obtain⟨n1,m,v⟩:=xX
  dsimp only[dx.k1]at hr ht
  refine(dG ht ?_)
  refine A_s ?_
  refine bk ?_
  obtain rfl:=hD _ hr
  exact(aN (aU (os':=[]) (sl:=[(5,vI n1)]) (h:=((h.upd l1m0 (.map 3 (gy eI eI m))).upd l3 (.cells [.row 3 (List.map eI v)]))) (ft (ft hwf hl1m0) hl3)) ⟨rfl,aE (ft (ft hwf hl1m0) hl3)⟩)
 ·refine ak hr (fun cF4 hr=>?_) (fun cF4 hr=>?_)
  ·refine A_s ?_
   refine cT [0,1,2,3,4,5,6,7,8,9,10,11,12,13] (by rfl) ?_
   obtain⟨nF5,hr⟩:=hr.room
   refine bU [0,1,2,3,4,5,6,7,8] [8,7,6,5,4,3,2,1,0] ?_
   refine dt [5,4,3,2,1,0] ?_
   refine dt [5] ?_
   refine bU [11] [11,5] ?_
   refine dt [] ?_
   refine dt [] ?_
   refine df ?_
   exact(w_k ⟨((p3.length:Int),(kF n (p3.length:Int) p1),(p3++([s]))),hr,(aU (ft (ft hwf hl1m0) hl3))⟩)
  ·exact az (w_k ⟨(((oL n p1).getD (0:Int)),p1,p3),hr,(aU (ft (ft hwf hl1m0) hl3))⟩)
theorem sb(d:fG) {h:bn} {a:(fG×Int)} (e:bT d=some a):
  cq CT 89 [.cv (.val (.agg [.sl (List.map (eL eI) d.Next),.sl (List.map eB d.Final)]))] h fun o h'=>o=[.cv (.val (.agg [.sl (List.map (eL eI) a.1.Next),.sl (List.map eB a.1.Final)])),vI a.2]∧h'=h:=by
 refine bg Tryz.func89 fun hwf hu=>?_
 obtain⟨D,hD,hr⟩:=Holds.one e
 dsimp only[bT]at hr
 change aO _ _ _ _ _ ⟨[(0,.cv (.val (.agg [.sl (List.map (eL eI) d.Next),.sl (List.map eB d.Final)])))],h.on []⟩
 refine A_s ?_
 refine al (fD 1 ?_)
 obtain⟨r,eF1,hr⟩:=hr.bind
 refine aT (out:=?o1) (hp:=?p1) ?c1 ?d1 ?_
 case c1=>exact qZ d eF1
 case d1=>rfl
 refine fj ?_
 refine ak hr (fun cF2 hr=>?_) (fun cF2 hr=>?_)
 ·refine A_s ?_
  refine bk ?_
  obtain rfl:=hD _ hr
  exact(cm (fU (aU (os':=[none,some (.cells [wL (eL eI) ([]:List (List Int)),wL eB ([]:List Bool)])]) (sl:=[(2,vP (h.n+1)),(3,vI (1:Int))]) hwf) (by simp (disch:=(apply dd.mk;decide)) only[go_sem,Nat.reduceAdd,Nat.reduceLT,Nat.reduceMul,Nat.reduceLeDiff,Int.reduceToNat,Int.reduceLT,Int.reduceLE,Tryz.results89,ai vC,eT,fB.eq_2,dH,cF2]) (Drops.on (os:=[none,some (.cells [wL (eL eI) ([]:List (List Int)),wL eB ([]:List Bool)])]) (os':=[]) hwf (nR _) (by simp (disch:=(apply dd.mk;decide)) only[go_sem,Nat.reduceAdd,Nat.reduceLT,Nat.reduceMul,Nat.reduceLeDiff,Int.reduceToNat,Int.reduceLT,Int.reduceLE,cF2])) ⟨rfl,aE hwf⟩))
 ·refine az (w_n (fD 1 ?_))
  obtain⟨r1,eF3,hr⟩:=hr.bind
  refine aT (out:=?o3) (hp:=?p3) ?c3 ?d3 ?_
  case c3=>exact qa d eF3
  case d3=>rfl
  refine fj ?_
  iterate 4 refine A_s ?_
  refine al (tF (s1:=⟨[(1,vP (h.n+0)),(2,vP (h.n+1)),(6,vP (h.n+5)),(7,.cv (.val (.fn 164 [] [.ptr (some (h.n+4,0)),.ptr (some (h.n+2,0)),.ptr (some (h.n+5,0))]))),(8,vP (h.n+6))],h.on [some (.cells [wL (eL eI) d.Next,wL eB d.Final]),some (.cells [.nil,.nil]),some (.cells [wL eI r1]),some (.map 3 (gy eI eI [])),some (.cells [.val (.map (some (h.n+3)))]),some (.cells [.row 3 (List.map eI [])]),some (.cells [.nil,.nil])]⟩) A_c ?_)
  refine cB ?_
  refine aG 1 ?_
  obtain⟨r2,eF4,hr⟩:=hr.bind
  refine aT (out:=?o4) (hp:=?p4) ?c4 ?d4 ?_
  case c4=>(refine kN (0:Int) [] r1 [] (h.n+4) (h.n+3) (h.n+2) (h.n+5) ?_ ?_ ?_ ?_ ?_ ?_ ?_ ?_ ?_ ?_ eF4;exact xT;exact xT;exact xT;exact xT;(first|omega|assumption|exact Ne.symm (by assumption));(first|omega|assumption|exact Ne.symm (by assumption));(first|omega|assumption|exact Ne.symm (by assumption));(first|omega|assumption|exact Ne.symm (by assumption));(first|omega|assumption|exact Ne.symm (by assumption));(first|omega|assumption|exact Ne.symm (by assumption)))
  case d4=>rfl
  refine dA ?_
  refine w_n (al (A_s ?_))
  refine w_K (D:=D) (fun xX:(List (List Int)×List Bool)=>⟨[(2,vP (h.n+1)),(8,vP (h.n+6))],h.on [none,some (.cells [.nil,.nil]),none,none,none,none,some (.cells [.row 26 (List.map (eL eI) xX.1),.row 4 (List.map eB xX.2)])]⟩) (fun xX:(List (List Int)×List Bool)=>bT.k1 xX.1 xX.2) (fun xX s' hr ht=>?_) ?_
  ·obtain⟨Next,Final⟩:=xX
   dsimp only[bT.k1]at hr ht
   refine(dG ht ?_)
   refine al ?_
   refine tF (.fix _ _ (.cell (h.n+6) 0) 26 _ (by simp (disch:=(apply dd.mk;decide)) only[go_sem,Nat.reduceAdd,Nat.reduceLT,Nat.reduceMul,Nat.reduceLeDiff,Int.reduceToNat,Int.reduceLT,Int.reduceLE,cF2];rfl) (.refl _)) ?_
   refine tF (.fix _ _ (.cell (h.n+6) 1) 4 _ (by simp (disch:=(apply dd.mk;decide)) only[go_sem,Nat.reduceAdd,Nat.reduceLT,Nat.reduceMul,Nat.reduceLeDiff,Int.reduceToNat,Int.reduceLT,Int.reduceLE,cF2];rfl) (.refl _)) ?_
   refine A_n ?_
   refine bk ?_
   obtain rfl:=hD _ hr
   exact(fU (aU (os':=[none,some (.cells [wL (eL eI) (fG.mk Next Final).Next,wL eB (fG.mk Next Final).Final])]) (sl:=[(2,vP (h.n+1)),(3,vI (0:Int))]) hwf) (by simp (disch:=(apply dd.mk;decide)) only[go_sem,Nat.reduceAdd,Nat.reduceLT,Nat.reduceMul,Nat.reduceLeDiff,Int.reduceToNat,Int.reduceLT,Int.reduceLE,Tryz.results89,ai vC,eT,fB.eq_2,dH,cF2]) (Drops.on (os:=[none,some (.cells [wL (eL eI) (fG.mk Next Final).Next,wL eB (fG.mk Next Final).Final])]) (os':=[]) hwf (nR _) (by simp (disch:=(apply dd.mk;decide)) only[go_sem,Nat.reduceAdd,Nat.reduceLT,Nat.reduceMul,Nat.reduceLeDiff,Int.reduceToNat,Int.reduceLT,Int.reduceLE,cF2])) ⟨rfl,aE hwf⟩)
  ·refine aw (cb (fun xX:(Int×List (Int×Int)×List Int×List (List Int)×List Bool)=>⟨[(1,vP (h.n+0)),(2,vP (h.n+1)),(6,vP (h.n+5)),(7,.cv (.val (.fn 164 [] [.ptr (some (h.n+4,0)),.ptr (some (h.n+2,0)),.ptr (some (h.n+5,0))]))),(8,vP (h.n+6)),(9,vI xX.1)],h.on [some (.cells [wL (eL eI) d.Next,wL eB d.Final]),some (.cells [.nil,.nil]),some (.cells [wL eI r1]),some (.map 3 (gy eI eI xX.2.1)),some (.cells [.val (.map (some (h.n+3)))]),some (.cells [.row 3 (List.map eI xX.2.2.1)]),some (.cells [.row 26 (List.map (eL eI) xX.2.2.2.1),.row 4 (List.map eB xX.2.2.2.2)])]⟩) hr A_c (fun W1 xX hr=>?_))
   obtain⟨i,m,v,Next1,Final1⟩:=xX
   dsimp only[bT.b1]at hr
   refine al (A_s ?_)
   refine ak hr (fun cF5 hr=>?_) (fun cF5 hr=>?_)
   ·refine az (w_n (al (w_K (D:=(Aft W1 D)) (fun xX:(List (Int×Int)×List Int×List (List Int)×List Bool)=>⟨[(1,vP (h.n+0)),(2,vP (h.n+1)),(6,vP (h.n+5)),(7,.cv (.val (.fn 164 [] [.ptr (some (h.n+4,0)),.ptr (some (h.n+2,0)),.ptr (some (h.n+5,0))]))),(8,vP (h.n+6)),(9,vI i)],h.on [some (.cells [wL (eL eI) d.Next,wL eB d.Final]),some (.cells [.nil,.nil]),some (.cells [wL eI r1]),some (.map 3 (gy eI eI xX.1)),some (.cells [.val (.map (some (h.n+3)))]),some (.cells [.row 3 (List.map eI xX.2.1)]),some (.cells [.row 26 (List.map (eL eI) xX.2.2.1),.row 4 (List.map eB xX.2.2.2)])]⟩) (fun xX:(List (Int×Int)×List Int×List (List Int)×List Bool)=>bT.k2 i xX.1 xX.2.1 xX.2.2.1 xX.2.2.2) (fun xX s' hr ht=>?_) ?_)))
    ·obtain⟨m1,v1,Next2,Final2⟩:=xX
     dsimp only[bT.k2]at hr ht
     refine(dG ht ?_)
     refine aC ?_
     exact(w_k ⟨((IntKind.i64.wrap (i+(1:Int))),m1,v1,Next2,Final2),hr,A_c⟩)
    ·refine aw (A_s ?_)
     refine al (al (cT [0,1,2,3,4,5,6,7,8,9] (by rfl) ?_))
     obtain⟨n,nF6,eF7,gF8,hr⟩:=hr.idx
     obtain⟨xs,nF9,eF10,gF11,hr⟩:=hr.idx
     refine bU [0,1,2,3,4,5,6,7,8,9] [9,8,7,6,5,4,3,2,1,0] ?_
     refine df ?_
     refine w_n (w_K (D:=(Aft W1 D)) (fun xX:(List Int×List (Int×Int)×List Int)=>⟨[(1,vP (h.n+0)),(2,vP (h.n+1)),(6,vP (h.n+5)),(7,.cv (.val (.fn 164 [] [.ptr (some (h.n+4,0)),.ptr (some (h.n+2,0)),.ptr (some (h.n+5,0))]))),(8,vP (h.n+6)),(9,vI i),(10,rI xX.1)],h.on [some (.cells [wL (eL eI) d.Next,wL eB d.Final]),some (.cells [.nil,.nil]),some (.cells [wL eI r1]),some (.map 3 (gy eI eI xX.2.1)),some (.cells [.val (.map (some (h.n+3)))]),some (.cells [.row 3 (List.map eI xX.2.2)]),some (.cells [.row 26 (List.map (eL eI) Next1),.row 4 (List.map eB Final1)])]⟩) (fun xX:(List Int×List (Int×Int)×List Int)=>bT.k3 d i Next1 Final1 xX.1 xX.2.1 xX.2.2) (fun xX s' hr ht=>?_) ?_)
     ·obtain⟨row,m2,v2⟩:=xX
      dsimp only[bT.k3]at hr ht
      refine(dG ht ?_)
      refine tF (.fix _ _ (.slot 10) 3 _ (by simp (disch:=(apply dd.mk;decide)) only[go_sem,Nat.reduceAdd,Nat.reduceLT,Nat.reduceMul,Nat.reduceLeDiff,Int.reduceToNat,Int.reduceLT,Int.reduceLE,cF2,cF5];rfl) (.refl _)) ?_
      refine cT [0,1,2,3,5,6,7,8,9,10,11,12,13,14,15,4,17,16,18,19,20] (by rfl) ?_
      obtain⟨n1,nF12,eF13,gF14,hr⟩:=hr.idx
      obtain⟨b,nF15,eF16,gF17,hr⟩:=hr.idx
      obtain⟨nF18,hr⟩:=hr.room
      obtain⟨nF19,hr⟩:=hr.room
      refine bU [0,1,2,3,5,6,7,8,9,10,11,12,13,14,15] [15,14,13,12,11,10,9,8,7,6,5,3,2,1,0] ?_
      refine dt [15,14,13,12,11,10,9,8,7,6,5] ?_
      refine bU [17] [17,15,14,13,12,11,10,9,8,7,6,5] ?_
      refine dt [17] ?_
      refine dt [] ?_
      refine bU [19] [19] ?_
      refine dt [] ?_
      refine df ?_
      exact(dC (w_k ⟨(m2,v2,(Next1++([row])),(Final1++([b]))),hr,A_c⟩))
     ·refine aw (cb (fun xX:(List Int×Int×List (Int×Int)×List Int)=>⟨[(1,vP (h.n+0)),(2,vP (h.n+1)),(6,vP (h.n+5)),(7,.cv (.val (.fn 164 [] [.ptr (some (h.n+4,0)),.ptr (some (h.n+2,0)),.ptr (some (h.n+5,0))]))),(8,vP (h.n+6)),(9,vI i),(10,rI xX.1),(36,vL eI xs),(37,vI (xs.length:Int)),(38,vI xX.2.1)],h.on [some (.cells [wL (eL eI) d.Next,wL eB d.Final]),some (.cells [.nil,.nil]),some (.cells [wL eI r1]),some (.map 3 (gy eI eI xX.2.2.1)),some (.cells [.val (.map (some (h.n+3)))]),some (.cells [.row 3 (List.map eI xX.2.2.2)]),some (.cells [.row 26 (List.map (eL eI) Next1),.row 4 (List.map eB Final1)])]⟩) hr A_c (fun W2 xX hr=>?_))
      obtain⟨row1,v3,m3,v4⟩:=xX
      dsimp only[bT.b2]at hr
      refine A_s ?_
      refine al (ak hr (fun cF20 hr=>?_) (fun cF20 hr=>?_))
      ·refine az (w_n (al (aw (al ?_))))
       obtain⟨n2,nF21,eF22,gF23,hr⟩:=hr.idx
       refine A_n ?_
       refine cB ?_
       refine aG 3 ?_
       obtain⟨r3,eF24,hr⟩:=hr.bind
       refine aT (out:=?o24) (hp:=?p24) ?c24 ?d24 ?_
       case c24=>(refine kN n2 m3 r1 v4 (h.n+4) (h.n+3) (h.n+2) (h.n+5) ?_ ?_ ?_ ?_ ?_ ?_ ?_ ?_ ?_ ?_ eF24;exact xT;exact xT;exact xT;exact xT;(first|omega|assumption|exact Ne.symm (by assumption));(first|omega|assumption|exact Ne.symm (by assumption));(first|omega|assumption|exact Ne.symm (by assumption));(first|omega|assumption|exact Ne.symm (by assumption));(first|omega|assumption|exact Ne.symm (by assumption));(first|omega|assumption|exact Ne.symm (by assumption)))
       case d24=>rfl
       obtain⟨nF25,hr⟩:=hr.room
       refine aj ?_
       refine(dC (w_n ?_))
       refine aC ?_
       exact(w_k ⟨((row1++([r3.1])),(IntKind.i64.wrap (v3+(1:Int))),r3.2.1,r3.2.2),hr,A_c⟩)
      ·exact ca (cX (cX (fm (w_k ⟨(row1,m3,v4),(hr).map,A_c⟩))))
   ·exact ca (cX (cX (fm (w_k ⟨(Next1,Final1),(hr).map,A_c⟩))))
theorem iL(n:aD)(masks:List Int)(limit:Int){h:bn}{a:(fG×Int)}(e:ec n masks limit=some a):
  cq CT 36 [.cv (.val (.agg [.int .i64 n.Kind,.int .i64 n.Set,.sl (List.map bW n.Kids)])),vL (eK .u64) masks,vI limit] h fun o h'=>o=[.cv (.val (.agg [.sl (List.map (eL eI) a.1.Next),.sl (List.map eB a.1.Final)])),vI a.2]∧h'=h:=by
 refine bg Tryz.func36 fun hwf hu=>?_
 obtain⟨D,hD,hr⟩:=Holds.one e
 dsimp only[ec]at hr
 change aO _ _ _ _ _ ⟨[(0,.cv (.val (.agg [.int .i64 n.Kind,.int .i64 n.Set,.sl (List.map bW n.Kids)]))),(1,vL (eK .u64) masks),(2,vI limit)],h.on []⟩
 refine A_s ?_
 refine fD 1 ?_
 obtain⟨r,eF1,hr⟩:=hr.bind
 refine aT (out:=?o1) (hp:=?p1) ?c1 ?d1 ?_
 case c1=>exact rp n eF1
 case d1=>rfl
 refine fj ?_
 refine al (A_s ?_)
 refine ak hr (fun cF2 hr=>?_) (fun cF2 hr=>?_)
 ·refine A_s ?_
  refine bk ?_
  obtain rfl:=hD _ hr
  exact(cm (fU (aU (os':=[none,some (.cells [wL (eL eI) ([]:List (List Int)),wL eB ([]:List Bool)])]) (sl:=[(6,vP (h.n+1)),(7,vI r.2)]) hwf) (by simp (disch:=(apply dd.mk;decide)) only[go_sem,Nat.reduceAdd,Nat.reduceLT,Nat.reduceMul,Nat.reduceLeDiff,Int.reduceToNat,Int.reduceLT,Int.reduceLE,Tryz.results36,ai qF,eT,fB.eq_2,dH,cF2]) (Drops.on (os:=[none,some (.cells [wL (eL eI) ([]:List (List Int)),wL eB ([]:List Bool)])]) (os':=[]) hwf (nR _) (by simp (disch:=(apply dd.mk;decide)) only[go_sem,Nat.reduceAdd,Nat.reduceLT,Nat.reduceMul,Nat.reduceLeDiff,Int.reduceToNat,Int.reduceLT,Int.reduceLE,cF2])) ⟨rfl,aE hwf⟩))
 ·refine az (w_n (fD 3 ?_))
  obtain⟨r1,eF3,hr⟩:=hr.bind
  refine aT (out:=?o3) (hp:=?p3) ?c3 ?d3 ?_
  case c3=>exact qG r.1 masks true limit eF3
  case d3=>rfl
  refine fj ?_
  refine al (A_s ?_)
  refine ak hr (fun cF4 hr=>?_) (fun cF4 hr=>?_)
  ·refine A_s ?_
   refine bk ?_
   obtain rfl:=hD _ hr
   exact(cm (fU (aU (os':=[none,some (.cells [wL (eL eI) ([]:List (List Int)),wL eB ([]:List Bool)])]) (sl:=[(6,vP (h.n+1)),(7,vI r1.2)]) hwf) (by simp (disch:=(apply dd.mk;decide)) only[go_sem,Nat.reduceAdd,Nat.reduceLT,Nat.reduceMul,Nat.reduceLeDiff,Int.reduceToNat,Int.reduceLT,Int.reduceLE,Tryz.results36,ai qF,eT,fB.eq_2,dH,cF2,cF4]) (Drops.on (os:=[none,some (.cells [wL (eL eI) ([]:List (List Int)),wL eB ([]:List Bool)])]) (os':=[]) hwf (nR _) (by simp (disch:=(apply dd.mk;decide)) only[go_sem,Nat.reduceAdd,Nat.reduceLT,Nat.reduceMul,Nat.reduceLeDiff,Int.reduceToNat,Int.reduceLT,Int.reduceLE,cF2,cF4])) ⟨rfl,aE hwf⟩))
  ·refine az (w_n (fD 1 ?_))
   obtain⟨r2,eF5,hr⟩:=hr.bind
   refine aT (out:=?o5) (hp:=?p5) ?c5 ?d5 ?_
   case c5=>exact sb r1.1 eF5
   case d5=>rfl
   refine fj ?_
   refine bk ?_
   obtain rfl:=hD _ hr
   exact(fU (aU (os':=[none,some (.cells [wL (eL eI) r2.1.Next,wL eB r2.1.Final])]) (sl:=[(6,vP (h.n+1)),(7,vI r2.2)]) hwf) (by simp (disch:=(apply dd.mk;decide)) only[go_sem,Nat.reduceAdd,Nat.reduceLT,Nat.reduceMul,Nat.reduceLeDiff,Int.reduceToNat,Int.reduceLT,Int.reduceLE,Tryz.results36,ai qF,eT,fB.eq_2,dH,cF2,cF4]) (Drops.on (os:=[none,some (.cells [wL (eL eI) r2.1.Next,wL eB r2.1.Final])]) (os':=[]) hwf (nR _) (by simp (disch:=(apply dd.mk;decide)) only[go_sem,Nat.reduceAdd,Nat.reduceLT,Nat.reduceMul,Nat.reduceLeDiff,Int.reduceToNat,Int.reduceLT,Int.reduceLE,cF2,cF4])) ⟨rfl,aE hwf⟩)
theorem lz(t:bQ)(r:Int)(l0:Nat){h:bn}(ha0:h.at_ l0=some (.cells (cH eU t.like++([wL (eA eU) t.first]:List CV)))){a:UInt8}(e:gh t r=some a):
  cq CT 153 [vP l0,vI r] h fun o h'=>o=[.cv (.val (.int .u8 (a.toNat:Int)))]∧h'=h:=by
 refine bg Tryz.func153 fun hwf hu=>?_
 have hl0:=(hwf _ _ ha0).1
 have kl0:=kZ hl0
 obtain⟨D,hD,hr⟩:=Holds.one e
 dsimp only[gh]at hr
 change aO _ _ _ _ _ ⟨[(0,vP l0),(1,vI r)],h.on []⟩
 refine A_s ?_
 refine al (cf (sj:=⟨[(0,vP l0),(1,vI r),(10,vB ((decide (r < (0:Int)))||(decide (r > (1114111:Int)))))],h.on []⟩) (cB ?_) ?_)
 ·refine aG 3 ?_
  rcases Bool.eq_false_or_eq_true (decide (r < (0:Int)))with cF1|cF1
  ·refine aj ?_
   exact w_k A_c
  ·refine aj ?_
   exact w_k A_c
 refine ak hr (fun cF2 hr=>?_) (fun cF2 hr=>?_)
 ·refine A_s ?_
  refine bk ?_
  obtain rfl:=hD _ hr
  exact(cm (aN (aU (os':=[]) (sl:=[(4,.cv (.val (.int .u8 (0:Int))))]) hwf) ⟨rfl,aE hwf⟩))
 ·refine az (w_n (al (cT [0,1,2,3,4,5,6,7,8,9,10,11,12,13,14,15,16] (by rfl) ?_)))
  obtain⟨n,nF3,eF4,gF5,hr⟩:=hr.idx
  have qF6:(Int.toNat (IntKind.i64.wrap (Int.tdiv r (256:Int))) < 4352)=True:=eq_true (pQ eF4)
  have qF7:=vG (e:=eU) (cs:=([wL (eA eU) t.first]:List CV)) eF4
  obtain⟨y,nF8,eF9,gF10,hr⟩:=hr.idx
  obtain⟨n1,nF11,eF12,gF13,hr⟩:=hr.idx
  have qF14:(Int.toNat (Int.tmod r (256:Int)) < 256)=True:=eq_true (pQ eF12)
  have qF15:=anR (e:=eU) eF12
  refine anG (l:=[0,1,2,3,4,5,6,7,8,9,10,11,12,13,14,15]) (pend':=[15,14,13,12,11,10,9,8,7,6,5,4,3,2,1,0]) (by simp (disch:=(apply dd.mk;decide)) only[go_sem,Nat.reduceAdd,Nat.reduceLT,Nat.reduceMul,Nat.reduceLeDiff,Int.reduceToNat,Int.reduceLT,Int.reduceLE,ha0,fc hl0,fq hl0,jh hl0,(eq_false (by decide:¬ ((256:Int)=0))),nF3,eF4,gF5,qF6,Nat.mul_one,Nat.zero_add,qF7,nF8,eF9,gF10,nF11,eF12,gF13,qF14,qF15];rfl) rfl ?_
  refine avR (pend':=[]) rfl (by simp (disch:=(apply dd.mk;decide)) only[go_sem,Nat.reduceAdd,Nat.reduceLT,Nat.reduceMul,Nat.reduceLeDiff,Int.reduceToNat,Int.reduceLT,Int.reduceLE,ha0,fc hl0,fq hl0,jh hl0,(eq_false (by decide:¬ ((256:Int)=0))),nF3,eF4,gF5,qF6,Nat.mul_one,Nat.zero_add,qF7,nF8,eF9,gF10,nF11,eF12,gF13,qF14,qF15]) (by simp (disch:=(apply dd.mk;decide)) only[go_sem,Nat.reduceAdd,Nat.reduceLT,Nat.reduceMul,Nat.reduceLeDiff,Int.reduceToNat,Int.reduceLT,Int.reduceLE,ha0,fc hl0,fq hl0,jh hl0,(eq_false (by decide:¬ ((256:Int)=0))),nF3,eF4,gF5,qF6,Nat.mul_one,Nat.zero_add,qF7,nF8,eF9,gF10,nF11,eF12,gF13,qF14,qF15];rfl) (by rfl) ?_
  refine apa (by simp (disch:=(apply dd.mk;decide)) only[go_sem,Nat.reduceAdd,Nat.reduceLT,Nat.reduceMul,Nat.reduceLeDiff,Int.reduceToNat,Int.reduceLT,Int.reduceLE,ha0,fc hl0,fq hl0,jh hl0,(eq_false (by decide:¬ ((256:Int)=0))),nF3,eF4,gF5,qF6,Nat.mul_one,Nat.zero_add,qF7,(eq_false (by decide:¬ ((256:Int)=0))),nF8,eF9,gF10,nF11,eF12,gF13,qF14,Nat.mul_one,Nat.zero_add,qF15]) ?_
  refine w_n (bk ?_)
  obtain rfl:=hD _ hr
  exact(aN (aU (os':=[]) (sl:=[(4,.cv (.val (.int .u8 (n1.toNat:Int))))]) hwf) ⟨rfl,aE hwf⟩)
theorem lf(a_:aQ)(r:Int)(l0:Nat)(l0p0:Nat){h:bn}(ha0:h.at_ l0=some (.cells [wP l0p0,wL (eK .u64) a_.masks,wL eI a_.least]))(ha0p0:h.at_ l0p0=some (.cells (cH eU a_.trie.like++([wL (eA eU) a_.trie.first]:List CV))))(hn0_0p0:l0≠l0p0){a:Int}(e:eH a_ r=some a):
  cq CT 85 [vP l0,vI r] h fun o h'=>o=[vI a]∧h'=h:=by
 refine bg Tryz.func85 fun hwf hu=>?_
 have hl0:=(hwf _ _ ha0).1
 have kl0:=kZ hl0
 have hl0p0:=(hwf _ _ ha0p0).1
 have kl0p0:=kZ hl0p0
 obtain⟨D,hD,hr⟩:=Holds.one e
 dsimp only[eH]at hr
 change aO _ _ _ _ _ ⟨[(0,vP l0),(1,vI r)],h.on []⟩
 refine A_s ?_
 refine al (cf (sj:=⟨[(0,vP l0),(1,vI r),(10,vB ((decide (r < (0:Int)))||(decide (r > (1114111:Int)))))],h.on []⟩) (cB ?_) ?_)
 ·refine aG 3 ?_
  rcases Bool.eq_false_or_eq_true (decide (r < (0:Int)))with cF1|cF1
  ·refine aj ?_
   exact w_k A_c
  ·refine aj ?_
   exact w_k A_c
 refine ak hr (fun cF2 hr=>?_) (fun cF2 hr=>?_)
 ·refine A_s ?_
  refine bk ?_
  obtain rfl:=hD _ hr
  exact(cm (aN (aU (os':=[]) (sl:=[(4,vI (-1:Int))]) hwf) ⟨rfl,aE hwf⟩))
 ·refine az (w_n (fD 5 ?_))
  obtain⟨r1,eF3,hr⟩:=hr.bind
  refine aT (out:=?o3) (hp:=?p3) ?c3 ?d3 ?_
  case c3=>(refine lz a_.trie r (l0p0) ?_ eF3;exact cN)
  case d3=>rfl
  refine fj ?_
  refine bk ?_
  obtain rfl:=hD _ hr
  exact(aN (aU (os':=[]) (sl:=[(4,vI (IntKind.i64.wrap (r1.toNat:Int)))]) hwf) ⟨rfl,aE hwf⟩)
theorem kR(a_:aQ) (sets:List (List ah)) (l0:Nat) (l0p0:Nat) {h:bn} (ha0:h.at_ l0=some (.cells [wP l0p0,wL (eK .u64) a_.masks,wL eI a_.least])) (ha0p0:h.at_ l0p0=some (.cells (cH eU a_.trie.like++([wL (eA eU) a_.trie.first]:List CV)))) (hn0_0p0:l0≠l0p0) {a:Option bQ} (e:aI a_ sets=some a):
  cq CT 33 [vP l0,vL (eL ay) sets] h fun o h'=>match a with|none=>o=[.cv (.val (.ptr none))]∧h'=h|some y=>o=[vP (h.n+0)]∧h'=h.on [some (.cells (cH eU y.like++([wL (eA eU) y.first]:List CV)))]:=by
 refine bg Tryz.func33 fun hwf hu=>?_
 have hl0:=(hwf _ _ ha0).1
 have kl0:=kZ hl0
 have hl0p0:=(hwf _ _ ha0p0).1
 have kl0p0:=kZ hl0p0
 obtain⟨D,hD,hr⟩:=Holds.one e
 dsimp only[aI]at hr
 change aO _ _ _ _ _ ⟨[(0,vP l0),(1,vL (eL ay) sets)],h.on []⟩
 iterate 2 refine A_s ?_
 refine al (A_s ?_)
 refine w_K (D:=D) (fun xX:List Int=>⟨[(0,vP l0),(5,rI xX)],h.on []⟩) (fun xX:List Int=>aI.k1 a_ xX) (fun edges s' hr ht=>?_) ?_
 ·dsimp only[aI.k1]at hr ht
  refine(dG ht ?_)
  refine fD 1 ?_
  obtain⟨l,eF1,hr⟩:=hr.bind
  refine amf (g:=83) (ds:=[]) (k:=3) rfl (by simp (disch:=(apply dd.mk;decide)) only[go_sem,Nat.reduceAdd,Nat.reduceLT,Nat.reduceMul,Nat.reduceLeDiff,Int.reduceToNat,Int.reduceLT,Int.reduceLE,ha0,fc hl0,fq hl0,jh hl0,ha0p0,fc hl0p0,fq hl0p0,jh hl0p0,gS] <;> rfl) rfl (by simp (disch:=(apply dd.mk;decide)) only[go_sem,Nat.reduceAdd,Nat.reduceLT,Nat.reduceMul,Nat.reduceLeDiff,Int.reduceToNat,Int.reduceLT,Int.reduceLE,ha0,fc hl0,fq hl0,jh hl0,ha0p0,fc hl0p0,fq hl0p0,jh hl0p0,gS] <;> rfl) (by simp (disch:=(apply dd.mk;decide)) only[go_sem,Nat.reduceAdd,Nat.reduceLT,Nat.reduceMul,Nat.reduceLeDiff,Int.reduceToNat,Int.reduceLT,Int.reduceLE,ha0,fc hl0,fq hl0,jh hl0,ha0p0,fc hl0p0,fq hl0p0,jh hl0p0,gS] <;> rfl) (by simp (disch:=(apply dd.mk;decide)) only[go_sem,Nat.reduceAdd,Nat.reduceLT,Nat.reduceMul,Nat.reduceLeDiff,Int.reduceToNat,Int.reduceLT,Int.reduceLE,ha0,fc hl0,fq hl0,jh hl0,ha0p0,fc hl0p0,fq hl0p0,jh hl0p0,gS] <;> rfl) (by rfl) (zD eF1) ?_
  refine dA ?_
  refine w_n (A_s ?_)
  refine al (fD 1 ?_)
  obtain⟨r,eF2,hr⟩:=hr.bind
  refine aT (out:=?o2) (hp:=?p2) ?c2 ?d2 ?_
  case c2=>exact gn l eF2
  case d2=>rfl
  refine fj ?_
  refine w_K (D:=D) (fun xX:List bZ=>⟨[(10,.cv (.row 115 (List.map dM xX)))],h.on []⟩) (fun xX:List bZ=>aI.k2 xX) (fun props s' hr ht=>?_) ?_
  ·dsimp only[aI.k2]at hr ht
   refine(dG ht ?_)
   refine fD 1 ?_
   obtain⟨r1,eF3,hr⟩:=hr.bind
   try dsimp only at hr
   rcases xF4:r1.1 with _|y
   ·rw[xF4]at hr
    dsimp only at hr
    refine aT (out:=?o_eF3a) (hp:=?p_eF3a) ?c_eF3a ?d_eF3a ?_
    case c_eF3a=>exact jG props eF3 xF4
    case d_eF3a=>rfl
    refine fj ?_
    refine A_s ?_
    refine bk ?_
    obtain rfl:=hD _ hr
    exact(aN (aU (os':=[]) (sl:=[(4,.cv (.val (.ptr none)))]) hwf) ⟨rfl,aE hwf⟩)
   ·rw[xF4]at hr
    dsimp only at hr
    refine aT (out:=?o_eF3b) (hp:=?p_eF3b) ?c_eF3b ?d_eF3b ?_
    case c_eF3b=>exact jH props eF3 xF4
    case d_eF3b=>rfl
    refine fj ?_
    refine A_s ?_
    refine bk ?_
    obtain rfl:=hD _ hr
    exact(rD (aU (os':=[some (.cells (cH eU y.like++([wL (eA eU) y.first]:List CV)))]) (sl:=[(4,vP (h.n+0))]) hwf) cN ⟨rfl,rfl⟩)
  ·refine aw (cb (fun xX:(List bZ×Int)=>⟨[(0,vP l0),(10,.cv (.row 115 (List.map dM xX.1))),(41,vL eI r),(42,vI (r.length:Int)),(43,vI xX.2)],h.on []⟩) hr A_c (fun W1 xX hr=>?_))
   obtain⟨props1,v⟩:=xX
   dsimp only[aI.b1]at hr
   refine A_s ?_
   refine al (ak hr (fun cF5 hr=>?_) (fun cF5 hr=>?_))
   ·refine az (w_n (al (w_K (D:=(Aft W1 D)) (fun xX:List bZ=>⟨[(0,vP l0),(10,.cv (.row 115 (List.map dM xX))),(41,vL eI r),(42,vI (r.length:Int)),(43,vI v)],h.on []⟩) (fun xX:List bZ=>aI.k3 v xX) (fun props2 s' hr ht=>?_) ?_)))
    ·dsimp only[aI.k3]at hr ht
     refine(dG ht ?_)
     refine aC ?_
     exact(w_k ⟨(props2,(IntKind.i64.wrap (v+(1:Int)))),hr,A_c⟩)
    ·refine aw (al ?_)
     obtain⟨n,nF6,eF7,gF8,hr⟩:=hr.idx
     refine A_n ?_
     refine A_s ?_
     refine ak hr (fun cF9 hr=>?_) (fun cF9 hr=>?_)
     ·refine cB ?_
      refine aG 4 ?_
      obtain⟨r2,eF10,hr⟩:=hr.bind
      refine aT (out:=?o10) (hp:=?p10) ?c10 ?d10 ?_
      case c10=>(refine lf a_ n (l0) (l0p0) ?_ ?_ ?_ eF10;exact cN;exact cN;exact qv)
      case d10=>rfl
      obtain⟨nF11,hr⟩:=hr.room
      refine aj ?_
      exact(dC (w_k ⟨(props1++([(bZ.mk n (1114111:Int) (u8 (IntKind.u8.wrap r2)))])),hr,A_c⟩))
     ·exact az (dC (w_k ⟨props1,hr,A_c⟩))
   ·exact ca (cX (cX (fm (w_k ⟨props1,(hr).map,A_c⟩))))
 ·refine aw (cb (fun xX:(List Int×Int)=>⟨[(0,vP l0),(5,rI xX.1),(16,vL (eL ay) sets),(17,vI (sets.length:Int)),(18,vI xX.2)],h.on []⟩) hr A_c (fun W2 xX hr=>?_))
  obtain⟨edges1,v1⟩:=xX
  dsimp only[aI.b2]at hr
  refine A_s ?_
  refine al (ak hr (fun cF12 hr=>?_) (fun cF12 hr=>?_))
  ·refine az (w_n (al (w_K (D:=(Aft W2 D)) (fun xX:List Int=>⟨[(0,vP l0),(5,rI xX),(16,vL (eL ay) sets),(17,vI (sets.length:Int)),(18,vI v1)],h.on []⟩) (fun xX:List Int=>aI.k4 v1 xX) (fun edges2 s' hr ht=>?_) ?_)))
   ·dsimp only[aI.k4]at hr ht
    refine(dG ht ?_)
    refine aC ?_
    exact(w_k ⟨(edges2,(IntKind.i64.wrap (v1+(1:Int)))),hr,A_c⟩)
   ·refine aw (al ?_)
    obtain⟨xs,nF13,eF14,gF15,hr⟩:=hr.idx
    refine A_n ?_
    refine A_s ?_
    refine aw (cb (fun xX:(List Int×Int)=>⟨[(0,vP l0),(5,rI xX.1),(16,vL (eL ay) sets),(17,vI (sets.length:Int)),(18,vI v1),(22,vL ay xs),(23,vI (xs.length:Int)),(24,vI xX.2)],h.on []⟩) hr A_c (fun W3 xX hr=>?_))
    obtain⟨edges3,v2⟩:=xX
    dsimp only[aI.b3]at hr
    refine A_s ?_
    refine al (ak hr (fun cF16 hr=>?_) (fun cF16 hr=>?_))
    ·refine az (w_n (al (aw (al ?_))))
     obtain⟨x,nF17,eF18,gF19,hr⟩:=hr.idx
     refine A_n ?_
     obtain⟨nF20,hr⟩:=hr.room
     refine aC ?_
     refine(dC (w_n ?_))
     refine aC ?_
     exact(w_k ⟨((edges3++([x.Low,(IntKind.i64.wrap (x.High+(1:Int)))])),(IntKind.i64.wrap (v2+(1:Int)))),hr,A_c⟩)
    ·exact ca (cX (cX (fm (dC (w_k ⟨edges3,(hr).map,A_c⟩)))))
  ·exact ca (cX (cX (fm (w_k ⟨edges1,(hr).map,A_c⟩))))
theorem mu(a_:aQ)(sets:List (List ah))(l0:Nat)(l0p0:Nat){h:bn}(ha0:h.at_ l0=some (.cells [wP l0p0,wL (eK .u64) a_.masks,wL eI a_.least]))(ha0p0:h.at_ l0p0=some (.cells (cH eU a_.trie.like++([wL (eA eU) a_.trie.first]:List CV))))(hn0_0p0:l0≠l0p0){a:Option bQ}(e:aI a_ sets=some a)(hx:a=none):
  cq CT 33 [vP l0,vL (eL ay) sets] h fun o h'=>o=[.cv (.val (.ptr none))]∧h'=h:=by
 have:=kR (h:=h) a_ sets l0 l0p0 ha0 ha0p0 hn0_0p0 e
 subst hx
 exact this
theorem mP(a_:aQ)(sets:List (List ah))(l0:Nat)(l0p0:Nat){h:bn}(ha0:h.at_ l0=some (.cells [wP l0p0,wL (eK .u64) a_.masks,wL eI a_.least]))(ha0p0:h.at_ l0p0=some (.cells (cH eU a_.trie.like++([wL (eA eU) a_.trie.first]:List CV))))(hn0_0p0:l0≠l0p0){a:Option bQ}{y:bQ}(e:aI a_ sets=some a)(hx:a=some y):
  cq CT 33 [vP l0,vL (eL ay) sets] h fun o h'=>o=[vP (h.n+0)]∧h'=h.on [some (.cells (cH eU y.like++([wL (eA eU) y.first]:List CV)))]:=by
 have:=kR (h:=h) a_ sets l0 l0p0 ha0 ha0p0 hn0_0p0 e
 subst hx
 exact this
end Go.Val
namespace Go.Val
set_option maxRecDepth 20000
set_option maxHeartbeats 2000000
open Go.Proofs
theorem kX(p:bL) (limit:Int) {h:bn} {a:(Option aV×Int)} (e:aR p limit=some a):
  cq CT 11 [.cv (.val (.agg [.sl (List.map (eL ay) p.Sets),.sl (List.map eu p.Rules)])),vI limit] h fun o h'=>match a.1 with|none=>o=[.cv (.val (.ptr none)),vI a.2]∧h'=h|some y=>o=[vP (h.n+4),vI a.2]∧h'=h.on [none,none,none,some (.cells (cH eU y.trie.like++([wL (eA eU) y.trie.first]:List CV))),some (.cells [wL cu y.rules,wP (h.n+3),wI y.classes])]:=by
 refine bg Tryz.func11 fun hwf hu=>?_
 obtain⟨D,hD,hr⟩:=Holds.one e
 dsimp only[aR]at hr
 change aO _ _ _ _ _ ⟨[(0,.cv (.val (.agg [.sl (List.map (eL ay) p.Sets),.sl (List.map eu p.Rules)]))),(1,vI limit)],h.on []⟩
 refine A_s ?_
 refine al ?_
 obtain⟨v,vF4,hr⟩:=hr.bind
 refine cf (sj:=⟨[(1,vI limit),(2,vP (h.n+0)),(24,vB v)],h.on [some (.cells [wL (eL ay) p.Sets,wL eu p.Rules])]⟩) (cB ?_) ?_
 ·have hr:=Holds.intro (D:=fun z=>z=v) vF4 rfl
  refine aG 1 ?_
  obtain⟨r,eF1,hr⟩:=hr.bind
  refine aT (out:=?o1) (hp:=?p1) ?c1 ?d1 ?_
  case c1=>exact ra p eF1
  case d1=>rfl
  refine aG 2 ?_
  rcases hr.ite with⟨cF2,hr⟩|⟨cF2,hr⟩
  ·refine aj ?_
   obtain rfl:_=v:=hr
   exact w_k A_c
  ·refine aG 4 ?_
   rcases hr.ite with⟨cF3,hr⟩|⟨cF3,hr⟩
   ·refine aj ?_
    obtain rfl:_=v:=hr
    exact w_k A_c
   ·refine aj ?_
    obtain rfl:_=v:=hr
    exact w_k A_c
 refine ak hr (fun cF5 hr=>?_) (fun cF5 hr=>?_)
 ·refine A_s ?_
  refine bk ?_
  obtain rfl:=hD _ hr
  exact(cm (aN (aU (os':=[]) (sl:=[(4,.cv (.val (.ptr none))),(5,vI (1:Int))]) hwf) ⟨rfl,aE hwf⟩))
 ·refine az (w_n (fD 2 ?_))
  obtain⟨r1,eF6,hr⟩:=hr.bind
  try dsimp only at hr
  rcases xF47:r1.1 with _|y
  ·rw[xF47]at hr
   dsimp only at hr
   refine aT (out:=?o_eF6a) (hp:=?p_eF6a) ?c_eF6a ?d_eF6a ?_
   case c_eF6a=>exact nc p.Sets eF6 xF47
   case d_eF6a=>rfl
   refine fj ?_
   refine al (A_s ?_)
   refine ak hr (fun cF7 hr=>?_) (fun cF7 hr=>?_)
   ·refine A_s ?_
    refine bk ?_
    obtain rfl:=hD _ hr
    exact(cm (aN (aU (os':=[]) (sl:=[(4,.cv (.val (.ptr none))),(5,vI r1.2)]) hwf) ⟨rfl,aE hwf⟩))
   ·exact az (w_n (al (hr.elim)))
  ·rw[xF47]at hr
   dsimp only at hr
   refine aT (out:=?o_eF6b) (hp:=?p_eF6b) ?c_eF6b ?d_eF6b ?_
   case c_eF6b=>exact ng p.Sets eF6 xF47
   case d_eF6b=>rfl
   refine fj ?_
   refine al (A_s ?_)
   refine ak hr (fun cF8 hr=>?_) (fun cF8 hr=>?_)
   ·refine A_s ?_
    refine bk ?_
    obtain rfl:=hD _ hr
    exact(cm (aN (aU (os':=[]) (sl:=[(4,.cv (.val (.ptr none))),(5,vI r1.2)]) hwf) ⟨rfl,aE hwf⟩))
   ·refine az (w_n (fD 3 ?_))
    obtain⟨r2,eF9,hr⟩:=hr.bind
    try dsimp only at hr
    rcases xF46:r2 with _|y1
    ·rw[xF46]at hr
     dsimp only at hr
     refine aT (out:=?o_eF9a) (hp:=?p_eF9a) ?c_eF9a ?d_eF9a ?_
     case c_eF9a=>(refine mu y p.Sets (h.n+1) (h.n+2) ?_ ?_ ?_ eF9 xF46;exact cN;exact cN;exact qv)
     case d_eF9a=>rfl
     refine aG 1 ?_
     obtain⟨r3,eF10,hr⟩:=hr.bind
     refine aT (out:=?o10) (hp:=?p10) ?c10 ?d10 ?_
     case c10=>(refine fX y (h.n+1) (h.n+2) ?_ ?_ ?_ eF10;exact cN;exact cN;exact qv)
     case d10=>rfl
     refine fj ?_
     refine al (A_s ?_)
     refine w_K (D:=D) (fun xX:List bP=>⟨[(8,vP (h.n+3))],h.on [none,none,none,some (.cells [.row 75 (List.map cu xX),.val (.ptr none),wI r3])]⟩) (fun xX:List bP=>aR.k1 xX) (fun rules s' hr ht=>?_) ?_
     ·dsimp only[aR.k1]at hr ht
      refine(dG ht ?_)
      refine A_s ?_
      exact bk (hr.elim)
     ·refine aw (cb (fun xX:(Int×List bP)=>⟨[(1,vI limit),(6,vP (h.n+1)),(8,vP (h.n+3)),(43,vL eu p.Rules),(44,vI (p.Rules.length:Int)),(45,vI xX.1)],h.on [none,some (.cells [wP (h.n+2),wL (eK .u64) y.masks,wL eI y.least]),some (.cells (cH eU y.trie.like++([wL (eA eU) y.trie.first]:List CV))),some (.cells [.row 75 (List.map cu xX.2),.val (.ptr none),wI r3])]⟩) hr A_c (fun W1 xX hr=>?_))
      obtain⟨v1,rules1⟩:=xX
      dsimp only[aR.b1]at hr
      refine A_s ?_
      refine al (ak hr (fun cF12 hr=>?_) (fun cF12 hr=>?_))
      ·refine az (w_n (al (w_K (D:=(Aft W1 D)) (fun xX:List bP=>⟨[(1,vI limit),(6,vP (h.n+1)),(8,vP (h.n+3)),(43,vL eu p.Rules),(44,vI (p.Rules.length:Int)),(45,vI v1)],h.on [none,some (.cells [wP (h.n+2),wL (eK .u64) y.masks,wL eI y.least]),some (.cells (cH eU y.trie.like++([wL (eA eU) y.trie.first]:List CV))),some (.cells [.row 75 (List.map cu xX),.val (.ptr none),wI r3])]⟩) (fun xX:List bP=>aR.k2 v1 xX) (fun rules2 s' hr ht=>?_) ?_)))
       ·dsimp only[aR.k2]at hr ht
        refine(dG ht ?_)
        refine aC ?_
        exact(w_k ⟨((IntKind.i64.wrap (v1+(1:Int))),rules2),hr,A_c⟩)
       ·refine aw (al ?_)
        obtain⟨x,nF13,eF14,gF15,hr⟩:=hr.idx
        refine A_n ?_
        refine A_s ?_
        refine al (al (cT [0,1,2,3,6,4,5] (by rfl) ?_))
        refine bU [0,1,2,3,6] [6,3,2,1,0] ?_
        obtain⟨r5,eF16,hr⟩:=hr.bind
        refine dO [6,1,0] (out:=?o16) (hp:=?p16) ?c16 ?d16 ?_
        case c16=>exact nr x.Right eF16
        case d16=>rfl
        refine bU [5] [5,6,1,0] ?_
        refine df ?_
        refine w_n (w_K (D:=(Aft W1 D)) (fun xX:(List (List Int)×List Bool×List (List Int)×List Bool)=>⟨[(1,vI limit),(6,vP (h.n+1)),(8,vP (h.n+3)),(11,vP (h.n+5)),(43,vL eu p.Rules),(44,vI (p.Rules.length:Int)),(45,vI v1)],h.on [none,some (.cells [wP (h.n+2),wL (eK .u64) y.masks,wL eI y.least]),some (.cells (cH eU y.trie.like++([wL (eA eU) y.trie.first]:List CV))),some (.cells [.row 75 (List.map cu rules1),.val (.ptr none),wI r3]),none,some (.cells [.val (.bool x.Break),wL (eL eI) xX.1,wL eB xX.2.1,wL (eL eI) xX.2.2.1,wL eB xX.2.2.2])]⟩) (fun xX:(List (List Int)×List Bool×List (List Int)×List Bool)=>aR.k3 v1 rules1 x xX.1 xX.2.1 xX.2.2.1 xX.2.2.2) (fun xX s' hr ht=>?_) ?_)
        ·obtain⟨Next,Final,Next1,Final1⟩:=xX
         dsimp only[aR.k3]at hr ht
         refine(dG ht ?_)
         refine cT [0,1,2,3,4,5,6,7,8,9,10] (by rfl) ?_
         obtain⟨nF17,hr⟩:=hr.room
         refine bU [0,1,2,3,4,5,6] [6,5,4,3,2,1,0] ?_
         refine dt [0] ?_
         refine bU [8,9] [9,8,0] ?_
         refine dt [] ?_
         refine df ?_
         exact(dC (w_k ⟨(rules1++([(bP.mk x.Break (vK.mk (fG.mk Next Final) (fG.mk Next1 Final1)))])),hr,A_c⟩))
        ·refine aw (rq ?_)
         refine A_s ?_
         refine al (oE true (fun _=>?_) (fun cF18=>by cases cF18))
         refine az (w_n (al (aw (A_s ?_))))
         refine al (cT [0,1,2,4,9,3,5,6,7,8,10,11,12] (by rfl) ?_)
         refine bU [0,1,2,4,9] [9,4,2,1,0] ?_
         obtain⟨r6,eF19,hr⟩:=hr.bind
         refine dO [9,4,1,0] (out:=?o19) (hp:=?p19) ?c19 ?d19 ?_
         case c19=>(refine dN y (h.n+1) (h.n+2) ?_ ?_ ?_ eF19;exact cN;exact cN;exact qv)
         case d19=>rfl
         obtain⟨r7,eF20,hr⟩:=hr.bind
         refine dO [9,0] (out:=?o20) (hp:=?p20) ?c20 ?d20 ?_
         case c20=>exact iL ((mW.mk x.Left r5).v0) r6 limit eF20
         case d20=>rfl
         refine bU [6,7,8,10] [10,8,7,6,9,0] ?_
         refine dt [8] ?_
         refine dt [] ?_
         refine df ?_
         refine w_n (A_s ?_)
         refine ak hr (fun cF21 hr=>?_) (fun cF21 hr=>?_)
         ·refine A_s ?_
          refine bk ?_
          obtain rfl:=hD _ hr
          exact(fa (cm (cm (fa (cm (cm (fa (cm (cm (cm (fa (cm (cm (aN (aU (os':=[]) (sl:=[(4,.cv (.val (.ptr none))),(5,vI r7.2)]) hwf) ⟨rfl,aE hwf⟩))))))))))))))
         ·refine az (dC (w_n ?_))
          have qF22:IntKind.i64.wrap ((0:Int)+(1:Int))=(1:Int):=by decide
          refine aC ?_
          refine(w_k ?_)
          refine rq ?_
          refine A_s ?_
          refine al (oE true (fun _=>?_) (fun cF23=>by cases cF23))
          refine az (w_n (al (aw (A_s ?_))))
          refine al (cT [0,1,2,4,9,3,5,6,7,8,10,11,12] (by rfl) ?_)
          refine bU [0,1,2,4,9] [9,4,2,1,0] ?_
          obtain⟨r8,eF24,hr⟩:=hr.bind
          refine dO [9,4,1,0] (out:=?o24) (hp:=?p24) ?c24 ?d24 ?_
          case c24=>(refine dN y (h.n+1) (h.n+2) ?_ ?_ ?_ eF24;exact cN;exact cN;exact qv)
          case d24=>rfl
          obtain⟨r9,eF25,hr⟩:=hr.bind
          refine dO [9,0] (out:=?o25) (hp:=?p25) ?c25 ?d25 ?_
          case c25=>exact iL ((mW.mk x.Left r5).v1) r8 limit eF25
          case d25=>rfl
          refine bU [6,7,8,10] [10,8,7,6,9,0] ?_
          refine dt [8] ?_
          refine dt [] ?_
          refine df ?_
          refine w_n (A_s ?_)
          refine ak hr (fun cF26 hr=>?_) (fun cF26 hr=>?_)
          ·refine A_s ?_
           refine bk ?_
           obtain rfl:=hD _ hr
           exact(fa (cm (cm (fa (cm (cm (fa (cm (cm (cm (fa (cm (cm (aN (aU (os':=[]) (sl:=[(4,.cv (.val (.ptr none))),(5,vI r9.2)]) hwf) ⟨rfl,aE hwf⟩))))))))))))))
          ·refine az (dC (w_n ?_))
           have qF27:IntKind.i64.wrap ((1:Int)+(1:Int))=(2:Int):=by decide
           refine aC ?_
           refine(w_k ?_)
           refine rq ?_
           refine A_s ?_
           refine al (oE false (fun cF28=>by cases cF28) (fun _=>?_))
           exact ca (cX (cX (fm (w_k ⟨(r7.1.Next,r7.1.Final,r9.1.Next,r9.1.Final),hr,A_c⟩))))
      ·exact ca (cX (cX (fm (w_k ⟨rules1,(hr).map,A_c⟩))))
    ·rw[xF46]at hr
     dsimp only at hr
     refine aT (out:=?o_eF9b) (hp:=?p_eF9b) ?c_eF9b ?d_eF9b ?_
     case c_eF9b=>(refine mP y p.Sets (h.n+1) (h.n+2) ?_ ?_ ?_ eF9 xF46;exact cN;exact cN;exact qv)
     case d_eF9b=>rfl
     refine aG 1 ?_
     obtain⟨r4,eF11,hr⟩:=hr.bind
     refine aT (out:=?o11) (hp:=?p11) ?c11 ?d11 ?_
     case c11=>(refine fX y (h.n+1) (h.n+2) ?_ ?_ ?_ eF11;exact cN;exact cN;exact qv)
     case d11=>rfl
     refine fj ?_
     refine al (A_s ?_)
     refine w_K (D:=D) (fun xX:List bP=>⟨[(8,vP (h.n+4))],h.on [none,none,none,some (.cells (cH eU y1.like++([wL (eA eU) y1.first]:List CV))),some (.cells [.row 75 (List.map cu xX),wP (h.n+3),wI r4])]⟩) (fun xX:List bP=>aR.k4 y1 r4 xX) (fun rules3 s' hr ht=>?_) ?_
     ·dsimp only[aR.k4]at hr ht
      refine(dG ht ?_)
      refine A_s ?_
      refine bk ?_
      obtain rfl:=hD _ hr
      exact(rD (.fix _ _ (.cell (h.n+4) 0) 75 _ kB (aU (os':=[none,none,none,some (.cells (cH eU y1.like++([wL (eA eU) y1.first]:List CV))),some (.cells [wL cu rules3,wP (h.n+3),wI r4])]) (sl:=[(4,vP (h.n+4)),(5,vI (0:Int))]) hwf)) cN ⟨rfl,rfl⟩)
     ·refine aw (cb (fun xX:(Int×List bP)=>⟨[(1,vI limit),(6,vP (h.n+1)),(8,vP (h.n+4)),(43,vL eu p.Rules),(44,vI (p.Rules.length:Int)),(45,vI xX.1)],h.on [none,some (.cells [wP (h.n+2),wL (eK .u64) y.masks,wL eI y.least]),some (.cells (cH eU y.trie.like++([wL (eA eU) y.trie.first]:List CV))),some (.cells (cH eU y1.like++([wL (eA eU) y1.first]:List CV))),some (.cells [.row 75 (List.map cu xX.2),wP (h.n+3),wI r4])]⟩) hr A_c (fun W2 xX hr=>?_))
      obtain⟨v2,rules4⟩:=xX
      dsimp only[aR.b2]at hr
      refine A_s ?_
      refine al (ak hr (fun cF29 hr=>?_) (fun cF29 hr=>?_))
      ·refine az (w_n (al (w_K (D:=(Aft W2 D)) (fun xX:List bP=>⟨[(1,vI limit),(6,vP (h.n+1)),(8,vP (h.n+4)),(43,vL eu p.Rules),(44,vI (p.Rules.length:Int)),(45,vI v2)],h.on [none,some (.cells [wP (h.n+2),wL (eK .u64) y.masks,wL eI y.least]),some (.cells (cH eU y.trie.like++([wL (eA eU) y.trie.first]:List CV))),some (.cells (cH eU y1.like++([wL (eA eU) y1.first]:List CV))),some (.cells [.row 75 (List.map cu xX),wP (h.n+3),wI r4])]⟩) (fun xX:List bP=>aR.k5 v2 xX) (fun rules5 s' hr ht=>?_) ?_)))
       ·dsimp only[aR.k5]at hr ht
        refine(dG ht ?_)
        refine aC ?_
        exact(w_k ⟨((IntKind.i64.wrap (v2+(1:Int))),rules5),hr,A_c⟩)
       ·refine aw (al ?_)
        obtain⟨x1,nF30,eF31,gF32,hr⟩:=hr.idx
        refine A_n ?_
        refine A_s ?_
        refine al (al (cT [0,1,2,3,6,4,5] (by rfl) ?_))
        refine bU [0,1,2,3,6] [6,3,2,1,0] ?_
        obtain⟨r10,eF33,hr⟩:=hr.bind
        refine dO [6,1,0] (out:=?o33) (hp:=?p33) ?c33 ?d33 ?_
        case c33=>exact nr x1.Right eF33
        case d33=>rfl
        refine bU [5] [5,6,1,0] ?_
        refine df ?_
        refine w_n (w_K (D:=(Aft W2 D)) (fun xX:(List (List Int)×List Bool×List (List Int)×List Bool)=>⟨[(1,vI limit),(6,vP (h.n+1)),(8,vP (h.n+4)),(11,vP (h.n+6)),(43,vL eu p.Rules),(44,vI (p.Rules.length:Int)),(45,vI v2)],h.on [none,some (.cells [wP (h.n+2),wL (eK .u64) y.masks,wL eI y.least]),some (.cells (cH eU y.trie.like++([wL (eA eU) y.trie.first]:List CV))),some (.cells (cH eU y1.like++([wL (eA eU) y1.first]:List CV))),some (.cells [.row 75 (List.map cu rules4),wP (h.n+3),wI r4]),none,some (.cells [.val (.bool x1.Break),wL (eL eI) xX.1,wL eB xX.2.1,wL (eL eI) xX.2.2.1,wL eB xX.2.2.2])]⟩) (fun xX:(List (List Int)×List Bool×List (List Int)×List Bool)=>aR.k6 v2 rules4 x1 xX.1 xX.2.1 xX.2.2.1 xX.2.2.2) (fun xX s' hr ht=>?_) ?_)
        ·obtain⟨Next2,Final2,Next3,Final3⟩:=xX
         dsimp only[aR.k6]at hr ht
         refine(dG ht ?_)
         refine cT [0,1,2,3,4,5,6,7,8,9,10] (by rfl) ?_
         obtain⟨nF34,hr⟩:=hr.room
         refine bU [0,1,2,3,4,5,6] [6,5,4,3,2,1,0] ?_
         refine dt [0] ?_
         refine bU [8,9] [9,8,0] ?_
         refine dt [] ?_
         refine df ?_
         exact(dC (w_k ⟨(rules4++([(bP.mk x1.Break (vK.mk (fG.mk Next2 Final2) (fG.mk Next3 Final3)))])),hr,A_c⟩))
        ·refine aw (rq ?_)
         refine A_s ?_
         refine al (oE true (fun _=>?_) (fun cF35=>by cases cF35))
         refine az (w_n (al (aw (A_s ?_))))
         refine al (cT [0,1,2,4,9,3,5,6,7,8,10,11,12] (by rfl) ?_)
         refine bU [0,1,2,4,9] [9,4,2,1,0] ?_
         obtain⟨r11,eF36,hr⟩:=hr.bind
         refine dO [9,4,1,0] (out:=?o36) (hp:=?p36) ?c36 ?d36 ?_
         case c36=>(refine dN y (h.n+1) (h.n+2) ?_ ?_ ?_ eF36;exact cN;exact cN;exact qv)
         case d36=>rfl
         obtain⟨r12,eF37,hr⟩:=hr.bind
         refine dO [9,0] (out:=?o37) (hp:=?p37) ?c37 ?d37 ?_
         case c37=>exact iL ((mW.mk x1.Left r10).v0) r11 limit eF37
         case d37=>rfl
         refine bU [6,7,8,10] [10,8,7,6,9,0] ?_
         refine dt [8] ?_
         refine dt [] ?_
         refine df ?_
         refine w_n (A_s ?_)
         refine ak hr (fun cF38 hr=>?_) (fun cF38 hr=>?_)
         ·refine A_s ?_
          refine bk ?_
          obtain rfl:=hD _ hr
          exact(fa (cm (cm (fa (cm (cm (fa (cm (cm (cm (fa (cm (cm (aN (aU (os':=[]) (sl:=[(4,.cv (.val (.ptr none))),(5,vI r12.2)]) hwf) ⟨rfl,aE hwf⟩))))))))))))))
         ·refine az (dC (w_n ?_))
          have qF39:IntKind.i64.wrap ((0:Int)+(1:Int))=(1:Int):=by decide
          refine aC ?_
          refine(w_k ?_)
          refine rq ?_
          refine A_s ?_
          refine al (oE true (fun _=>?_) (fun cF40=>by cases cF40))
          refine az (w_n (al (aw (A_s ?_))))
          refine al (cT [0,1,2,4,9,3,5,6,7,8,10,11,12] (by rfl) ?_)
          refine bU [0,1,2,4,9] [9,4,2,1,0] ?_
          obtain⟨r13,eF41,hr⟩:=hr.bind
          refine dO [9,4,1,0] (out:=?o41) (hp:=?p41) ?c41 ?d41 ?_
          case c41=>(refine dN y (h.n+1) (h.n+2) ?_ ?_ ?_ eF41;exact cN;exact cN;exact qv)
          case d41=>rfl
          obtain⟨r14,eF42,hr⟩:=hr.bind
          refine dO [9,0] (out:=?o42) (hp:=?p42) ?c42 ?d42 ?_
          case c42=>exact iL ((mW.mk x1.Left r10).v1) r13 limit eF42
          case d42=>rfl
          refine bU [6,7,8,10] [10,8,7,6,9,0] ?_
          refine dt [8] ?_
          refine dt [] ?_
          refine df ?_
          refine w_n (A_s ?_)
          refine ak hr (fun cF43 hr=>?_) (fun cF43 hr=>?_)
          ·refine A_s ?_
           refine bk ?_
           obtain rfl:=hD _ hr
           exact(fa (cm (cm (fa (cm (cm (fa (cm (cm (cm (fa (cm (cm (aN (aU (os':=[]) (sl:=[(4,.cv (.val (.ptr none))),(5,vI r14.2)]) hwf) ⟨rfl,aE hwf⟩))))))))))))))
          ·refine az (dC (w_n ?_))
           have qF44:IntKind.i64.wrap ((1:Int)+(1:Int))=(2:Int):=by decide
           refine aC ?_
           refine(w_k ?_)
           refine rq ?_
           refine A_s ?_
           refine al (oE false (fun cF45=>by cases cF45) (fun _=>?_))
           exact ca (cX (cX (fm (w_k ⟨(r12.1.Next,r12.1.Final,r14.1.Next,r14.1.Final),hr,A_c⟩))))
      ·exact ca (cX (cX (fm (w_k ⟨rules4,(hr).map,A_c⟩))))
theorem iQ(p:bL)(limit:Int){h:bn}{a:(Option aV×Int)}(e:aR p limit=some a)(hx:a.1=none):
  cq CT 11 [.cv (.val (.agg [.sl (List.map (eL ay) p.Sets),.sl (List.map eu p.Rules)])),vI limit] h fun o h'=>o=[.cv (.val (.ptr none)),vI a.2]∧h'=h:=by
 have:=kX (h:=h) p limit e
 rw[hx]at this
 exact this
theorem iJ(p:bL)(limit:Int){h:bn}{a:(Option aV×Int)}{y:aV}(e:aR p limit=some a)(hx:a.1=some y):
  cq CT 11 [.cv (.val (.agg [.sl (List.map (eL ay) p.Sets),.sl (List.map eu p.Rules)])),vI limit] h fun o h'=>o=[vP (h.n+4),vI a.2]∧h'=h.on [none,none,none,some (.cells (cH eU y.trie.like++([wL (eA eU) y.trie.first]:List CV))),some (.cells [wL cu y.rules,wP (h.n+3),wI y.classes])]:=by
 have:=kX (h:=h) p limit e
 rw[hx]at this
 exact this
end Go.Val
namespace Go.Val
set_option maxRecDepth 20000
open Go.Proofs
theorem qS(r:Int){h:bn}{a:Bool}(e:ju r=some a):
  cq CT 92 [vI r] h fun o h'=>o=[vB a]∧h'=h:=by
 refine bg Tryz.func92 fun hwf hu=>?_
 obtain⟨D,hD,hr⟩:=Holds.one e
 dsimp only[ju]at hr
 change aO _ _ _ _ _ ⟨[(0,vI r)],h.on []⟩
 refine A_s ?_
 refine cf (sj:=⟨[(2,vB ((decide (r < (0:Int)))||(decide (r > (1114111:Int)))))],h.on []⟩) (cB ?_) ?_
 ·refine aG 3 ?_
  rcases Bool.eq_false_or_eq_true (decide (r < (0:Int)))with cF1|cF1
  ·refine aj ?_
   exact w_k A_c
  ·refine aj ?_
   exact w_k A_c
 refine bk ?_
 obtain rfl:=hD _ hr
 exact(aN (aU (os':=[]) (sl:=[(2,vB ((decide (r < (0:Int)))||(decide (r > (1114111:Int)))))]) hwf) ⟨rfl,aE hwf⟩)
theorem nQ(l:List Int){h:bn}{a:Bool}(e:jT l=some a):
  cq CT 38 [vL eI l] h fun o h'=>o=[vB a]∧h'=h:=by
 refine bg Tryz.func38 fun hwf hu=>?_
 obtain⟨D,hD,hr⟩:=Holds.one e
 dsimp only[jT]at hr
 change aO _ _ _ _ _ ⟨[(0,vL eI l)],h.on []⟩
 refine A_s ?_
 refine fD 1 ?_
 obtain⟨r,eF1,hr⟩:=hr.bind
 refine aT (out:=?o1) (hp:=?p1) ?c1 ?d1 ?_
 case c1=>(refine dY l (ju) _ _ ?_ ?_ eF1;(exact(fun os x0 r e=>qS x0 e));(exact(fun i=>by simp[CT])))
 case d1=>rfl
 refine fj ?_
 refine bk ?_
 obtain rfl:=hD _ hr
 exact(aN (aU (os':=[]) (sl:=[(2,vB (!r))]) hwf) ⟨rfl,aE hwf⟩)
theorem fo(i:Int)(p1:Int)(p2:List Int)(l1:Nat)(l2:Nat){h:bn}(ha1:h.at_ l1=some (.cells [wI p1]))(ha2:h.at_ l2=some (.cells [wL eI p2]))(hn1_2:l1≠l2){a:Int}(e:dE i p1 p2=some a):
  cq CT 166 [vI i,vP l1,vP l2] h fun o h'=>o=[vI a]∧h'=h:=by
 refine bg Tryz.func166 fun hwf hu=>?_
 have hl1:=(hwf _ _ ha1).1
 have kl1:=kZ hl1
 have hl2:=(hwf _ _ ha2).1
 have kl2:=kZ hl2
 obtain⟨D,hD,hr⟩:=Holds.one e
 dsimp only[dE]at hr
 change aO _ _ _ _ _ ⟨[(0,vI i),(1,vP l1),(2,vP l2)],h.on []⟩
 refine A_s ?_
 refine al (A_s ?_)
 refine ak hr (fun cF1 hr=>?_) (fun cF1 hr=>?_)
 ·refine A_s ?_
  refine bk ?_
  obtain rfl:=hD _ hr
  exact(cm (aN (aU (os':=[]) (sl:=[(4,vI (IntKind.i64.wrap ((p2.length:Int) - i)))]) hwf) ⟨rfl,aE hwf⟩))
 ·refine az (w_n (A_s ?_))
  refine bk ?_
  obtain rfl:=hD _ hr
  exact(aN (aU (os':=[]) (sl:=[(4,vI i)]) hwf) ⟨rfl,aE hwf⟩)
theorem iX(m:aV)(l:List Int)(d:fG)(which:Int)(l0:Nat)(l0p1:Nat){h:bn}(ha0:h.at_ l0=some (.cells [wL cu m.rules,wP l0p1,wI m.classes]))(ha0p1:h.at_ l0p1=some (.cells (cH eU m.trie.like++([wL (eA eU) m.trie.first]:List CV))))(hn0_0p1:l0≠l0p1){a:List Bool}(e:bm m l d which=some a):
  cq CT 93 [vP l0,vL eI l,.cv (.val (.agg [.sl (List.map (eL eI) d.Next),.sl (List.map eB d.Final)])),vI which] h fun o h'=>o=[vL eB a]∧h'=h:=by
 refine bg Tryz.func93 fun hwf hu=>?_
 have hl0:=(hwf _ _ ha0).1
 have kl0:=kZ hl0
 have hl0p1:=(hwf _ _ ha0p1).1
 have kl0p1:=kZ hl0p1
 obtain⟨D,hD,hr⟩:=Holds.one e
 dsimp only[bm]at hr
 change aO _ _ _ _ _ ⟨[(0,vP l0),(1,vL eI l),(2,.cv (.val (.agg [.sl (List.map (eL eI) d.Next),.sl (List.map eB d.Final)]))),(3,vI which)],h.on []⟩
 refine A_s ?_
 refine al ?_
 obtain⟨nF1,nF2,hr⟩:=hr.mk
 refine A_n ?_
 iterate 2 refine A_s ?_
 refine al (A_s ?_)
 refine w_K (D:=D) (fun xX:List Bool=>⟨[(9,.cv (.row 4 (List.map eB xX)))],h.on []⟩) (fun xX:List Bool=>bm.k1 xX) (fun out s' hr ht=>?_) ?_
 ·dsimp only[bm.k1]at hr ht
  refine(dG ht ?_)
  refine A_s ?_
  refine bk ?_
  obtain rfl:=hD _ hr
  exact(aN (.fix _ _ (.slot 8) 4 _ kB (aU (os':=[]) (sl:=[(8,vL eB out)]) hwf)) ⟨rfl,aE hwf⟩)
 ·refine aw (cb (fun xX:(List Bool×Int×Int)=>⟨[(0,vP l0),(5,vP (h.n+0)),(6,vP (h.n+1)),(9,.cv (.row 4 (List.map eB xX.1))),(10,vI xX.2.1),(11,.cv (.val (.fn 166 [] [.ptr (some (h.n+2,0)),.ptr (some (h.n+0,0))]))),(19,vI ((List.replicate (Int.toNat (IntKind.i64.wrap ((l.length:Int)+(1:Int)))) false).length:Int)),(20,vI xX.2.2)],h.on [some (.cells [wL eI l]),some (.cells [wL (eL eI) d.Next,wL eB d.Final]),some (.cells [wI which])]⟩) hr A_c (fun W1 xX hr=>?_))
  obtain⟨out1,s,v⟩:=xX
  dsimp only[bm.b1]at hr
  refine A_s ?_
  refine al (ak hr (fun cF3 hr=>?_) (fun cF3 hr=>?_))
  ·refine az (w_n (al (w_K (D:=(Aft W1 D)) (fun xX:(List Bool×Int)=>⟨[(0,vP l0),(5,vP (h.n+0)),(6,vP (h.n+1)),(9,.cv (.row 4 (List.map eB xX.1))),(10,vI xX.2),(11,.cv (.val (.fn 166 [] [.ptr (some (h.n+2,0)),.ptr (some (h.n+0,0))]))),(19,vI ((List.replicate (Int.toNat (IntKind.i64.wrap ((l.length:Int)+(1:Int)))) false).length:Int)),(20,vI v)],h.on [some (.cells [wL eI l]),some (.cells [wL (eL eI) d.Next,wL eB d.Final]),some (.cells [wI which])]⟩) (fun xX:(List Bool×Int)=>bm.k2 v xX.1 xX.2) (fun xX s' hr ht=>?_) ?_)))
   ·obtain⟨out2,s1⟩:=xX
    dsimp only[bm.k2]at hr ht
    refine(dG ht ?_)
    refine aC ?_
    exact(w_k ⟨(out2,s1,(IntKind.i64.wrap (v+(1:Int)))),hr,A_c⟩)
   ·refine aw (A_s ?_)
    refine al (cT [0,1,2,4,5,6,7,8,3,9,10] (by rfl) ?_)
    obtain⟨b,nF4,eF5,gF6,hr⟩:=hr.idx
    refine bU [0,1,2,4,5,6,7,8] [8,7,6,5,4,2,1,0] ?_
    obtain⟨r,eF7,hr⟩:=hr.bind
    refine dO [8,7,6,5,4,0] (out:=?o7) (hp:=?p7) ?c7 ?d7 ?_
    case c7=>(refine fo v which l (h.n+2) (h.n+0) ?_ ?_ ?_ eF7;exact cN;exact cN;exact qv)
    case d7=>rfl
    obtain⟨b1,nF8,eF9,gF10,hr⟩:=hr.idx
    refine bU [9] [9,8,7,6,5,4,0] ?_
    refine dt [] ?_
    refine df ?_
    refine w_n (A_s ?_)
    refine ak hr (fun cF11 hr=>?_) (fun cF11 hr=>?_)
    ·refine cT [0,1,2,3,4,5,6,7,8,9,10,11,13,14,15,12,16,17,18,19,20,21,22,23] (by rfl) ?_
     obtain⟨xs,nF12,eF13,gF14,hr⟩:=hr.idx
     refine bU [0,1,2,3,4,5,6,7,8,9,10,11,13,14,15] [15,14,13,11,10,9,8,7,6,5,4,3,2,1,0] ?_
     obtain⟨r1,eF15,hr⟩:=hr.bind
     refine dO [15,14,13,9,8,7,6,5,4,3,2,1,0] (out:=?o15) (hp:=?p15) ?c15 ?d15 ?_
     case c15=>(refine fo v which l (h.n+2) (h.n+0) ?_ ?_ ?_ eF15;exact cN;exact cN;exact qv)
     case d15=>rfl
     obtain⟨r2,eF16,hr⟩:=hr.bind
     refine dO [9,8,7,6,5,4,3,2,1,0] (out:=?o16) (hp:=?p16) ?c16 ?d16 ?_
     case c16=>(refine fo (IntKind.i64.wrap (v+(1:Int))) which l (h.n+2) (h.n+0) ?_ ?_ ?_ eF16;exact cN;exact cN;exact qv)
     case d16=>rfl
     obtain⟨n,nF17,eF18,gF19,hr⟩:=hr.idx
     refine bU [17,18,19] [19,18,17,9,8,7,6,5,4,3,2,1,0] ?_
     obtain⟨r3,eF20,hr⟩:=hr.bind
     refine dO [4,3,2,1,0] (out:=?o20) (hp:=?p20) ?c20 ?d20 ?_
     case c20=>(refine lz m.trie n (l0p1) ?_ eF20;exact cN)
     case d20=>rfl
     obtain⟨n1,nF21,eF22,gF23,hr⟩:=hr.idx
     refine bU [21,22] [22,21,4,3,2,1,0] ?_
     refine dt [] ?_
     refine df ?_
     exact(dC (w_k ⟨((List.set out1 (Int.toNat r) b),n1),hr,A_c⟩))
    ·exact az (dC (w_k ⟨((List.set out1 (Int.toNat r) b),s),hr,A_c⟩))
  ·exact ca (cX (cX (fm (w_k ⟨out1,(hr).map,A_c⟩))))
theorem iD(m:aV) (l:List Int) (l0:Nat) (l0p1:Nat) {h:bn} (ha0:h.at_ l0=some (.cells [wL cu m.rules,wP l0p1,wI m.classes])) (ha0p1:h.at_ l0p1=some (.cells (cH eU m.trie.like++([wL (eA eU) m.trie.first]:List CV)))) (hn0_0p1:l0≠l0p1) {a:List Int} (e:ax m l=some a):
  cq CT 39 [vP l0,vL eI l] h fun o h'=>o=[vL eI a]∧h'=h:=by
 refine bg Tryz.func39 fun hwf hu=>?_
 have hl0:=(hwf _ _ ha0).1
 have kl0:=kZ hl0
 have hl0p1:=(hwf _ _ ha0p1).1
 have kl0p1:=kZ hl0p1
 obtain⟨D,hD,hr⟩:=Holds.one e
 dsimp only[ax]at hr
 change aO _ _ _ _ _ ⟨[(0,vP l0),(1,vL eI l)],h.on []⟩
 refine A_s ?_
 refine al ?_
 obtain⟨nF1,nF2,hr⟩:=hr.mk
 refine A_n ?_
 refine al (A_s ?_)
 refine w_K (D:=D) (fun xX:List Int=>⟨[(0,vP l0),(1,vL eI l),(5,rI xX)],h.on []⟩) (fun xX:List Int=>ax.k1 m l xX) (fun out s' hr ht=>?_) ?_
 ·dsimp only[ax.k1]at hr ht
  refine(dG ht ?_)
  refine al (A_s ?_)
  refine w_K (D:=D) (fun xX:List Int=>⟨[(5,rI xX)],h.on []⟩) (fun xX:List Int=>ax.k2 xX) (fun out1 s' hr ht=>?_) ?_
  ·dsimp only[ax.k2]at hr ht
   refine(dG ht ?_)
   refine A_s ?_
   refine bk ?_
   obtain rfl:=hD _ hr
   exact(aN (.fix _ _ (.slot 4) 3 _ kB (aU (os':=[]) (sl:=[(4,vL eI out1)]) hwf)) ⟨rfl,aE hwf⟩)
  ·refine aw (cb (fun xX:(List Int×Int)=>⟨[(0,vP l0),(1,vL eI l),(5,rI xX.1),(7,vI xX.2)],h.on []⟩) hr A_c (fun W1 xX hr=>?_))
   obtain⟨out2,k⟩:=xX
   dsimp only[ax.b1]at hr
   refine al (A_s ?_)
   refine ak hr (fun cF3 hr=>?_) (fun cF3 hr=>?_)
   ·refine az (w_n (al (w_K (D:=(Aft W1 D)) (fun xX:List Int=>⟨[(0,vP l0),(1,vL eI l),(5,rI xX),(7,vI k)],h.on []⟩) (fun xX:List Int=>ax.k3 k xX) (fun out3 s' hr ht=>?_) ?_)))
    ·dsimp only[ax.k3]at hr ht
     refine(dG ht ?_)
     refine aC ?_
     exact(w_k ⟨(out3,(IntKind.i64.wrap (k - (1:Int)))),hr,A_c⟩)
    ·refine aw (al (cT [0,1,2,3,4,5,6,7,8,9,10,12,13,14,15,16,17,18,19,20,21,22,11,23,24,25] (by rfl) ?_))
     obtain⟨x,nF4,eF5,gF6,hr⟩:=hr.idx
     refine bU [0,1,2,3,4,5,6,7,8,9,10,12,13,14,15,16,17,18,19,20,21,22] [22,21,20,19,18,17,16,15,14,13,12,10,9,8,7,6,5,4,3,2,1,0] ?_
     obtain⟨r,eF7,hr⟩:=hr.bind
     refine dO [22,21,20,19,18,17,16,15,14,13,12] (out:=?o7) (hp:=?p7) ?c7 ?d7 ?_
     case c7=>(refine iX m l x.states.v0 (0:Int) (l0) (l0p1) ?_ ?_ ?_ eF7;exact cN;exact cN;exact qv)
     case d7=>rfl
     obtain⟨r1,eF8,hr⟩:=hr.bind
     refine dO [] (out:=?o8) (hp:=?p8) ?c8 ?d8 ?_
     case c8=>(refine iX m l x.states.v1 (1:Int) (l0) (l0p1) ?_ ?_ ?_ eF8;exact cN;exact cN;exact qv)
     case d8=>rfl
     refine dt [] ?_
     refine dt [] ?_
     refine df ?_
     refine w_n (A_s ?_)
     refine aw (cb (fun xX:(List Int×Int)=>⟨[(0,vP l0),(1,vL eI l),(5,rI xX.1),(7,vI k),(8,vL eB r),(9,vL eB r1),(59,vI (out2.length:Int)),(60,vI xX.2)],h.on []⟩) hr A_c (fun W2 xX hr=>?_))
     obtain⟨out4,v⟩:=xX
     dsimp only[ax.b2]at hr
     refine A_s ?_
     refine al (ak hr (fun cF9 hr=>?_) (fun cF9 hr=>?_))
     ·refine az (w_n (al (w_K (D:=(Aft W2 (Aft W1 D))) (fun xX:List Int=>⟨[(0,vP l0),(1,vL eI l),(5,rI xX),(7,vI k),(8,vL eB r),(9,vL eB r1),(59,vI (out2.length:Int)),(60,vI v)],h.on []⟩) (fun xX:List Int=>ax.k4 v xX) (fun out5 s' hr ht=>?_) ?_)))
      ·dsimp only[ax.k4]at hr ht
       refine(dG ht ?_)
       refine aC ?_
       exact(w_k ⟨(out5,(IntKind.i64.wrap (v+(1:Int)))),hr,A_c⟩)
      ·refine aw (A_s ?_)
       obtain⟨v1,vF17,hr⟩:=hr.bind
       refine cf (sj:=⟨[(0,vP l0),(1,vL eI l),(5,rI out4),(7,vI k),(8,vL eB r),(9,vL eB r1),(10,vI v),(59,vI (out2.length:Int)),(60,vI v),(72,vB v1)],h.on []⟩) (cB ?_) ?_
       ·have hr:=Holds.intro (D:=fun z=>z=v1) vF17 rfl
        obtain⟨b,nF10,eF11,gF12,hr⟩:=hr.idx
        refine aG 5 ?_
        rcases hr.ite with⟨cF13,hr⟩|⟨cF13,hr⟩
        ·obtain⟨b1,nF14,eF15,gF16,hr⟩:=hr.idx
         refine aj ?_
         obtain rfl:_=v1:=hr
         exact w_k A_c
        ·refine aj ?_
         obtain rfl:_=v1:=hr
         exact w_k A_c
       refine ak hr (fun cF18 hr=>?_) (fun cF18 hr=>?_)
       ·obtain⟨n,nF19,eF20,gF21,hr⟩:=hr.idx
        refine aC ?_
        exact(dC (w_k ⟨(List.set out4 (Int.toNat v) k),hr,A_c⟩))
       ·exact az (dC (w_k ⟨out4,hr,A_c⟩))
     ·exact ca (cX (cX (fm (dC (w_k ⟨out4,(hr).map,A_c⟩)))))
   ·exact ca (cX (cX (fm (w_k ⟨out2,(hr).map,A_c⟩))))
 ·refine aw (cb (fun xX:(List Int×Int)=>⟨[(0,vP l0),(1,vL eI l),(5,rI xX.1),(16,vI ((List.replicate (Int.toNat (IntKind.i64.wrap ((l.length:Int)+(1:Int)))) (0:Int)).length:Int)),(17,vI xX.2)],h.on []⟩) hr A_c (fun W3 xX hr=>?_))
  obtain⟨out6,v2⟩:=xX
  dsimp only[ax.b3]at hr
  refine A_s ?_
  refine al (ak hr (fun cF22 hr=>?_) (fun cF22 hr=>?_))
  ·refine az (w_n (al (aw (A_s ?_))))
   obtain⟨n1,nF23,eF24,gF25,hr⟩:=hr.idx
   refine aC ?_
   refine(dC (w_n ?_))
   refine aC ?_
   exact(w_k ⟨((List.set out6 (Int.toNat v2) (-1:Int)),(IntKind.i64.wrap (v2+(1:Int)))),hr,A_c⟩)
  ·exact ca (cX (cX (fm (w_k ⟨out6,(hr).map,A_c⟩))))
theorem eZ(m:aV) (l:List Int) (l0:Nat) (l0p1:Nat) {h:bn} (ha0:h.at_ l0=some (.cells [.val (.sl (List.map cu m.rules)),.val (.ptr (some (l0p1,0))),.val (.int .i64 m.classes)])) (ha0p1:h.at_ l0p1=some (.cells (cH eU m.trie.like++([.val (.sl (List.map (eA eU) m.trie.first))]:List CV)))) (hn0_0p1:l0≠l0p1) {a:List Int} (e:bj m l=some a):
  cq CT 12 [.cv (.val (.ptr (some (l0,0)))),.cv (.val (.sl (List.map eI l)))] h fun o h'=>o=[.cv (.val (.sl (List.map eI a)))]∧h'=h:=by
 refine bg Tryz.func12 fun hwf hu=>?_
 have hl0:=(hwf _ _ ha0).1
 have kl0:=kZ hl0
 have hl0p1:=(hwf _ _ ha0p1).1
 have kl0p1:=kZ hl0p1
 obtain⟨D,hD,hr⟩:=Holds.one e
 dsimp only[bj]at hr
 change aO _ _ _ _ _ ⟨[(0,.cv (.val (.ptr (some (l0,0))))),(1,.cv (.val (.sl (List.map eI l))))],h.on []⟩
 refine A_s ?_
 refine al (fD 1 ?_)
 obtain⟨r,eF1,hr⟩:=hr.bind
 refine aT (out:=?o1) (hp:=?p1) ?c1 ?d1 ?_
 case c1=>exact nQ l eF1
 case d1=>rfl
 refine fj ?_
 refine ak hr (fun cF2 hr=>?_) (fun cF2 hr=>?_)
 ·refine A_s ?_
  refine bk ?_
  obtain rfl:=hD _ hr
  exact(cm (aN (aU (os':=[]) (sl:=[(4,.cv (.val (.sl (List.map eI ([]:List Int)))))]) hwf) ⟨rfl,aE hwf⟩))
 ·refine az (w_n (A_s ?_))
  refine al (fD 2 ?_)
  obtain⟨r1,eF3,hr⟩:=hr.bind
  refine aT (out:=?o3) (hp:=?p3) ?c3 ?d3 ?_
  case c3=>(refine iD m l (l0) (l0p1) ?_ ?_ ?_ eF3;exact cN;exact cN;exact qv)
  case d3=>rfl
  refine fj ?_
  refine w_K (D:=D) (fun xX:List Int=>⟨[(5,.cv (.row 3 (List.map eI xX)))],h.on []⟩) (fun xX:List Int=>bj.k1 xX) (fun out s' hr ht=>?_) ?_
  ·dsimp only[bj.k1]at hr ht
   refine(dG ht ?_)
   refine A_s ?_
   refine bk ?_
   obtain rfl:=hD _ hr
   exact(aN (.fix _ _ (.slot 4) 3 _ kB (aU (os':=[]) (sl:=[(4,.cv (.val (.sl (List.map eI out))))]) hwf)) ⟨rfl,aE hwf⟩)
  ·refine aw (cb (fun xX:(List Int×Int)=>⟨[(0,.cv (.val (.ptr (some (l0,0))))),(1,.cv (.val (.sl (List.map eI l)))),(5,.cv (.row 3 (List.map eI xX.1))),(13,.cv (.val (.sl (List.map eI r1)))),(14,.cv (.val (.int .i64 (r1.length:Int)))),(15,.cv (.val (.int .i64 xX.2)))],h.on []⟩) hr A_c (fun W1 xX hr=>?_))
   obtain⟨out1,v⟩:=xX
   dsimp only[bj.b1]at hr
   refine A_s ?_
   refine al (ak hr (fun cF4 hr=>?_) (fun cF4 hr=>?_))
   ·refine az (w_n (al (w_K (D:=(Aft W1 D)) (fun xX:List Int=>⟨[(0,.cv (.val (.ptr (some (l0,0))))),(1,.cv (.val (.sl (List.map eI l)))),(5,.cv (.row 3 (List.map eI xX))),(13,.cv (.val (.sl (List.map eI r1)))),(14,.cv (.val (.int .i64 (r1.length:Int)))),(15,.cv (.val (.int .i64 v)))],h.on []⟩) (fun xX:List Int=>bj.k2 v xX) (fun out2 s' hr ht=>?_) ?_)))
    ·dsimp only[bj.k2]at hr ht
     refine(dG ht ?_)
     refine aC ?_
     exact(w_k ⟨(out2,(IntKind.i64.wrap (v+(1:Int)))),hr,A_c⟩)
    ·refine aw (al ?_)
     obtain⟨n,nF5,eF6,gF7,hr⟩:=hr.idx
     refine A_n ?_
     obtain⟨v1,vF14,hr⟩:=hr.bind
     refine cf (sj:=⟨[(0,.cv (.val (.ptr (some (l0,0))))),(1,.cv (.val (.sl (List.map eI l)))),(5,.cv (.row 3 (List.map eI out1))),(6,.cv (.val (.int .i64 v))),(13,.cv (.val (.sl (List.map eI r1)))),(14,.cv (.val (.int .i64 (r1.length:Int)))),(15,.cv (.val (.int .i64 v))),(41,.cv (.val (.bool v1)))],h.on []⟩) (cB ?_) ?_
     ·have hr:=Holds.intro (D:=fun z=>z=v1) vF14 rfl
      refine aG 3 ?_
      rcases hr.ite with⟨cF8,hr⟩|⟨cF8,hr⟩
      ·refine aj ?_
       obtain rfl:_=v1:=hr
       exact w_k A_c
      ·refine aG 6 ?_
       rcases hr.ite with⟨cF9,hr⟩|⟨cF9,hr⟩
       ·refine aj ?_
        obtain rfl:_=v1:=hr
        exact w_k A_c
       ·refine aG 4 ?_
        rcases hr.ite with⟨cF10,hr⟩|⟨cF10,hr⟩
        ·refine aj ?_
         obtain rfl:_=v1:=hr
         exact w_k A_c
        ·obtain⟨x,nF11,eF12,gF13,hr⟩:=hr.idx
         refine aj ?_
         obtain rfl:_=v1:=hr
         exact w_k A_c
     refine ak hr (fun cF15 hr=>?_) (fun cF15 hr=>?_)
     ·obtain⟨nF16,hr⟩:=hr.room
      refine aC ?_
      exact(dC (w_k ⟨(out1++([v])),hr,A_c⟩))
     ·exact az (dC (w_k ⟨out1,hr,A_c⟩))
   ·exact ca (cX (cX (fm (w_k ⟨out1,(hr).map,A_c⟩))))
theorem iz(m:aV)(l:List Int)(i:Int)(l0:Nat)(l0p1:Nat){h:bn}(ha0:h.at_ l0=some (.cells [wL cu m.rules,wP l0p1,wI m.classes]))(ha0p1:h.at_ l0p1=some (.cells (cH eU m.trie.like++([wL (eA eU) m.trie.first]:List CV))))(hn0_0p1:l0≠l0p1){a:Bool}(e:dv m l i=some a):
  cq CT 14 [vP l0,vL eI l,vI i] h fun o h'=>o=[vB a]∧h'=h:=by
 refine bg Tryz.func14 fun hwf hu=>?_
 have hl0:=(hwf _ _ ha0).1
 have kl0:=kZ hl0
 have hl0p1:=(hwf _ _ ha0p1).1
 have kl0p1:=kZ hl0p1
 obtain⟨D,hD,hr⟩:=Holds.one e
 dsimp only[dv]at hr
 change aO _ _ _ _ _ ⟨[(0,vP l0),(1,vL eI l),(2,vI i)],h.on []⟩
 refine A_s ?_
 refine fD 2 ?_
 obtain⟨r,eF1,hr⟩:=hr.bind
 refine aT (out:=?o1) (hp:=?p1) ?c1 ?d1 ?_
 case c1=>(refine eZ m l (l0) (l0p1) ?_ ?_ ?_ eF1;exact cN;exact cN;exact qv)
 case d1=>rfl
 refine aG 1 ?_
 obtain⟨r1,eF2,hr⟩:=hr.bind
 refine aT (out:=?o2) (hp:=?p2) ?c2 ?d2 ?_
 case c2=>exact eJ r i eF2
 case d2=>rfl
 refine fj ?_
 refine bk ?_
 obtain rfl:=hD _ hr
 exact(aN (aU (os':=[]) (sl:=[(6,vB r1)]) hwf) ⟨rfl,aE hwf⟩)
theorem iV(m:aV)(l:List Int)(i:Int)(l0:Nat)(l0p1:Nat){h:bn}(ha0:h.at_ l0=some (.cells [wL cu m.rules,wP l0p1,wI m.classes]))(ha0p1:h.at_ l0p1=some (.cells (cH eU m.trie.like++([wL (eA eU) m.trie.first]:List CV))))(hn0_0p1:l0≠l0p1){a:Int}(e:dF m l i=some a):
  cq CT 15 [vP l0,vL eI l,vI i] h fun o h'=>o=[vI a]∧h'=h:=by
 refine bg Tryz.func15 fun hwf hu=>?_
 have hl0:=(hwf _ _ ha0).1
 have kl0:=kZ hl0
 have hl0p1:=(hwf _ _ ha0p1).1
 have kl0p1:=kZ hl0p1
 obtain⟨D,hD,hr⟩:=Holds.one e
 dsimp only[dF]at hr
 change aO _ _ _ _ _ ⟨[(0,vP l0),(1,vL eI l),(2,vI i)],h.on []⟩
 refine A_s ?_
 refine al ?_
 obtain⟨v,vF4,hr⟩:=hr.bind
 refine cf (sj:=⟨[(0,vP l0),(1,vL eI l),(2,vI i),(19,vB v)],h.on []⟩) (cB ?_) ?_
 ·have hr:=Holds.intro (D:=fun z=>z=v) vF4 rfl
  refine aG 1 ?_
  obtain⟨r,eF1,hr⟩:=hr.bind
  refine aT (out:=?o1) (hp:=?p1) ?c1 ?d1 ?_
  case c1=>exact nQ l eF1
  case d1=>rfl
  refine aG 2 ?_
  rcases hr.ite with⟨cF2,hr⟩|⟨cF2,hr⟩
  ·refine aj ?_
   obtain rfl:_=v:=hr
   exact w_k A_c
  ·refine aG 4 ?_
   rcases hr.ite with⟨cF3,hr⟩|⟨cF3,hr⟩
   ·refine aj ?_
    obtain rfl:_=v:=hr
    exact w_k A_c
   ·refine aj ?_
    obtain rfl:_=v:=hr
    exact w_k A_c
 refine ak hr (fun cF5 hr=>?_) (fun cF5 hr=>?_)
 ·refine A_s ?_
  refine bk ?_
  obtain rfl:=hD _ hr
  exact(cm (aN (aU (os':=[]) (sl:=[(6,vI (-1:Int))]) hwf) ⟨rfl,aE hwf⟩))
 ·refine az (w_n (fD 2 ?_))
  obtain⟨r1,eF6,hr⟩:=hr.bind
  refine aT (out:=?o6) (hp:=?p6) ?c6 ?d6 ?_
  case c6=>(refine iD m l (l0) (l0p1) ?_ ?_ ?_ eF6;exact cN;exact cN;exact qv)
  case d6=>rfl
  obtain⟨n,nF7,eF8,gF9,hr⟩:=hr.idx
  refine fj ?_
  refine bk ?_
  obtain rfl:=hD _ hr
  exact(aN (aU (os':=[]) (sl:=[(6,vI n)]) hwf) ⟨rfl,aE hwf⟩)
theorem gY(l:List Int)(n:Int){h:bn}{a:List Int}(e:bS l n=some a):
  cq CT 263 [.cv (.val (.sl (List.map eI l))),.cv (.val (.int .i64 n))] h fun o h'=>o=[.cv (.val (.sl (List.map eI a)))]∧h'=h:=by
 refine bg Tryz.func263 fun hwf hu=>?_
 obtain⟨D,hD,hr⟩:=Holds.one e
 dsimp only[bS]at hr
 change aO _ _ _ _ _ ⟨[(0,.cv (.val (.sl (List.map eI l)))),(1,.cv (.val (.int .i64 n)))],h.on []⟩
 iterate 2 refine A_s ?_
 refine al (w_K (D:=D) (fun xX:Int=>⟨[(0,.cv (.val (.sl (List.map eI l)))),(1,.cv (.val (.int .i64 n))),(5,.cv (.val (.int .i64 xX)))],h.on []⟩) (fun xX:Int=>bS.k1 l n xX) (fun at_ s' hr ht=>?_) ?_)
 ·dsimp only[bS.k1]at hr ht
  refine(dG ht ?_)
  refine al ?_
  obtain⟨v,vF5,hr⟩:=hr.bind
  refine cf (sj:=⟨[(0,.cv (.val (.sl (List.map eI l)))),(1,.cv (.val (.int .i64 n))),(5,.cv (.val (.int .i64 at_))),(32,.cv (.val (.bool v)))],h.on []⟩) (cB ?_) ?_
  ·have hr:=Holds.intro (D:=fun z=>z=v) vF5 rfl
   refine aG 5 ?_
   rcases hr.ite with⟨cF1,hr⟩|⟨cF1,hr⟩
   ·obtain⟨n1,nF2,eF3,gF4,hr⟩:=hr.idx
    refine aj ?_
    obtain rfl:_=v:=hr
    exact w_k A_c
   ·refine aj ?_
    obtain rfl:_=v:=hr
    exact w_k A_c
  refine ak hr (fun cF6 hr=>?_) (fun cF6 hr=>?_)
  ·refine A_s ?_
   refine bk ?_
   obtain rfl:=hD _ hr
   exact(cm (aN (aU (os':=[]) (sl:=[(4,.cv (.val (.sl (List.map eI l))))]) hwf) ⟨rfl,aE hwf⟩))
  ·refine az (w_n (al ?_))
   obtain⟨nF7,nF8,hr⟩:=hr.cutH
   obtain⟨nF9,hr⟩:=hr.room
   refine A_n ?_
   refine al ?_
   obtain⟨nF10,hr⟩:=hr.room
   refine A_n ?_
   refine al ?_
   obtain⟨nF11,nF12,hr⟩:=hr.cutL
   obtain⟨nF13,hr⟩:=hr.room
   refine A_n ?_
   refine bk ?_
   obtain rfl:=hD _ hr
   exact(aN (.fix _ _ (.slot 4) 3 _ kB (aU (os':=[]) (sl:=[(4,.cv (.val (.sl (List.map eI (((List.take (Int.toNat at_) l)++([n]))++(List.drop (Int.toNat at_) l))))))]) hwf)) ⟨rfl,aE hwf⟩)
 ·refine aw (cb (fun xX:Int=>⟨[(0,.cv (.val (.sl (List.map eI l)))),(1,.cv (.val (.int .i64 n))),(5,.cv (.val (.int .i64 xX)))],h.on []⟩) hr A_c (fun W1 at_1 hr=>?_))
  dsimp only[bS.b1]at hr
  refine al ?_
  obtain⟨v1,vF18,hr⟩:=hr.bind
  refine cf (sj:=⟨[(0,.cv (.val (.sl (List.map eI l)))),(1,.cv (.val (.int .i64 n))),(5,.cv (.val (.int .i64 at_1))),(18,.cv (.val (.bool v1)))],h.on []⟩) (cB ?_) ?_
  ·have hr:=Holds.intro (D:=fun z=>z=v1) vF18 rfl
   refine aG 5 ?_
   rcases hr.ite with⟨cF14,hr⟩|⟨cF14,hr⟩
   ·obtain⟨n2,nF15,eF16,gF17,hr⟩:=hr.idx
    refine aj ?_
    obtain rfl:_=v1:=hr
    exact w_k A_c
   ·refine aj ?_
    obtain rfl:_=v1:=hr
    exact w_k A_c
  refine ak hr (fun cF19 hr=>?_) (fun cF19 hr=>?_)
  ·refine az (w_n (aw (aC ?_)))
   exact(dC (w_k ⟨(IntKind.i64.wrap (at_1+(1:Int))),hr,A_c⟩))
  ·exact ca (cX (cX (fm (w_k ⟨at_1,(hr).map,A_c⟩))))
theorem lX(a_:List ah)(b:List ah){h:bn}{a:List Int}(e:bG a_ b=some a):
  cq CT 229 [vL ay a_,vL ay b] h fun o h'=>o=[vL eI a]∧h'=h:=by
 refine bg Tryz.func229 fun hwf hu=>?_
 obtain⟨D,hD,hr⟩:=Holds.one e
 dsimp only[bG]at hr
 change aO _ _ _ _ _ ⟨[(0,vL ay a_),(1,vL ay b)],h.on []⟩
 iterate 2 refine A_s ?_
 refine al ?_
 obtain⟨nF1,hr⟩:=hr.room
 obtain⟨nF2,hr⟩:=hr.room
 refine A_n ?_
 refine al (A_s ?_)
 refine w_K (D:=D) (fun xX:List Int=>⟨[(5,vL eI xX)],h.on []⟩) (fun xX:List Int=>bG.k1 xX) (fun out s' hr ht=>?_) ?_
 ·dsimp only[bG.k1]at hr ht
  refine(dG ht ?_)
  refine A_s ?_
  refine bk ?_
  obtain rfl:=hD _ hr
  exact(aN (aU (os':=[]) (sl:=[(4,vL eI out)]) hwf) ⟨rfl,aE hwf⟩)
 ·refine aw (cb (fun xX:(List Int×Int)=>⟨[(5,vL eI xX.1),(6,.cv (.row 147 (List.map ay (a_++b)))),(7,vI xX.2)],h.on []⟩) hr (.fix _ _ (.slot 5) 3 _ kB A_c) (fun W1 xX hr=>?_))
  obtain⟨out1,i⟩:=xX
  dsimp only[bG.b1]at hr
  refine al (A_s ?_)
  refine ak hr (fun cF3 hr=>?_) (fun cF3 hr=>?_)
  ·refine az (w_n (al (w_K (D:=(Aft W1 D)) (fun xX:List Int=>⟨[(5,vL eI xX),(6,.cv (.row 147 (List.map ay (a_++b)))),(7,vI i)],h.on []⟩) (fun xX:List Int=>bG.k2 i xX) (fun out2 s' hr ht=>?_) ?_)))
   ·dsimp only[bG.k2]at hr ht
    refine(dG ht ?_)
    refine aC ?_
    exact(w_k ⟨(out2,(IntKind.i64.wrap (i+(1:Int)))),hr,A_c⟩)
   ·refine aw (al (cB ?_))
    (obtain⟨x,nF4,eF5,gF6,hr⟩:=hr.idx;replace eF5:=congrArg (Option.map ay) eF5;rw[← gP,List.map_append]at eF5;simp only[Option.map_some,List.map_append,lA,ay]at nF4 eF5 gF6)
    refine aG 6 ?_
    obtain⟨r,eF7,hr⟩:=hr.bind
    refine aT (out:=?o7) (hp:=?p7) ?c7 ?d7 ?_
    case c7=>exact gY out1 x.Low eF7
    case d7=>rfl
    refine fj ?_
    refine A_s ?_
    refine ak hr (fun cF8 hr=>?_) (fun cF8 hr=>?_)
    ·refine cB ?_
     refine aG 7 ?_
     obtain⟨r1,eF9,hr⟩:=hr.bind
     refine aT (out:=?o9) (hp:=?p9) ?c9 ?d9 ?_
     case c9=>exact gY r (IntKind.i64.wrap (x.High+(1:Int))) eF9
     case d9=>rfl
     refine aj ?_
     exact(dC (w_k ⟨r1,hr,A_c⟩))
    ·exact az (dC (w_k ⟨r,hr,A_c⟩))
  ·exact ca (cX (cX (fm (w_k ⟨out1,(hr).map,A_c⟩))))
theorem fS(a_:List ah)(r:Int){h:bn}{a:Bool}(e:bY a_ r=some a):
  cq CT 169 [vL ay a_,vI r] h fun o h'=>o=[vB a]∧h'=h:=by
 refine bg Tryz.func169 fun hwf hu=>?_
 obtain⟨D,hD,hr⟩:=Holds.one e
 dsimp only[bY]at hr
 change aO _ _ _ _ _ ⟨[(0,vL ay a_),(1,vI r)],h.on []⟩
 refine A_s ?_
 refine al (A_s ?_)
 refine w_K (D:=D) (fun xX:Unit=>⟨[],h.on []⟩) (fun xX:Unit=>bY.k1) (fun xX s' hr ht=>?_) ?_
 ·dsimp only[bY.k1]at hr ht
  refine(dG ht ?_)
  refine A_s ?_
  refine bk ?_
  obtain rfl:=hD _ hr
  exact(aN (aU (os':=[]) (sl:=[(4,vB false)]) hwf) ⟨rfl,aE hwf⟩)
 ·refine aw (cb (fun xX:Int=>⟨[(0,vL ay a_),(1,vI r),(5,vI xX)],h.on []⟩) hr A_c (fun W1 i hr=>?_))
  dsimp only[bY.b1]at hr
  refine al (A_s ?_)
  refine ak hr (fun cF1 hr=>?_) (fun cF1 hr=>?_)
  ·refine az (w_n (al (aw ?_)))
   obtain⟨v,vF6,hr⟩:=hr.bind
   refine cf (sj:=⟨[(0,vL ay a_),(1,vI r),(5,vI i),(27,vB v)],h.on []⟩) (cB ?_) ?_
   ·have hr:=Holds.intro (D:=fun z=>z=v) vF6 rfl
    obtain⟨x,nF2,eF3,gF4,hr⟩:=hr.idx
    refine aG 8 ?_
    rcases hr.ite with⟨cF5,hr⟩|⟨cF5,hr⟩
    ·refine aj ?_
     obtain rfl:_=v:=hr
     exact w_k A_c
    ·refine aj ?_
     obtain rfl:_=v:=hr
     exact w_k A_c
   refine ak hr (fun cF7 hr=>?_) (fun cF7 hr=>?_)
   ·refine A_s ?_
    refine bk ?_
    obtain rfl:=hD _ hr
    exact(fa (cm (cm (fa (cm (cm (aN (aU (os':=[]) (sl:=[(4,vB true)]) hwf) ⟨rfl,aE hwf⟩)))))))
   ·refine az (dC (w_n ?_))
    refine aC ?_
    exact(w_k ⟨(IntKind.i64.wrap (i+(1:Int))),hr,A_c⟩)
  ·exact ca (cX (cX (fm (w_k ⟨(),(hr).map,A_c⟩))))
theorem mV(l:List ah)(low:Int)(high:Int){h:bn}{a:List ah}(e:dV l low high=some a):
  cq CT 230 [.cv (.row 147 (List.map ay l)),vI low,vI high] h fun o h'=>o=[.cv (.row 147 (List.map ay a))]∧h'=h:=by
 refine bg Tryz.func230 fun hwf hu=>?_
 obtain⟨D,hD,hr⟩:=Holds.one e
 dsimp only[dV]at hr
 change aO _ _ _ _ _ ⟨[(0,.cv (.row 147 (List.map ay l))),(1,vI low),(2,vI high)],h.on []⟩
 iterate 2 refine A_s ?_
 refine al ?_
 obtain⟨v,vF5,hr⟩:=hr.bind
 refine cf (sj:=⟨[(0,.cv (.row 147 (List.map ay l))),(1,vI low),(2,vI high),(7,vI (l.length:Int)),(22,vB v)],h.on []⟩) (cB ?_) ?_
 ·have hr:=Holds.intro (D:=fun z=>z=v) vF5 rfl
  refine aG 3 ?_
  rcases hr.ite with⟨cF1,hr⟩|⟨cF1,hr⟩
  ·obtain⟨x,nF2,eF3,gF4,hr⟩:=hr.idx
   refine aj ?_
   obtain rfl:_=v:=hr
   exact w_k A_c
  ·refine aj ?_
   obtain rfl:_=v:=hr
   exact w_k A_c
 refine ak hr (fun cF6 hr=>?_) (fun cF6 hr=>?_)
 ·refine al ?_
  obtain⟨x1,nF7,eF8,gF9,hr⟩:=hr.idx
  refine A_n ?_
  refine A_s ?_
  refine bk ?_
  obtain rfl:=hD _ hr
  exact(cm (aN (aU (os':=[]) (sl:=[(6,.cv (.row 147 (List.map ay (List.set l (Int.toNat (IntKind.i64.wrap ((l.length:Int) - (1:Int)))) (ah.mk x1.Low high)))))]) hwf) ⟨rfl,aE hwf⟩))
 ·refine az (w_n (al ?_))
  obtain⟨nF10,hr⟩:=hr.room
  refine A_n ?_
  refine bk ?_
  obtain rfl:=hD _ hr
  exact(aN (aU (os':=[]) (sl:=[(6,.cv (.row 147 (List.map ay (l++([(ah.mk low high)])))))]) hwf) ⟨rfl,aE hwf⟩)
theorem mv(a_:List ah) (b:List ah) (kind:Int) {h:bn} {a:List ah} (e:aA a_ b kind=some a):
  cq CT 167 [vL ay a_,vL ay b,vI kind] h fun o h'=>o=[vL ay a]∧h'=h:=by
 refine bg Tryz.func167 fun hwf hu=>?_
 obtain⟨D,hD,hr⟩:=Holds.one e
 dsimp only[aA]at hr
 change aO _ _ _ _ _ ⟨[(0,vL ay a_),(1,vL ay b),(2,vI kind)],h.on []⟩
 refine A_s ?_
 refine fD 2 ?_
 obtain⟨r,eF1,hr⟩:=hr.bind
 refine aT (out:=?o1) (hp:=?p1) ?c1 ?d1 ?_
 case c1=>exact lX a_ b eF1
 case d1=>rfl
 refine fj ?_
 refine A_s ?_
 refine al (A_s ?_)
 refine w_K (D:=D) (fun xX:List ah=>⟨[(8,.cv (.row 147 (List.map ay xX)))],h.on []⟩) (fun xX:List ah=>aA.k1 xX) (fun out s' hr ht=>?_) ?_
 ·dsimp only[aA.k1]at hr ht
  refine(dG ht ?_)
  refine A_s ?_
  refine bk ?_
  obtain rfl:=hD _ hr
  exact(aN (.fix _ _ (.slot 6) 147 _ kB (aU (os':=[]) (sl:=[(6,vL ay out)]) hwf)) ⟨rfl,aE hwf⟩)
 ·refine aw (cb (fun xX:(List ah×Int)=>⟨[(0,vL ay a_),(1,vL ay b),(2,vI kind),(7,vL eI r),(8,.cv (.row 147 (List.map ay xX.1))),(9,vI xX.2)],h.on []⟩) hr A_c (fun W1 xX hr=>?_))
  obtain⟨out1,i⟩:=xX
  dsimp only[aA.b1]at hr
  refine al (A_s ?_)
  refine ak hr (fun cF2 hr=>?_) (fun cF2 hr=>?_)
  ·refine az (w_n (al (w_K (D:=(Aft W1 D)) (fun xX:List ah=>⟨[(0,vL ay a_),(1,vL ay b),(2,vI kind),(7,vL eI r),(8,.cv (.row 147 (List.map ay xX))),(9,vI i)],h.on []⟩) (fun xX:List ah=>aA.k2 i xX) (fun out2 s' hr ht=>?_) ?_)))
   ·dsimp only[aA.k2]at hr ht
    refine(dG ht ?_)
    refine aC ?_
    exact(w_k ⟨(out2,(IntKind.i64.wrap (i+(1:Int)))),hr,A_c⟩)
   ·refine aw (A_s ?_)
    refine al (A_s ?_)
    refine w_K (D:=(Aft W1 D)) (fun xX:Int=>⟨[(0,vL ay a_),(1,vL ay b),(2,vI kind),(7,vL eI r),(8,.cv (.row 147 (List.map ay out1))),(9,vI i),(10,vI xX)],h.on []⟩) (fun xX:Int=>aA.k3 a_ b kind r out1 i xX) (fun high s' hr ht=>?_) ?_
    ·dsimp only[aA.k3]at hr ht
     refine(dG ht ?_)
     refine al (cB ?_)
     obtain⟨n,nF3,eF4,gF5,hr⟩:=hr.idx
     refine aG 5 ?_
     obtain⟨r1,eF6,hr⟩:=hr.bind
     refine aT (out:=?o6) (hp:=?p6) ?c6 ?d6 ?_
     case c6=>exact fS a_ n eF6
     case d6=>rfl
     refine fj ?_
     refine fD 5 ?_
     obtain⟨r2,eF7,hr⟩:=hr.bind
     refine aT (out:=?o7) (hp:=?p7) ?c7 ?d7 ?_
     case c7=>exact fS b n eF7
     case d7=>rfl
     refine fj ?_
     refine cf (sj:=⟨[(0,vL ay a_),(1,vL ay b),(2,vI kind),(7,vL eI r),(8,.cv (.row 147 (List.map ay out1))),(9,vI i),(10,vI high),(11,vB r1),(12,vB r2),(13,vB (r1||r2))],h.on []⟩) (cB ?_) ?_
     ·refine aG 2 ?_
      rcases Bool.eq_false_or_eq_true r1 with cF8|cF8
      ·refine aj ?_
       exact w_k A_c
      ·refine aj ?_
       exact w_k A_c
     refine al (A_s ?_)
     refine w_K (D:=(Aft W1 D)) (fun xX:Bool=>⟨[(0,vL ay a_),(1,vL ay b),(2,vI kind),(7,vL eI r),(8,.cv (.row 147 (List.map ay out1))),(9,vI i),(10,vI high),(13,vB xX)],h.on []⟩) (fun xX:Bool=>aA.k4 out1 i high n xX) (fun is1 s' hr ht=>?_) ?_
     ·dsimp only[aA.k4]at hr ht
      refine(dG ht ?_)
      refine A_s ?_
      refine ak hr (fun cF9 hr=>?_) (fun cF9 hr=>?_)
      ·refine cB ?_
       refine aG 6 ?_
       obtain⟨r3,eF10,hr⟩:=hr.bind
       refine aT (out:=?o10) (hp:=?p10) ?c10 ?d10 ?_
       case c10=>exact mV out1 n high eF10
       case d10=>rfl
       refine aj ?_
       exact(dC (w_k ⟨r3,hr,A_c⟩))
      ·exact az (dC (w_k ⟨out1,hr,A_c⟩))
     ·refine aw (A_s ?_)
      refine ak hr (fun cF11 hr=>?_) (fun cF11 hr=>?_)
      ·refine cB ?_
       refine aG 2 ?_
       rcases hr.ite with⟨cF12,hr⟩|⟨cF12,hr⟩
       ·refine aj ?_
        exact(dC (w_k ⟨r2,hr,A_c⟩))
       ·refine aj ?_
        exact(dC (w_k ⟨false,hr,A_c⟩))
      ·refine A_s ?_
       refine ak hr (fun cF13 hr=>?_) (fun cF13 hr=>?_)
       ·refine cB ?_
        refine aG 2 ?_
        rcases hr.ite with⟨cF14,hr⟩|⟨cF14,hr⟩
        ·refine aj ?_
         exact(dC (w_k ⟨(!r2),hr,A_c⟩))
        ·refine aj ?_
         exact(dC (w_k ⟨false,hr,A_c⟩))
       ·refine A_s ?_
        refine ak hr (fun cF15 hr=>?_) (fun cF15 hr=>?_)
        ·refine cB ?_
         refine aG 3 ?_
         rcases hr.ite with⟨cF16,hr⟩|⟨cF16,hr⟩
         ·refine aj ?_
          exact(dC (w_k ⟨(!r2),hr,A_c⟩))
         ·refine aj ?_
          exact(dC (w_k ⟨false,hr,A_c⟩))
        ·exact az (dC (w_k ⟨(r1||r2),hr,A_c⟩))
    ·refine ak hr (fun cF17 hr=>?_) (fun cF17 hr=>?_)
     ·obtain⟨n1,nF18,eF19,gF20,hr⟩:=hr.idx
      refine aC ?_
      exact(w_k ⟨(IntKind.i64.wrap (n1 - (1:Int))),hr,A_c⟩)
     ·exact az (w_k ⟨(1114111:Int),hr,A_c⟩)
  ·exact ca (cX (cX (fm (w_k ⟨out1,(hr).map,A_c⟩))))
theorem my(l:List ah) {h:bn} {a:(List ah×Int)} (e:bH l=some a):
  cq CT 95 [.cv (.val (.sl (List.map ay l)))] h fun o h'=>o=[.cv (.val (.sl (List.map ay a.1))),.cv (.val (.int .i64 a.2))]∧h'=h:=by
 refine bg Tryz.func95 fun hwf hu=>?_
 obtain⟨D,hD,hr⟩:=Holds.one e
 dsimp only[bH]at hr
 change aO _ _ _ _ _ ⟨[(0,.cv (.val (.sl (List.map ay l))))],h.on []⟩
 refine A_s ?_
 refine al (A_s ?_)
 refine w_K (D:=D) (fun xX:Unit=>⟨[(0,.cv (.val (.sl (List.map ay l))))],h.on []⟩) (fun xX:Unit=>bH.k1 l) (fun xX s' hr ht=>?_) ?_
 ·dsimp only[bH.k1]at hr ht
  refine(dG ht ?_)
  refine fD 1 ?_
  obtain⟨r,eF1,hr⟩:=hr.bind
  refine aT (out:=?o1) (hp:=?p1) ?c1 ?d1 ?_
  case c1=>exact mv l [] (0:Int) eF1
  case d1=>rfl
  refine fj ?_
  refine bk ?_
  obtain rfl:=hD _ hr
  exact(aN (aU (os':=[]) (sl:=[(2,.cv (.val (.sl (List.map ay r)))),(3,.cv (.val (.int .i64 (0:Int))))]) hwf) ⟨rfl,aE hwf⟩)
 ·refine aw (cb (fun xX:Int=>⟨[(0,.cv (.val (.sl (List.map ay l)))),(4,.cv (.val (.int .i64 xX)))],h.on []⟩) hr A_c (fun W1 i hr=>?_))
  dsimp only[bH.b1]at hr
  refine al (A_s ?_)
  refine ak hr (fun cF2 hr=>?_) (fun cF2 hr=>?_)
  ·refine az (w_n (al (aw ?_)))
   obtain⟨v,vF8,hr⟩:=hr.bind
   refine cf (sj:=⟨[(0,.cv (.val (.sl (List.map ay l)))),(4,.cv (.val (.int .i64 i))),(37,.cv (.val (.bool v)))],h.on []⟩) (cT [0,1,2,3,4,5,6,7,8,9,10,11,12,13,14,15,16,17,18,19,20,21,22,23,24,25,26] (by rfl) ?_) ?_
   ·have hr:=Holds.intro (D:=fun z=>z=v) vF8 rfl
    obtain⟨x,nF3,eF4,gF5,hr⟩:=hr.idx
    refine bU [0,1,2,3,4,5,6] [6,5,4,3,2,1,0] ?_
    rcases hr.ite with⟨cF6,hr⟩|⟨cF6,hr⟩
    ·refine bU [7,8,9,10,11,12,13,14,15,16,17,18,19,20,21,22,23,24,25,26] [26,25,24,23,22,21,20,19,18,17,16,15,14,13,12,11,10,9,8,7,6,5,4,3,2,1,0] ?_
     refine df ?_
     obtain rfl:_=v:=hr
     exact w_k A_c
    ·refine bU [7,8,9,10,11,12,13,14] [14,13,12,11,10,9,8,7,6,5,4,3,2,1,0] ?_
     rcases hr.ite with⟨cF7,hr⟩|⟨cF7,hr⟩
     ·refine bU [15,16,17,18,19,20,21,22,23,24,25,26] [26,25,24,23,22,21,20,19,18,17,16,15,14,13,12,11,10,9,8,7,6,5,4,3,2,1,0] ?_
      refine df ?_
      obtain rfl:_=v:=hr
      exact w_k A_c
     ·refine bU [15,16,17,18,19,20,21,22,23,24,25,26] [26,25,24,23,22,21,20,19,18,17,16,15,14,13,12,11,10,9,8,7,6,5,4,3,2,1,0] ?_
      refine df ?_
      obtain rfl:_=v:=hr
      exact w_k A_c
   refine ak hr (fun cF9 hr=>?_) (fun cF9 hr=>?_)
   ·refine A_s ?_
    refine bk ?_
    obtain rfl:=hD _ hr
    exact(fa (cm (cm (fa (cm (cm (aN (aU (os':=[]) (sl:=[(2,.cv (.val (.sl (List.map ay ([]:List ah))))),(3,.cv (.val (.int .i64 (1:Int))))]) hwf) ⟨rfl,aE hwf⟩)))))))
   ·refine az (dC (w_n ?_))
    refine aC ?_
    exact(w_k ⟨(IntKind.i64.wrap (i+(1:Int))),hr,A_c⟩)
  ·exact ca (cX (cX (fm (w_k ⟨(),(hr).map,A_c⟩))))
theorem mQ(a_:List ah)(b:List ah){h:bn}{a:Bool}(e:bV a_ b=some a):
  cq CT 96 [vL ay a_,vL ay b] h fun o h'=>o=[vB a]∧h'=h:=by
 refine bg Tryz.func96 fun hwf hu=>?_
 obtain⟨D,hD,hr⟩:=Holds.one e
 dsimp only[bV]at hr
 change aO _ _ _ _ _ ⟨[(0,vL ay a_),(1,vL ay b)],h.on []⟩
 refine A_s ?_
 refine al (A_s ?_)
 refine ak hr (fun cF1 hr=>?_) (fun cF1 hr=>?_)
 ·refine A_s ?_
  refine bk ?_
  obtain rfl:=hD _ hr
  exact(cm (aN (aU (os':=[]) (sl:=[(4,vB false)]) hwf) ⟨rfl,aE hwf⟩))
 ·refine az (w_n (al (A_s ?_)))
  refine w_K (D:=D) (fun xX:Unit=>⟨[],h.on []⟩) (fun xX:Unit=>bV.k1) (fun xX s' hr ht=>?_) ?_
  ·dsimp only[bV.k1]at hr ht
   refine(dG ht ?_)
   refine A_s ?_
   refine bk ?_
   obtain rfl:=hD _ hr
   exact(aN (aU (os':=[]) (sl:=[(4,vB true)]) hwf) ⟨rfl,aE hwf⟩)
  ·refine aw (cb (fun xX:Int=>⟨[(0,vL ay a_),(1,vL ay b),(5,vI xX)],h.on []⟩) hr A_c (fun W1 i hr=>?_))
   dsimp only[bV.b1]at hr
   refine al (A_s ?_)
   refine ak hr (fun cF2 hr=>?_) (fun cF2 hr=>?_)
   ·refine az (w_n (al (aw (al (cT [0,1,2,3,4,5,6,7,8] (by rfl) ?_)))))
    obtain⟨x,nF3,eF4,gF5,hr⟩:=hr.idx
    obtain⟨x1,nF6,eF7,gF8,hr⟩:=hr.idx
    refine bU [0,1,2,3,4,5,6,7,8] [8,7,6,5,4,3,2,1,0] ?_
    refine df ?_
    refine w_n (ak hr (fun cF9 hr=>?_) (fun cF9 hr=>?_))
    ·refine A_s ?_
     refine bk ?_
     obtain rfl:=hD _ hr
     exact(fa (cm (cm (fa (cm (cm (aN (aU (os':=[]) (sl:=[(4,vB false)]) hwf) ⟨rfl,aE hwf⟩)))))))
    ·refine az (dC (w_n ?_))
     refine aC ?_
     exact(w_k ⟨(IntKind.i64.wrap (i+(1:Int))),hr,A_c⟩)
   ·exact ca (cX (cX (fm (w_k ⟨(),(hr).map,A_c⟩))))
theorem gU(l:List Int)(n:Int){h:bn}{a:List Int}(e:cx l n=some a):
  cq CT 168 [.cv (.val (.sl (List.map eI l))),.cv (.val (.int .i64 n))] h fun o h'=>o=[.cv (.val (.sl (List.map eI a)))]∧h'=h:=by
 refine bg Tryz.func168 fun hwf hu=>?_
 obtain⟨D,hD,hr⟩:=Holds.one e
 dsimp only[cx]at hr
 change aO _ _ _ _ _ ⟨[(0,.cv (.val (.sl (List.map eI l)))),(1,.cv (.val (.int .i64 n)))],h.on []⟩
 iterate 2 refine A_s ?_
 refine al (w_K (D:=D) (fun xX:Int=>⟨[(0,.cv (.val (.sl (List.map eI l)))),(1,.cv (.val (.int .i64 n))),(5,.cv (.val (.int .i64 xX)))],h.on []⟩) (fun xX:Int=>cx.k1 l n xX) (fun at_ s' hr ht=>?_) ?_)
 ·dsimp only[cx.k1]at hr ht
  refine(dG ht ?_)
  refine al ?_
  obtain⟨v,vF5,hr⟩:=hr.bind
  refine cf (sj:=⟨[(0,.cv (.val (.sl (List.map eI l)))),(1,.cv (.val (.int .i64 n))),(5,.cv (.val (.int .i64 at_))),(32,.cv (.val (.bool v)))],h.on []⟩) (cB ?_) ?_
  ·have hr:=Holds.intro (D:=fun z=>z=v) vF5 rfl
   refine aG 5 ?_
   rcases hr.ite with⟨cF1,hr⟩|⟨cF1,hr⟩
   ·obtain⟨n1,nF2,eF3,gF4,hr⟩:=hr.idx
    refine aj ?_
    obtain rfl:_=v:=hr
    exact w_k A_c
   ·refine aj ?_
    obtain rfl:_=v:=hr
    exact w_k A_c
  refine ak hr (fun cF6 hr=>?_) (fun cF6 hr=>?_)
  ·refine A_s ?_
   refine bk ?_
   obtain rfl:=hD _ hr
   exact(cm (aN (aU (os':=[]) (sl:=[(4,.cv (.val (.sl (List.map eI l))))]) hwf) ⟨rfl,aE hwf⟩))
  ·refine az (w_n (al ?_))
   obtain⟨nF7,nF8,hr⟩:=hr.cutH
   obtain⟨nF9,hr⟩:=hr.room
   refine A_n ?_
   refine al ?_
   obtain⟨nF10,hr⟩:=hr.room
   refine A_n ?_
   refine al ?_
   obtain⟨nF11,nF12,hr⟩:=hr.cutL
   obtain⟨nF13,hr⟩:=hr.room
   refine A_n ?_
   refine bk ?_
   obtain rfl:=hD _ hr
   exact(aN (.fix _ _ (.slot 4) 3 _ kB (aU (os':=[]) (sl:=[(4,.cv (.val (.sl (List.map eI (((List.take (Int.toNat at_) l)++([n]))++(List.drop (Int.toNat at_) l))))))]) hwf)) ⟨rfl,aE hwf⟩)
 ·refine aw (cb (fun xX:Int=>⟨[(0,.cv (.val (.sl (List.map eI l)))),(1,.cv (.val (.int .i64 n))),(5,.cv (.val (.int .i64 xX)))],h.on []⟩) hr A_c (fun W1 at_1 hr=>?_))
  dsimp only[cx.b1]at hr
  refine al ?_
  obtain⟨v1,vF18,hr⟩:=hr.bind
  refine cf (sj:=⟨[(0,.cv (.val (.sl (List.map eI l)))),(1,.cv (.val (.int .i64 n))),(5,.cv (.val (.int .i64 at_1))),(18,.cv (.val (.bool v1)))],h.on []⟩) (cB ?_) ?_
  ·have hr:=Holds.intro (D:=fun z=>z=v1) vF18 rfl
   refine aG 5 ?_
   rcases hr.ite with⟨cF14,hr⟩|⟨cF14,hr⟩
   ·obtain⟨n2,nF15,eF16,gF17,hr⟩:=hr.idx
    refine aj ?_
    obtain rfl:_=v1:=hr
    exact w_k A_c
   ·refine aj ?_
    obtain rfl:_=v1:=hr
    exact w_k A_c
  refine ak hr (fun cF19 hr=>?_) (fun cF19 hr=>?_)
  ·refine az (w_n (aw (aC ?_)))
   exact(dC (w_k ⟨(IntKind.i64.wrap (at_1+(1:Int))),hr,A_c⟩))
  ·exact ca (cX (cX (fm (w_k ⟨at_1,(hr).map,A_c⟩))))
theorem lw(sets:List (List ah)) {h:bn} {a:List Int} (e:aF sets=some a):
  cq CT 97 [vL (eL ay) sets] h fun o h'=>o=[vL eI a]∧h'=h:=by
 refine bg Tryz.func97 fun hwf hu=>?_
 obtain⟨D,hD,hr⟩:=Holds.one e
 dsimp only[aF]at hr
 change aO _ _ _ _ _ ⟨[(0,vL (eL ay) sets)],h.on []⟩
 iterate 2 refine A_s ?_
 refine al (A_s ?_)
 refine w_K (D:=D) (fun xX:List Int=>⟨[(3,vL eI xX)],h.on []⟩) (fun xX:List Int=>aF.k1 xX) (fun out s' hr ht=>?_) ?_
 ·dsimp only[aF.k1]at hr ht
  refine(dG ht ?_)
  refine A_s ?_
  refine bk ?_
  obtain rfl:=hD _ hr
  exact(aN (aU (os':=[]) (sl:=[(2,vL eI out)]) hwf) ⟨rfl,aE hwf⟩)
 ·refine aw (cb (fun xX:(List Int×Int)=>⟨[(0,vL (eL ay) sets),(3,vL eI xX.1),(4,vI xX.2)],h.on []⟩) hr (.fix _ _ (.slot 3) 3 _ kB A_c) (fun W1 xX hr=>?_))
  obtain⟨out1,i⟩:=xX
  dsimp only[aF.b1]at hr
  refine al (A_s ?_)
  refine ak hr (fun cF1 hr=>?_) (fun cF1 hr=>?_)
  ·refine az (w_n (al (w_K (D:=(Aft W1 D)) (fun xX:List Int=>⟨[(0,vL (eL ay) sets),(3,vL eI xX),(4,vI i)],h.on []⟩) (fun xX:List Int=>aF.k2 i xX) (fun out2 s' hr ht=>?_) ?_)))
   ·dsimp only[aF.k2]at hr ht
    refine(dG ht ?_)
    refine aC ?_
    exact(w_k ⟨(out2,(IntKind.i64.wrap (i+(1:Int)))),hr,A_c⟩)
   ·refine aw (A_s ?_)
    refine aw (cb (fun xX:(List Int×Int)=>⟨[(0,vL (eL ay) sets),(3,vL eI xX.1),(4,vI i),(5,vI xX.2)],h.on []⟩) hr A_c (fun W2 xX hr=>?_))
    obtain⟨out3,k⟩:=xX
    dsimp only[aF.b2]at hr
    refine al (al ?_)
    obtain⟨xs,nF2,eF3,gF4,hr⟩:=hr.idx
    refine A_n ?_
    refine ak hr (fun cF5 hr=>?_) (fun cF5 hr=>?_)
    ·refine az (w_n (al (w_K (D:=(Aft W2 (Aft W1 D))) (fun xX:List Int=>⟨[(0,vL (eL ay) sets),(3,vL eI xX),(4,vI i),(5,vI k)],h.on []⟩) (fun xX:List Int=>aF.k3 k xX) (fun out4 s' hr ht=>?_) ?_)))
     ·dsimp only[aF.k3]at hr ht
      refine(dG ht ?_)
      refine aC ?_
      exact(w_k ⟨(out4,(IntKind.i64.wrap (k+(1:Int)))),hr,A_c⟩)
     ·refine aw (al (cB ?_))
      obtain⟨x,nF6,eF7,gF8,hr⟩:=hr.idx
      refine aG 9 ?_
      obtain⟨r,eF9,hr⟩:=hr.bind
      refine aT (out:=?o9) (hp:=?p9) ?c9 ?d9 ?_
      case c9=>exact gU out3 x.Low eF9
      case d9=>rfl
      refine fj ?_
      refine A_s ?_
      refine ak hr (fun cF10 hr=>?_) (fun cF10 hr=>?_)
      ·refine cB ?_
       refine aG 10 ?_
       obtain⟨r1,eF11,hr⟩:=hr.bind
       refine aT (out:=?o11) (hp:=?p11) ?c11 ?d11 ?_
       case c11=>exact gU r (IntKind.i64.wrap (x.High+(1:Int))) eF11
       case d11=>rfl
       refine aj ?_
       exact(dC (w_k ⟨r1,hr,A_c⟩))
      ·exact az (dC (w_k ⟨r,hr,A_c⟩))
    ·exact ca (cX (cX (fm (dC (w_k ⟨out3,(hr).map,A_c⟩)))))
  ·exact ca (cX (cX (fm (w_k ⟨out1,(hr).map,A_c⟩))))
theorem iY(sets:List (List ah))(r:Int){h:bn}{a:Int}(e:bC sets r=some a):
  cq CT 98 [vL (eL ay) sets,vI r] h fun o h'=>o=[.cv (.val (.int .u64 a))]∧h'=h:=by
 refine bg Tryz.func98 fun hwf hu=>?_
 obtain⟨D,hD,hr⟩:=Holds.one e
 dsimp only[bC]at hr
 change aO _ _ _ _ _ ⟨[(0,vL (eL ay) sets),(1,vI r)],h.on []⟩
 iterate 2 refine A_s ?_
 refine al (A_s ?_)
 refine w_K (D:=D) (fun xX:Int=>⟨[(5,.cv (.val (.int .u64 xX)))],h.on []⟩) (fun xX:Int=>bC.k1 xX) (fun m s' hr ht=>?_) ?_
 ·dsimp only[bC.k1]at hr ht
  refine(dG ht ?_)
  refine A_s ?_
  refine bk ?_
  obtain rfl:=hD _ hr
  exact(aN (aU (os':=[]) (sl:=[(4,.cv (.val (.int .u64 m)))]) hwf) ⟨rfl,aE hwf⟩)
 ·refine aw (cb (fun xX:(Int×Int)=>⟨[(0,vL (eL ay) sets),(1,vI r),(5,.cv (.val (.int .u64 xX.1))),(6,vI xX.2)],h.on []⟩) hr A_c (fun W1 xX hr=>?_))
  obtain⟨m1,i⟩:=xX
  dsimp only[bC.b1]at hr
  refine al (A_s ?_)
  refine ak hr (fun cF1 hr=>?_) (fun cF1 hr=>?_)
  ·refine az (w_n (al (w_K (D:=(Aft W1 D)) (fun xX:Int=>⟨[(0,vL (eL ay) sets),(1,vI r),(5,.cv (.val (.int .u64 xX))),(6,vI i)],h.on []⟩) (fun xX:Int=>bC.k2 i xX) (fun m2 s' hr ht=>?_) ?_)))
   ·dsimp only[bC.k2]at hr ht
    refine(dG ht ?_)
    refine aC ?_
    exact(w_k ⟨(m2,(IntKind.i64.wrap (i+(1:Int)))),hr,A_c⟩)
   ·refine aw (al (cB ?_))
    obtain⟨xs,nF2,eF3,gF4,hr⟩:=hr.idx
    refine aG 5 ?_
    obtain⟨r1,eF5,hr⟩:=hr.bind
    refine aT (out:=?o5) (hp:=?p5) ?c5 ?d5 ?_
    case c5=>exact fS xs r eF5
    case d5=>rfl
    refine fj ?_
    refine A_s ?_
    refine ak hr (fun cF6 hr=>?_) (fun cF6 hr=>?_)
    ·obtain⟨nF7,nF8,hr⟩:=hr.nat
     refine aC ?_
     exact(dC (w_k ⟨(bOr .u64 m1 (shL .u64 (1:Int) (IntKind.u64.wrap i))),hr,A_c⟩))
    ·exact az (dC (w_k ⟨m1,hr,A_c⟩))
  ·exact ca (cX (cX (fm (w_k ⟨m1,(hr).map,A_c⟩))))
theorem iW(a_:aS)(m:Int)(l0:Nat){h:bn}(ha0:h.at_ l0=some (.cells [wL (eL ay) a_.Sets,.row 152 (List.map (eK .u64) a_.M),.row 3 (List.map eI a_.First)])){a:Int}(e:bi a_ m=some a):
  cq CT 99 [vP l0,.cv (.val (.int .u64 m))] h fun o h'=>o=[vI a]∧h'=h:=by
 refine bg Tryz.func99 fun hwf hu=>?_
 have hl0:=(hwf _ _ ha0).1
 have kl0:=kZ hl0
 obtain⟨D,hD,hr⟩:=Holds.one e
 dsimp only[bi]at hr
 change aO _ _ _ _ _ ⟨[(0,vP l0),(1,.cv (.val (.int .u64 m)))],h.on []⟩
 refine A_s ?_
 refine al (A_s ?_)
 refine w_K (D:=D) (fun xX:Unit=>⟨[],h.on []⟩) (fun xX:Unit=>bi.k1) (fun xX s' hr ht=>?_) ?_
 ·dsimp only[bi.k1]at hr ht
  refine(dG ht ?_)
  refine A_s ?_
  refine bk ?_
  obtain rfl:=hD _ hr
  exact(aN (aU (os':=[]) (sl:=[(4,vI (-1:Int))]) hwf) ⟨rfl,aE hwf⟩)
 ·refine aw (cb (fun xX:Int=>⟨[(0,vP l0),(1,.cv (.val (.int .u64 m))),(5,vI xX)],h.on []⟩) hr A_c (fun W1 i hr=>?_))
  dsimp only[bi.b1]at hr
  refine al (A_s ?_)
  refine ak hr (fun cF1 hr=>?_) (fun cF1 hr=>?_)
  ·refine az (w_n (al (aw (al ?_))))
   obtain⟨n,nF2,eF3,gF4,hr⟩:=hr.idx
   refine A_n ?_
   refine ak hr (fun cF5 hr=>?_) (fun cF5 hr=>?_)
   ·refine A_s ?_
    refine bk ?_
    obtain rfl:=hD _ hr
    exact(fa (cm (cm (fa (cm (cm (aN (aU (os':=[]) (sl:=[(4,vI i)]) hwf) ⟨rfl,aE hwf⟩)))))))
   ·refine az (dC (w_n ?_))
    refine aC ?_
    exact(w_k ⟨(IntKind.i64.wrap (i+(1:Int))),hr,A_c⟩)
  ·exact ca (cX (cX (fm (w_k ⟨(),(hr).map,A_c⟩))))
theorem lI(l:List bZ) (r:Int) {h:bn} {a:UInt8} (e:bJ l r=some a):
  cq CT 171 [vL dM l,vI r] h fun o h'=>o=[.cv (.val (.int .u8 (a.toNat:Int)))]∧h'=h:=by
 refine bg Tryz.func171 fun hwf hu=>?_
 obtain⟨D,hD,hr⟩:=Holds.one e
 dsimp only[bJ]at hr
 change aO _ _ _ _ _ ⟨[(0,vL dM l),(1,vI r)],h.on []⟩
 iterate 2 refine A_s ?_
 refine al (A_s ?_)
 refine w_K (D:=D) (fun xX:UInt8=>⟨[(5,.cv (.val (.int .u8 (xX.toNat:Int))))],h.on []⟩) (fun xX:UInt8=>bJ.k1 xX) (fun v s' hr ht=>?_) ?_
 ·dsimp only[bJ.k1]at hr ht
  refine(dG ht ?_)
  refine A_s ?_
  refine bk ?_
  obtain rfl:=hD _ hr
  exact(aN (aU (os':=[]) (sl:=[(4,.cv (.val (.int .u8 (v.toNat:Int))))]) hwf) ⟨rfl,aE hwf⟩)
 ·refine aw (cb (fun xX:(UInt8×Int)=>⟨[(0,vL dM l),(1,vI r),(5,.cv (.val (.int .u8 (xX.1.toNat:Int)))),(6,vI xX.2)],h.on []⟩) hr A_c (fun W1 xX hr=>?_))
  obtain⟨v1,i⟩:=xX
  dsimp only[bJ.b1]at hr
  refine al (A_s ?_)
  refine ak hr (fun cF1 hr=>?_) (fun cF1 hr=>?_)
  ·refine az (w_n (al (w_K (D:=(Aft W1 D)) (fun xX:UInt8=>⟨[(0,vL dM l),(1,vI r),(5,.cv (.val (.int .u8 (xX.toNat:Int)))),(6,vI i)],h.on []⟩) (fun xX:UInt8=>bJ.k2 i xX) (fun v2 s' hr ht=>?_) ?_)))
   ·dsimp only[bJ.k2]at hr ht
    refine(dG ht ?_)
    refine aC ?_
    exact(w_k ⟨(v2,(IntKind.i64.wrap (i+(1:Int)))),hr,A_c⟩)
   ·refine aw ?_
    obtain⟨v3,vF6,hr⟩:=hr.bind
    refine cf (sj:=⟨[(0,vL dM l),(1,vI r),(5,.cv (.val (.int .u8 (v1.toNat:Int)))),(6,vI i),(28,vB v3)],h.on []⟩) (cB ?_) ?_
    ·have hr:=Holds.intro (D:=fun z=>z=v3) vF6 rfl
     obtain⟨x,nF2,eF3,gF4,hr⟩:=hr.idx
     refine aG 8 ?_
     rcases hr.ite with⟨cF5,hr⟩|⟨cF5,hr⟩
     ·refine aj ?_
      obtain rfl:_=v3:=hr
      exact w_k A_c
     ·refine aj ?_
      obtain rfl:_=v3:=hr
      exact w_k A_c
    refine ak hr (fun cF7 hr=>?_) (fun cF7 hr=>?_)
    ·obtain⟨x1,nF8,eF9,gF10,hr⟩:=hr.idx
     refine aC ?_
     exact(dC (w_k ⟨x1.Value,hr,A_c⟩))
    ·exact az (dC (w_k ⟨v1,hr,A_c⟩))
  ·exact ca (cX (cX (fm (w_k ⟨v1,(hr).map,A_c⟩))))
theorem kH(l:List bZ) (k:Int) {h:bn} {a:List bZ} (e:bv l k=some a):
  cq CT 170 [vL dM l,vI k] h fun o h'=>o=[vL dM a]∧h'=h:=by
 refine bg Tryz.func170 fun hwf hu=>?_
 obtain⟨D,hD,hr⟩:=Holds.one e
 dsimp only[bv]at hr
 change aO _ _ _ _ _ ⟨[(0,vL dM l),(1,vI k)],h.on []⟩
 iterate 2 refine A_s ?_
 refine al (A_s ?_)
 refine w_K (D:=D) (fun xX:List bZ=>⟨[(5,.cv (.row 115 (List.map dM xX)))],h.on []⟩) (fun xX:List bZ=>bv.k1 xX) (fun out s' hr ht=>?_) ?_
 ·dsimp only[bv.k1]at hr ht
  refine(dG ht ?_)
  refine A_s ?_
  refine bk ?_
  obtain rfl:=hD _ hr
  exact(aN (.fix _ _ (.slot 4) 115 _ kB (aU (os':=[]) (sl:=[(4,vL dM out)]) hwf)) ⟨rfl,aE hwf⟩)
 ·refine aw (cb (fun xX:(List bZ×Int)=>⟨[(0,vL dM l),(1,vI k),(5,.cv (.row 115 (List.map dM xX.1))),(6,vI xX.2)],h.on []⟩) hr A_c (fun W1 xX hr=>?_))
  obtain⟨out1,i⟩:=xX
  dsimp only[bv.b1]at hr
  refine al (A_s ?_)
  refine ak hr (fun cF1 hr=>?_) (fun cF1 hr=>?_)
  ·refine az (w_n (al (w_K (D:=(Aft W1 D)) (fun xX:List bZ=>⟨[(0,vL dM l),(1,vI k),(5,.cv (.row 115 (List.map dM xX))),(6,vI i)],h.on []⟩) (fun xX:List bZ=>bv.k2 i xX) (fun out2 s' hr ht=>?_) ?_)))
   ·dsimp only[bv.k2]at hr ht
    refine(dG ht ?_)
    refine aC ?_
    exact(w_k ⟨(out2,(IntKind.i64.wrap (i+(1:Int)))),hr,A_c⟩)
   ·refine aw ?_
    obtain⟨v,vF6,hr⟩:=hr.bind
    refine cf (sj:=⟨[(0,vL dM l),(1,vI k),(5,.cv (.row 115 (List.map dM out1))),(6,vI i),(31,vB v)],h.on []⟩) (cB ?_) ?_
    ·have hr:=Holds.intro (D:=fun z=>z=v) vF6 rfl
     obtain⟨x,nF2,eF3,gF4,hr⟩:=hr.idx
     refine aG 9 ?_
     rcases hr.ite with⟨cF5,hr⟩|⟨cF5,hr⟩
     ·refine aj ?_
      obtain rfl:_=v:=hr
      exact w_k A_c
     ·refine aj ?_
      obtain rfl:_=v:=hr
      exact w_k A_c
    refine ak hr (fun cF7 hr=>?_) (fun cF7 hr=>?_)
    ·obtain⟨x1,nF8,eF9,gF10,hr⟩:=hr.idx
     obtain⟨nF11,hr⟩:=hr.room
     refine aC ?_
     exact(dC (w_k ⟨(out1++([x1])),hr,A_c⟩))
    ·exact az (dC (w_k ⟨out1,hr,A_c⟩))
  ·exact ca (cX (cX (fm (w_k ⟨out1,(hr).map,A_c⟩))))
end Go.Val
namespace Go.Val
theorem jz(t:ba)(b:List UInt8)(l0:Nat){h:bn}(ha0:h.at_ l0=some (.cells [.row 5 (List.map eU t.First),.row 3 (List.map eI t.Like)])){a:Int}(e:dc t b=some a):
  cq CT 197 [vP l0,vL eU b] h fun o h'=>o=[vI a]∧h'=h:=
 cq.hand (C:=CT) (show tU 197 _ h _ h from⟨rfl,.inr (.inl ⟨rfl,l0,t,b,a,rfl,ha0,e,rfl⟩)⟩) ⟨rfl,rfl⟩
end Go.Val
namespace Go.Val
set_option maxRecDepth 20000
open Go.Proofs
theorem ku(t:ba)(b:List UInt8)(l0:Nat){h:bn}(ha0:h.at_ l0=some (.cells [.row 5 (List.map eU t.First),.row 3 (List.map eI t.Like)])){a:ba}(e:cg t b=some a):
  cq CT 132 [vP l0,vL eU b] h fun o h'=>o=[]∧h'=(h.upd l0 (.cells [.row 5 (List.map eU a.First),.row 3 (List.map eI a.Like)])):=by
 refine bg Tryz.func132 fun hwf hu=>?_
 have hl0:=(hwf _ _ ha0).1
 have kl0:=kZ hl0
 have ku0:=aaK hl0 ha0
 obtain⟨D,hD,hr⟩:=Holds.one e
 dsimp only[cg]at hr
 change aO _ _ _ _ _ ⟨[(0,vP l0),(1,vL eU b)],h.on []⟩
 refine fD 2 ?_
 obtain⟨r,eF1,hr⟩:=hr.bind
 refine aT (out:=?o1) (hp:=?p1) ?c1 ?d1 ?_
 case c1=>(refine jz t b (l0) ?_ eF1;exact cN)
 case d1=>rfl
 refine fj ?_
 refine al (A_s ?_)
 refine w_K (D:=D) (fun xX:(Int×List UInt8)=>⟨[(0,vP l0),(4,vI xX.1)],(h.upd l0 (.cells [.row 5 (List.map eU xX.2),.row 3 (List.map eI t.Like)])).on []⟩) (fun xX:(Int×List UInt8)=>cg.k1 t xX.1 xX.2) (fun xX s' hr ht=>?_) ?_
 ·obtain⟨k,First⟩:=xX
  dsimp only[cg.k1]at hr ht
  refine(dG ht ?_)
  obtain⟨nF2,hr⟩:=hr.room
  refine aC ?_
  obtain rfl:=hD _ hr
  exact(aqy (aU (os':=[]) (sl:=[]) (h:=(h.upd l0 (.cells [.row 5 (List.map eU First),.row 3 (List.map eI (t.Like++([k])))]))) (ft hwf hl0)) ⟨rfl,aE (ft hwf hl0)⟩)
 ·refine ak hr (fun cF3 hr=>?_) (fun cF3 hr=>?_)
  ·refine al ?_
   refine kM rfl (by simp (disch:=(apply dd.mk;decide)) only[go_sem,Nat.reduceAdd,Nat.reduceLT,Nat.reduceMul,Nat.reduceLeDiff,Int.reduceToNat,Int.reduceLT,Int.reduceLE,ha0,fc hl0,fq hl0,jh hl0,fT hl0,jJ hl0,gI hl0,fh ha0,(eq_false (by decide:¬ ((256:Int)=0))),cF3];rfl) ?_
   refine w_n ?_
   obtain⟨nF4,hr⟩:=hr.room
   refine aC ?_
   exact(w_k ⟨((IntKind.i64.wrap (Int.tdiv (t.First.length:Int) (256:Int))),(t.First++b)),hr,(aU (ft hwf hl0))⟩)
  ·exact az (w_k ⟨(r,t.First),hr,(aU (ft hwf hl0))⟩)
theorem iv(l:List bZ) {h:bn} {a:(Option ba×Int)} (e:aq l=some a):
  cq CT 100 [vL dM l] h fun o h'=>match a.1 with|none=>o=[.cv (.val (.ptr none)),vI a.2]∧h'=h|some y=>o=[vP (h.n+0),vI a.2]∧h'=h.on [some (.cells [.row 5 (List.map eU y.First),.row 3 (List.map eI y.Like)])]:=by
 refine bg Tryz.func100 fun hwf hu=>?_
 obtain⟨D,hD,hr⟩:=Holds.one e
 dsimp only[aq]at hr
 change aO _ _ _ _ _ ⟨[(0,vL dM l)],h.on []⟩
 refine A_s ?_
 refine al (A_s ?_)
 refine ak hr (fun cF1 hr=>?_) (fun cF1 hr=>?_)
 ·refine A_s ?_
  refine bk ?_
  obtain rfl:=hD _ hr
  exact(cm (aN (aU (os':=[]) (sl:=[(2,.cv (.val (.ptr none))),(3,vI (3:Int))]) hwf) ⟨rfl,aE hwf⟩))
 ·refine az (w_n (al (A_s ?_)))
  refine w_K (D:=D) (fun xX:Unit=>⟨[(0,vL dM l)],h.on []⟩) (fun xX:Unit=>aq.k1 l) (fun xX s' hr ht=>?_) ?_
  ·dsimp only[aq.k1]at hr ht
   refine(dG ht ?_)
   refine A_s ?_
   refine al (A_s ?_)
   refine w_K (D:=D) (fun xX:(List UInt8×List Int)=>⟨[(5,vP (h.n+0))],h.on [some (.cells [.row 5 (List.map eU xX.1),.row 3 (List.map eI xX.2)])]⟩) (fun xX:(List UInt8×List Int)=>aq.k2 xX.1 xX.2) (fun xX s' hr ht=>?_) ?_
   ·obtain⟨First,Like⟩:=xX
    dsimp only[aq.k2]at hr ht
    refine(dG ht ?_)
    refine A_s ?_
    refine bk ?_
    obtain rfl:=hD _ hr
    exact(rD (aU (os':=[some (.cells [.row 5 (List.map eU First),.row 3 (List.map eI Like)])]) (sl:=[(2,vP (h.n+0)),(3,vI (0:Int))]) hwf) cN ⟨rfl,rfl⟩)
   ·refine aw (cb (fun xX:(Int×List UInt8×List Int)=>⟨[(0,vL dM l),(5,vP (h.n+0)),(6,vI xX.1)],h.on [some (.cells [.row 5 (List.map eU xX.2.1),.row 3 (List.map eI xX.2.2)])]⟩) hr A_c (fun W1 xX hr=>?_))
    obtain⟨k,First1,Like1⟩:=xX
    dsimp only[aq.b1]at hr
    refine al (A_s ?_)
    refine ak hr (fun cF2 hr=>?_) (fun cF2 hr=>?_)
    ·refine az (w_n (al (w_K (D:=(Aft W1 D)) (fun xX:(List UInt8×List Int)=>⟨[(0,vL dM l),(5,vP (h.n+0)),(6,vI k)],h.on [some (.cells [.row 5 (List.map eU xX.1),.row 3 (List.map eI xX.2)])]⟩) (fun xX:(List UInt8×List Int)=>aq.k3 k xX.1 xX.2) (fun xX s' hr ht=>?_) ?_)))
     ·obtain⟨First2,Like2⟩:=xX
      dsimp only[aq.k3]at hr ht
      refine(dG ht ?_)
      refine aC ?_
      exact(w_k ⟨((IntKind.i64.wrap (k+(1:Int))),First2,Like2),hr,A_c⟩)
     ·refine aw (fD 2 ?_)
      obtain⟨r,eF3,hr⟩:=hr.bind
      refine aT (out:=?o3) (hp:=?p3) ?c3 ?d3 ?_
      case c3=>exact kH l k eF3
      case d3=>rfl
      refine fj ?_
      refine al ?_
      obtain⟨nF4,nF5,hr⟩:=hr.mk
      refine A_n ?_
      refine al (A_s ?_)
      refine w_K (D:=(Aft W1 D)) (fun xX:List UInt8=>⟨[(0,vL dM l),(5,vP (h.n+0)),(6,vI k),(8,.cv (.row 5 (List.map eU xX)))],h.on [some (.cells [.row 5 (List.map eU First1),.row 3 (List.map eI Like1)])]⟩) (fun xX:List UInt8=>aq.k4 k First1 Like1 xX) (fun b s' hr ht=>?_) ?_
      ·dsimp only[aq.k4]at hr ht
       refine(dG ht ?_)
       refine fD 2 ?_
       obtain⟨r1,eF6,hr⟩:=hr.bind
       refine aT (out:=?o6) (hp:=?p6) ?c6 ?d6 ?_
       case c6=>(refine ku (ba.mk First1 Like1) b (h.n+0) ?_ eF6;exact cN)
       case d6=>rfl
       refine dA ?_
       refine w_n (A_s ?_)
       refine ak hr (fun cF7 hr=>?_) (fun cF7 hr=>?_)
       ·refine A_s ?_
        refine bk ?_
        obtain rfl:=hD _ hr
        exact(fa (cm (cm (cm (fa (cm (cm (aN (aU (os':=[]) (sl:=[(2,.cv (.val (.ptr none))),(3,vI (3:Int))]) hwf) ⟨rfl,aE hwf⟩))))))))
       ·exact az (dC (w_k ⟨(r1.First,r1.Like),hr,A_c⟩))
      ·refine aw (cb (fun xX:(List UInt8×Int)=>⟨[(0,vL dM l),(5,vP (h.n+0)),(6,vI k),(7,vL dM r),(8,.cv (.row 5 (List.map eU xX.1))),(9,vI xX.2)],h.on [some (.cells [.row 5 (List.map eU First1),.row 3 (List.map eI Like1)])]⟩) hr A_c (fun W2 xX hr=>?_))
       obtain⟨b1,i⟩:=xX
       dsimp only[aq.b2]at hr
       refine al (cf (sj:=⟨[(0,vL dM l),(5,vP (h.n+0)),(6,vI k),(7,vL dM r),(8,.cv (.row 5 (List.map eU b1))),(9,vI i),(62,vB ((decide (i < (256:Int)))&&(decide ((r.length:Int) > (0:Int)))))],h.on [some (.cells [.row 5 (List.map eU First1),.row 3 (List.map eI Like1)])]⟩) (cB ?_) ?_)
       ·refine aG 3 ?_
        rcases Bool.eq_false_or_eq_true (decide (i < (256:Int)))with cF8|cF8
        ·refine aj ?_
         exact w_k A_c
        ·refine aj ?_
         exact w_k A_c
       refine ak hr (fun cF9 hr=>?_) (fun cF9 hr=>?_)
       ·refine az (w_n (al (aw (cB ?_))))
        refine aG 7 ?_
        obtain⟨r2,eF10,hr⟩:=hr.bind
        refine aT (out:=?o10) (hp:=?p10) ?c10 ?d10 ?_
        case c10=>exact lI r (IntKind.i64.wrap ((IntKind.i64.wrap (k*(256:Int)))+i)) eF10
        case d10=>rfl
        obtain⟨n,nF11,eF12,gF13,hr⟩:=hr.idx
        refine aj ?_
        refine(dC (w_n ?_))
        refine aC ?_
        exact(w_k ⟨((List.set b1 (Int.toNat i) r2),(IntKind.i64.wrap (i+(1:Int)))),hr,A_c⟩)
       ·exact ca (cX (cX (fm (w_k ⟨b1,(hr).map,A_c⟩))))
    ·exact ca (cX (cX (fm (w_k ⟨(First1,Like1),(hr).map,A_c⟩))))
  ·refine aw (cb (fun xX:Int=>⟨[(0,vL dM l),(4,vI xX)],h.on []⟩) hr A_c (fun W3 i1 hr=>?_))
   dsimp only[aq.b3]at hr
   refine al (A_s ?_)
   refine ak hr (fun cF14 hr=>?_) (fun cF14 hr=>?_)
   ·refine az (w_n (al (aw ?_)))
    obtain⟨v1,vF20,hr⟩:=hr.bind
    refine cf (sj:=⟨[(0,vL dM l),(4,vI i1),(45,vB v1)],h.on []⟩) (cT [0,1,2,3,4,5,6,7,8,9,10,11,12,13,14,15,16,17,18,19,20,21,22,23,24,25,26] (by rfl) ?_) ?_
    ·have hr:=Holds.intro (D:=fun z=>z=v1) vF20 rfl
     obtain⟨x,nF15,eF16,gF17,hr⟩:=hr.idx
     refine bU [0,1,2,3,4,5,6] [6,5,4,3,2,1,0] ?_
     rcases hr.ite with⟨cF18,hr⟩|⟨cF18,hr⟩
     ·refine bU [7,8,9,10,11,12,13,14,15,16,17,18,19,20,21,22,23,24,25,26] [26,25,24,23,22,21,20,19,18,17,16,15,14,13,12,11,10,9,8,7,6,5,4,3,2,1,0] ?_
      refine df ?_
      obtain rfl:_=v1:=hr
      exact w_k A_c
     ·refine bU [7,8,9,10,11,12,13,14] [14,13,12,11,10,9,8,7,6,5,4,3,2,1,0] ?_
      rcases hr.ite with⟨cF19,hr⟩|⟨cF19,hr⟩
      ·refine bU [15,16,17,18,19,20,21,22,23,24,25,26] [26,25,24,23,22,21,20,19,18,17,16,15,14,13,12,11,10,9,8,7,6,5,4,3,2,1,0] ?_
       refine df ?_
       obtain rfl:_=v1:=hr
       exact w_k A_c
      ·refine bU [15,16,17,18,19,20,21,22,23,24,25,26] [26,25,24,23,22,21,20,19,18,17,16,15,14,13,12,11,10,9,8,7,6,5,4,3,2,1,0] ?_
       refine df ?_
       obtain rfl:_=v1:=hr
       exact w_k A_c
    refine ak hr (fun cF21 hr=>?_) (fun cF21 hr=>?_)
    ·refine A_s ?_
     refine bk ?_
     obtain rfl:=hD _ hr
     exact(fa (cm (cm (fa (cm (cm (aN (aU (os':=[]) (sl:=[(2,.cv (.val (.ptr none))),(3,vI (1:Int))]) hwf) ⟨rfl,aE hwf⟩)))))))
    ·refine az (dC (w_n ?_))
     refine aC ?_
     exact(w_k ⟨(IntKind.i64.wrap (i1+(1:Int))),hr,A_c⟩)
   ·exact ca (cX (cX (fm (w_k ⟨(),(hr).map,A_c⟩))))
theorem jA(l:List bZ){h:bn}{a:(Option ba×Int)}(e:aq l=some a)(hx:a.1=none):
  cq CT 100 [vL dM l] h fun o h'=>o=[.cv (.val (.ptr none)),vI a.2]∧h'=h:=by
 have:=iv (h:=h) l e
 rw[hx]at this
 exact this
theorem jE(l:List bZ){h:bn}{a:(Option ba×Int)}{y:ba}(e:aq l=some a)(hx:a.1=some y):
  cq CT 100 [vL dM l] h fun o h'=>o=[vP (h.n+0),vI a.2]∧h'=h.on [some (.cells [.row 5 (List.map eU y.First),.row 3 (List.map eI y.Like)])]:=by
 have:=iv (h:=h) l e
 rw[hx]at this
 exact this
theorem jg(t:List (List ah)) {h:bn} {a:(Option aS×Int)} (e:av t=some a):
  cq CT 41 [vL (eL ay) t] h fun o h'=>match a.1 with|none=>o=[.cv (.val (.ptr none)),vI a.2]∧h'=h|some y=>o=[vP (h.n+0),vI a.2]∧h'=h.on [some (.cells [wL (eL ay) y.Sets,wL (eK .u64) y.M,wL eI y.First])]:=by
 refine bg Tryz.func41 fun hwf hu=>?_
 obtain⟨D,hD,hr⟩:=Holds.one e
 dsimp only[av]at hr
 change aO _ _ _ _ _ ⟨[(0,vL (eL ay) t)],h.on []⟩
 refine A_s ?_
 refine al (A_s ?_)
 refine ak hr (fun cF1 hr=>?_) (fun cF1 hr=>?_)
 ·refine A_s ?_
  refine bk ?_
  obtain rfl:=hD _ hr
  exact(cm (aN (aU (os':=[]) (sl:=[(2,.cv (.val (.ptr none))),(3,vI (3:Int))]) hwf) ⟨rfl,aE hwf⟩))
 ·refine az (w_n (al (A_s ?_)))
  refine w_K (D:=D) (fun xX:Unit=>⟨[(0,vL (eL ay) t)],h.on []⟩) (fun xX:Unit=>av.k1 t) (fun xX s' hr ht=>?_) ?_
  ·dsimp only[av.k1]at hr ht
   refine(dG ht ?_)
   refine A_s ?_
   refine fD 1 ?_
   obtain⟨r,eF2,hr⟩:=hr.bind
   refine aT (out:=?o2) (hp:=?p2) ?c2 ?d2 ?_
   case c2=>exact lw t eF2
   case d2=>rfl
   refine fj ?_
   refine A_s ?_
   refine al (A_s ?_)
   refine w_K (D:=D) (fun xX:(List bZ×List Int×List Int)=>⟨[(8,vP (h.n+0)),(10,.cv (.row 115 (List.map dM xX.1)))],h.on [some (.cells [wL (eL ay) t,.row 152 (List.map (eK .u64) xX.2.1),.row 3 (List.map eI xX.2.2)])]⟩) (fun xX:(List bZ×List Int×List Int)=>av.k2 t xX.1 xX.2.1 xX.2.2) (fun xX s' hr ht=>?_) ?_
   ·obtain⟨v,M,First⟩:=xX
    dsimp only[av.k2]at hr ht
    refine(dG ht ?_)
    refine fD 1 ?_
    obtain⟨r1,eF3,hr⟩:=hr.bind
    try dsimp only at hr
    rcases xF6:r1.1 with _|y
    ·rw[xF6]at hr
     dsimp only at hr
     refine aT (out:=?o_eF3a) (hp:=?p_eF3a) ?c_eF3a ?d_eF3a ?_
     case c_eF3a=>exact jA v eF3 xF6
     case d_eF3a=>rfl
     refine fj ?_
     refine al (A_s ?_)
     refine ak hr (fun cF4 hr=>?_) (fun cF4 hr=>?_)
     ·refine A_s ?_
      refine bk ?_
      obtain rfl:=hD _ hr
      exact(cm (aN (aU (os':=[]) (sl:=[(2,.cv (.val (.ptr none))),(3,vI (3:Int))]) hwf) ⟨rfl,aE hwf⟩))
     ·refine az (w_n (A_s ?_))
      refine bk ?_
      obtain rfl:=hD _ hr
      exact(rD (.fix _ _ (.cell (h.n+0) 1) 152 _ kB (.fix _ _ (.cell (h.n+0) 2) 3 _ kB (aU (os':=[some (.cells [wL (eL ay) t,wL (eK .u64) M,wL eI First])]) (sl:=[(2,vP (h.n+0)),(3,vI (0:Int))]) hwf))) cN ⟨rfl,rfl⟩)
    ·rw[xF6]at hr
     dsimp only at hr
     refine aT (out:=?o_eF3b) (hp:=?p_eF3b) ?c_eF3b ?d_eF3b ?_
     case c_eF3b=>exact jE v eF3 xF6
     case d_eF3b=>rfl
     refine fj ?_
     refine al (A_s ?_)
     refine ak hr (fun cF5 hr=>?_) (fun cF5 hr=>?_)
     ·refine A_s ?_
      refine bk ?_
      obtain rfl:=hD _ hr
      exact(cm (aN (aU (os':=[]) (sl:=[(2,.cv (.val (.ptr none))),(3,vI (3:Int))]) hwf) ⟨rfl,aE hwf⟩))
     ·refine az (w_n (A_s ?_))
      refine bk ?_
      obtain rfl:=hD _ hr
      exact(rD (.fix _ _ (.cell (h.n+0) 1) 152 _ kB (.fix _ _ (.cell (h.n+0) 2) 3 _ kB (aU (os':=[some (.cells [wL (eL ay) t,wL (eK .u64) M,wL eI First])]) (sl:=[(2,vP (h.n+0)),(3,vI (0:Int))]) hwf))) cN ⟨rfl,rfl⟩)
   ·refine aw (cb (fun xX:(List bZ×Int×List Int×List Int)=>⟨[(0,vL (eL ay) t),(8,vP (h.n+0)),(9,vL eI r),(10,.cv (.row 115 (List.map dM xX.1))),(11,vI xX.2.1)],h.on [some (.cells [wL (eL ay) t,.row 152 (List.map (eK .u64) xX.2.2.1),.row 3 (List.map eI xX.2.2.2)])]⟩) hr A_c (fun W1 xX hr=>?_))
    obtain⟨v1,v2,M1,First1⟩:=xX
    dsimp only[av.b1]at hr
    refine al (A_s ?_)
    refine ak hr (fun cF7 hr=>?_) (fun cF7 hr=>?_)
    ·refine az (w_n (al (aw (al (cB ?_)))))
     obtain⟨n,nF8,eF9,gF10,hr⟩:=hr.idx
     refine aG 5 ?_
     obtain⟨r2,eF11,hr⟩:=hr.bind
     refine aT (out:=?o11) (hp:=?p11) ?c11 ?d11 ?_
     case c11=>exact iY t n eF11
     case d11=>rfl
     refine fj ?_
     refine fD 2 ?_
     obtain⟨r3,eF12,hr⟩:=hr.bind
     refine aT (out:=?o12) (hp:=?p12) ?c12 ?d12 ?_
     case c12=>(refine iW (aS.mk t M1 First1) r2 (h.n+0) ?_ eF12;exact cN)
     case d12=>rfl
     refine fj ?_
     refine al (A_s ?_)
     refine w_K (D:=(Aft W1 D)) (fun xX:(Int×List Int×List Int)=>⟨[(0,vL (eL ay) t),(8,vP (h.n+0)),(9,vL eI r),(10,.cv (.row 115 (List.map dM v1))),(11,vI v2),(13,vI xX.1)],h.on [some (.cells [wL (eL ay) t,.row 152 (List.map (eK .u64) xX.2.1),.row 3 (List.map eI xX.2.2)])]⟩) (fun xX:(Int×List Int×List Int)=>av.k3 r v1 v2 n xX.1 xX.2.1 xX.2.2) (fun xX s' hr ht=>?_) ?_
     ·obtain⟨v3,M2,First2⟩:=xX
      dsimp only[av.k3]at hr ht
      refine(dG ht ?_)
      refine al (A_s ?_)
      refine ak hr (fun cF13 hr=>?_) (fun cF13 hr=>?_)
      ·refine A_s ?_
       refine bk ?_
       obtain rfl:=hD _ hr
       exact(cm (fa (cm (cm (fa (cm (cm (aN (aU (os':=[]) (sl:=[(2,.cv (.val (.ptr none))),(3,vI (3:Int))]) hwf) ⟨rfl,aE hwf⟩))))))))
      ·refine az (w_n (A_s ?_))
       refine al (A_s ?_)
       refine w_K (D:=(Aft W1 D)) (fun xX:Int=>⟨[(0,vL (eL ay) t),(8,vP (h.n+0)),(9,vL eI r),(10,.cv (.row 115 (List.map dM v1))),(11,vI v2),(13,vI v3),(14,vI xX)],h.on [some (.cells [wL (eL ay) t,.row 152 (List.map (eK .u64) M2),.row 3 (List.map eI First2)])]⟩) (fun xX:Int=>av.k4 v1 v2 n v3 M2 First2 xX) (fun v4 s' hr ht=>?_) ?_
       ·dsimp only[av.k4]at hr ht
        refine(dG ht ?_)
        obtain⟨nF14,hr⟩:=hr.room
        refine aC ?_
        refine(dC (w_n ?_))
        refine aC ?_
        exact(w_k ⟨((v1++([(bZ.mk n v4 (u8 (IntKind.u8.wrap v3)))])),(IntKind.i64.wrap (v2+(1:Int))),M2,First2),hr,A_c⟩)
       ·refine ak hr (fun cF15 hr=>?_) (fun cF15 hr=>?_)
        ·obtain⟨n1,nF16,eF17,gF18,hr⟩:=hr.idx
         refine aC ?_
         exact(w_k ⟨(IntKind.i64.wrap (n1 - (1:Int))),hr,A_c⟩)
        ·exact az (w_k ⟨(1114111:Int),hr,A_c⟩)
     ·refine ak hr (fun cF19 hr=>?_) (fun cF19 hr=>?_)
      ·refine A_s ?_
       refine al ?_
       obtain⟨nF20,hr⟩:=hr.room
       refine A_n ?_
       refine cT [0,1,2,3,4,5,6,7,8,9,10,11,12,13] (by rfl) ?_
       obtain⟨nF21,hr⟩:=hr.room
       refine bU [0,1,2,3,4,5,6,7,8,9] [9,8,7,6,5,4,3,2,1,0] ?_
       refine dt [0] ?_
       refine bU [11,12] [12,11,0] ?_
       refine dt [] ?_
       refine df ?_
       exact(w_k ⟨((M1.length:Int),(M1++([r2])),(First1++([n]))),hr,A_c⟩)
      ·exact az (w_k ⟨(r3,M1,First1),hr,A_c⟩)
    ·exact ca (cX (cX (fm (w_k ⟨(v1,M1,First1),(hr).map,A_c⟩))))
  ·refine aw (cb (fun xX:Int=>⟨[(0,vL (eL ay) t),(4,vI xX)],h.on []⟩) hr A_c (fun W2 r4 hr=>?_))
   dsimp only[av.b2]at hr
   refine al (A_s ?_)
   refine ak hr (fun cF22 hr=>?_) (fun cF22 hr=>?_)
   ·refine az (w_n (al (aw (al (cB ?_)))))
    obtain⟨xs,nF23,eF24,gF25,hr⟩:=hr.idx
    refine aG 4 ?_
    obtain⟨r5,eF26,hr⟩:=hr.bind
    refine aT (out:=?o26) (hp:=?p26) ?c26 ?d26 ?_
    case c26=>exact my xs eF26
    case d26=>rfl
    refine fj ?_
    refine fD 5 ?_
    obtain⟨r6,eF27,hr⟩:=hr.bind
    refine aT (out:=?o27) (hp:=?p27) ?c27 ?d27 ?_
    case c27=>exact mQ r5.1 xs eF27
    case d27=>rfl
    refine fj ?_
    refine cf (sj:=⟨[(0,vL (eL ay) t),(4,vI r4),(45,vB ((r5.2 != (0:Int))||(!r6)))],h.on []⟩) (cB ?_) ?_
    ·refine aG 3 ?_
     rcases Bool.eq_false_or_eq_true (r5.2 != (0:Int))with cF28|cF28
     ·refine aj ?_
      exact w_k A_c
     ·refine aj ?_
      exact w_k A_c
    refine ak hr (fun cF29 hr=>?_) (fun cF29 hr=>?_)
    ·refine A_s ?_
     refine bk ?_
     obtain rfl:=hD _ hr
     exact(fa (cm (cm (fa (cm (cm (aN (aU (os':=[]) (sl:=[(2,.cv (.val (.ptr none))),(3,vI (1:Int))]) hwf) ⟨rfl,aE hwf⟩)))))))
    ·refine az (dC (w_n ?_))
     refine aC ?_
     exact(w_k ⟨(IntKind.i64.wrap (r4+(1:Int))),hr,A_c⟩)
   ·exact ca (cX (cX (fm (w_k ⟨(),(hr).map,A_c⟩))))
theorem kc(t:List (List ah)){h:bn}{a:(Option aS×Int)}(e:av t=some a)(hx:a.1=none):
  cq CT 41 [vL (eL ay) t] h fun o h'=>o=[.cv (.val (.ptr none)),vI a.2]∧h'=h:=by
 have:=jg (h:=h) t e
 rw[hx]at this
 exact this
theorem kv(t:List (List ah)){h:bn}{a:(Option aS×Int)}{y:aS}(e:av t=some a)(hx:a.1=some y):
  cq CT 41 [vL (eL ay) t] h fun o h'=>o=[vP (h.n+0),vI a.2]∧h'=h.on [some (.cells [wL (eL ay) y.Sets,wL (eK .u64) y.M,wL eI y.First])]:=by
 have:=jg (h:=h) t e
 rw[hx]at this
 exact this
theorem jc(a_:aS) (l:List Int) (l0:Nat) {h:bn} (ha0:h.at_ l0=some (.cells [wL (eL ay) a_.Sets,wL (eK .u64) a_.M,wL eI a_.First])) {a:List Int} (e:aK a_ l=some a):
  cq CT 42 [vP l0,vL eI l] h fun o h'=>o=[vL (eK .u64) a]∧h'=h:=by
 refine bg Tryz.func42 fun hwf hu=>?_
 have hl0:=(hwf _ _ ha0).1
 have kl0:=kZ hl0
 obtain⟨D,hD,hr⟩:=Holds.one e
 dsimp only[aK]at hr
 change aO _ _ _ _ _ ⟨[(0,vP l0),(1,vL eI l)],h.on []⟩
 iterate 2 refine A_s ?_
 refine al (A_s ?_)
 refine w_K (D:=D) (fun xX:List Int=>⟨[(5,.cv (.row 152 (List.map (eK .u64) xX)))],h.on []⟩) (fun xX:List Int=>aK.k1 xX) (fun out s' hr ht=>?_) ?_
 ·dsimp only[aK.k1]at hr ht
  refine(dG ht ?_)
  refine A_s ?_
  refine bk ?_
  obtain rfl:=hD _ hr
  exact(aN (.fix _ _ (.slot 4) 152 _ kB (aU (os':=[]) (sl:=[(4,vL (eK .u64) out)]) hwf)) ⟨rfl,aE hwf⟩)
 ·refine aw (cb (fun xX:(List Int×Int)=>⟨[(0,vP l0),(1,vL eI l),(5,.cv (.row 152 (List.map (eK .u64) xX.1))),(6,vI xX.2)],h.on []⟩) hr A_c (fun W1 xX hr=>?_))
  obtain⟨out1,i⟩:=xX
  dsimp only[aK.b1]at hr
  refine al (A_s ?_)
  refine ak hr (fun cF1 hr=>?_) (fun cF1 hr=>?_)
  ·refine az (w_n (al (w_K (D:=(Aft W1 D)) (fun xX:List Int=>⟨[(0,vP l0),(1,vL eI l),(5,.cv (.row 152 (List.map (eK .u64) xX))),(6,vI i)],h.on []⟩) (fun xX:List Int=>aK.k2 i xX) (fun out2 s' hr ht=>?_) ?_)))
   ·dsimp only[aK.k2]at hr ht
    refine(dG ht ?_)
    refine aC ?_
    exact(w_k ⟨(out2,(IntKind.i64.wrap (i+(1:Int)))),hr,A_c⟩)
   ·refine aw ?_
    obtain⟨v,vF6,hr⟩:=hr.bind
    refine cf (sj:=⟨[(0,vP l0),(1,vL eI l),(5,.cv (.row 152 (List.map (eK .u64) out1))),(6,vI i),(24,vB v)],h.on []⟩) (cB ?_) ?_
    ·have hr:=Holds.intro (D:=fun z=>z=v) vF6 rfl
     obtain⟨n,nF2,eF3,gF4,hr⟩:=hr.idx
     refine aG 6 ?_
     rcases hr.ite with⟨cF5,hr⟩|⟨cF5,hr⟩
     ·refine aj ?_
      obtain rfl:_=v:=hr
      exact w_k A_c
     ·refine aj ?_
      obtain rfl:_=v:=hr
      exact w_k A_c
    refine ak hr (fun cF7 hr=>?_) (fun cF7 hr=>?_)
    ·obtain⟨nF8,hr⟩:=hr.room
     refine aC ?_
     exact(dC (w_k ⟨(out1++([(0:Int)])),hr,A_c⟩))
    ·refine cT [0,1,2,3,4,5,6,7,8,9,10,11,12] (by rfl) ?_
     obtain⟨n1,nF9,eF10,gF11,hr⟩:=hr.idx
     refine bU [0,1,2,3,4,5,6,7,8] [8,7,6,5,4,3,2,1,0] ?_
     obtain⟨r,eF12,hr⟩:=hr.bind
     refine dO [0] (out:=?o12) (hp:=?p12) ?c12 ?d12 ?_
     case c12=>exact iY a_.Sets n1 eF12
     case d12=>rfl
     obtain⟨nF13,hr⟩:=hr.room
     refine bU [10] [10,0] ?_
     refine dt [] ?_
     refine dt [] ?_
     refine df ?_
     exact(dC (w_k ⟨(out1++([r])),hr,A_c⟩))
  ·exact ca (cX (cX (fm (w_k ⟨out1,(hr).map,A_c⟩))))
theorem kK:∀(fu:Nat) (n:aD) {h:bn} {a:Bool} (e:ar.r fu n=some a),
  cq CT 101 [.cv (.val (.agg [.int .i64 n.Kind,.int .i64 n.Set,.sl (List.map bW n.Kids)]))] h fun o h'=>o=[vB a]∧h'=h:=by
 intro fu
 induction fu with
 |zero=>intros;rename_i e;simp[ar.r]at e
 |succ fu ih=>
  intro n h a e
  refine bg Tryz.func101 fun hwf hu=>?_
  obtain⟨D,hD,hr⟩:=Holds.one e
  dsimp only[ar.r]at hr
  change aO _ _ _ _ _ ⟨[(0,.cv (.val (.agg [.int .i64 n.Kind,.int .i64 n.Set,.sl (List.map bW n.Kids)])))],h.on []⟩
  iterate 2 refine A_s ?_
  refine al (A_s ?_)
  refine w_K (D:=D) (fun xX:Unit=>⟨[(1,vP (h.n+0)),(3,vI (n.Kids.length:Int))],h.on [some (.cells [wI n.Kind,wI n.Set,wL bW n.Kids])]⟩) (fun xX:Unit=>ar.k1 (ar.r fu) n) (fun xX s' hr ht=>?_) ?_
  ·dsimp only[ar.k1]at hr ht
   refine(dG ht ?_)
   refine al (A_s ?_)
   refine w_K (D:=D) (fun xX:Unit=>⟨[],h.on []⟩) (fun xX:Unit=>ar.k2) (fun xX s' hr ht=>?_) ?_
   ·dsimp only[ar.k2]at hr ht
    refine(dG ht ?_)
    refine A_s ?_
    refine bk ?_
    obtain rfl:=hD _ hr
    exact(aN (aU (os':=[]) (sl:=[(2,vB true)]) hwf) ⟨rfl,aE hwf⟩)
   ·refine aw (cb (fun xX:Int=>⟨[(1,vP (h.n+0)),(3,vI (n.Kids.length:Int)),(4,vI xX)],h.on [some (.cells [wI n.Kind,wI n.Set,wL bW n.Kids])]⟩) hr A_c (fun W1 i hr=>?_))
    dsimp only[ar.b1]at hr
    refine al (A_s ?_)
    refine ak hr (fun cF1 hr=>?_) (fun cF1 hr=>?_)
    ·refine az (w_n (al (aw (al (cB ?_)))))
     obtain⟨x,nF2,eF3,gF4,hr⟩:=hr.idx
     refine aG 5 ?_
     obtain⟨r,eF5,hr⟩:=hr.bind
     refine aT (out:=?o5) (hp:=?p5) ?c5 ?d5 ?_
     case c5=>exact ih x eF5
     case d5=>rfl
     refine fj ?_
     refine A_s ?_
     refine ak hr (fun cF6 hr=>?_) (fun cF6 hr=>?_)
     ·refine A_s ?_
      refine bk ?_
      obtain rfl:=hD _ hr
      exact(fa (cm (cm (fa (cm (cm (aN (aU (os':=[]) (sl:=[(2,vB false)]) hwf) ⟨rfl,aE hwf⟩)))))))
     ·refine az (dC (w_n ?_))
      refine aC ?_
      exact(w_k ⟨(IntKind.i64.wrap (i+(1:Int))),hr,A_c⟩)
    ·exact ca (cX (cX (fm (w_k ⟨(),(hr).map,A_c⟩))))
  ·refine aw (A_s ?_)
   refine ak hr (fun cF7 hr=>?_) (fun cF7 hr=>?_)
   ·refine cf (sj:=⟨[(2,vB (((n.Kids.length:Int)==(0:Int))&&((decide (n.Set≥(0:Int)))&&(decide (n.Set≤(63:Int))))))],h.on []⟩) (cB ?_) ?_
    ·refine aG 3 ?_
     rcases Bool.eq_false_or_eq_true ((n.Kids.length:Int)==(0:Int))with cF8|cF8
     ·refine aG 5 ?_
      rcases Bool.eq_false_or_eq_true (decide (n.Set≥(0:Int)))with cF9|cF9
      ·refine aj ?_
       exact w_k A_c
      ·refine aj ?_
       exact w_k A_c
     ·refine aj ?_
      exact w_k A_c
    refine bk ?_
    obtain rfl:=hD _ hr
    exact(fa (cm (cm (aN (aU (os':=[]) (sl:=[(2,vB (((n.Kids.length:Int)==(0:Int))&&((decide (n.Set≥(0:Int)))&&(decide (n.Set≤(63:Int))))))]) hwf) ⟨rfl,aE hwf⟩))))
   ·refine A_s ?_
    refine ak hr (fun cF10 hr=>?_) (fun cF10 hr=>?_)
    ·exact az (dC (w_k ⟨(),hr,A_c⟩))
    ·refine A_s ?_
     refine ak hr (fun cF11 hr=>?_) (fun cF11 hr=>?_)
     ·refine A_s ?_
      refine ak hr (fun cF12 hr=>?_) (fun cF12 hr=>?_)
      ·refine A_s ?_
       refine bk ?_
       obtain rfl:=hD _ hr
       exact(fa (cm (cm (aN (aU (os':=[]) (sl:=[(2,vB false)]) hwf) ⟨rfl,aE hwf⟩))))
      ·exact az (dC (w_k ⟨(),hr,A_c⟩))
     ·refine al (A_s ?_)
      refine w_K (D:=D) (fun xX:Bool=>⟨[(1,vP (h.n+0)),(3,vI (n.Kids.length:Int)),(31,vB xX)],h.on [some (.cells [wI n.Kind,wI n.Set,wL bW n.Kids])]⟩) (fun xX:Bool=>ar.k3 (ar.r fu) n xX) (fun v1 s' hr ht=>?_) ?_
      ·dsimp only[ar.k3]at hr ht
       refine(dG ht ?_)
       refine ak hr (fun cF13 hr=>?_) (fun cF13 hr=>?_)
       ·refine A_s ?_
        refine ak hr (fun cF14 hr=>?_) (fun cF14 hr=>?_)
        ·refine A_s ?_
         refine bk ?_
         obtain rfl:=hD _ hr
         exact(fa (cm (cm (aN (aU (os':=[]) (sl:=[(2,vB false)]) hwf) ⟨rfl,aE hwf⟩))))
        ·exact az (dC (w_k ⟨(),hr,A_c⟩))
       ·refine A_s ?_
        refine bk ?_
        obtain rfl:=hD _ hr
        exact(fa (cm (cm (aN (aU (os':=[]) (sl:=[(2,vB false)]) hwf) ⟨rfl,aE hwf⟩))))
      ·refine ak hr (fun cF15 hr=>?_) (fun cF15 hr=>?_)
       ·exact az (w_k ⟨(n.Kind==(3:Int)),hr,A_c⟩)
       ·refine A_s ?_
        refine ak hr (fun cF16 hr=>?_) (fun cF16 hr=>?_)
        ·exact az (w_k ⟨(n.Kind==(4:Int)),hr,A_c⟩)
        ·refine aC ?_
         exact(w_k ⟨(n.Kind==(5:Int)),hr,A_c⟩)
theorem iC(n:aD){h:bn}{a:Bool}(e:ar n=some a):
  cq CT 101 [.cv (.val (.agg [.int .i64 n.Kind,.int .i64 n.Set,.sl (List.map bW n.Kids)]))] h fun o h'=>o=[vB a]∧h'=h:=by
 obtain⟨fuN,fuH⟩:=jK e
 exact kK fuN n (fuH fuN (nR fuN))
theorem fH(a_:List Bool){h:bn}{a:Bool}(e:bD a_=some a):
  cq CT 103 [vL eB a_] h fun o h'=>o=[vB a]∧h'=h:=by
 refine bg Tryz.func103 fun hwf hu=>?_
 obtain⟨D,hD,hr⟩:=Holds.one e
 dsimp only[bD]at hr
 change aO _ _ _ _ _ ⟨[(0,vL eB a_)],h.on []⟩
 iterate 2 refine A_s ?_
 refine al (A_s ?_)
 refine w_K (D:=D) (fun xX:Bool=>⟨[(3,vB xX)],h.on []⟩) (fun xX:Bool=>bD.k1 xX) (fun is s' hr ht=>?_) ?_
 ·dsimp only[bD.k1]at hr ht
  refine(dG ht ?_)
  refine A_s ?_
  refine bk ?_
  obtain rfl:=hD _ hr
  exact(aN (aU (os':=[]) (sl:=[(2,vB is)]) hwf) ⟨rfl,aE hwf⟩)
 ·refine aw (cb (fun xX:(Bool×Int)=>⟨[(0,vL eB a_),(3,vB xX.1),(4,vI xX.2)],h.on []⟩) hr A_c (fun W1 xX hr=>?_))
  obtain⟨is1,i⟩:=xX
  dsimp only[bD.b1]at hr
  refine al (A_s ?_)
  refine ak hr (fun cF1 hr=>?_) (fun cF1 hr=>?_)
  ·refine az (w_n (al (w_K (D:=(Aft W1 D)) (fun xX:Bool=>⟨[(0,vL eB a_),(3,vB xX),(4,vI i)],h.on []⟩) (fun xX:Bool=>bD.k2 i xX) (fun is2 s' hr ht=>?_) ?_)))
   ·dsimp only[bD.k2]at hr ht
    refine(dG ht ?_)
    refine aC ?_
    exact(w_k ⟨(is2,(IntKind.i64.wrap (i+(1:Int)))),hr,A_c⟩)
   ·refine aw (cB ?_)
    refine aG 2 ?_
    rcases hr.ite with⟨cF2,hr⟩|⟨cF2,hr⟩
    ·refine aj ?_
     exact(dC (w_k ⟨true,hr,A_c⟩))
    ·obtain⟨b,nF3,eF4,gF5,hr⟩:=hr.idx
     refine aj ?_
     exact(dC (w_k ⟨b,hr,A_c⟩))
  ·exact ca (cX (cX (fm (w_k ⟨is1,(hr).map,A_c⟩))))
theorem eo(a_:List Bool)(b:List Bool){h:bn}{a:List Bool}(e:bc a_ b=some a):
  cq CT 172 [vL eB a_,vL eB b] h fun o h'=>o=[vL eB a]∧h'=h:=by
 refine bg Tryz.func172 fun hwf hu=>?_
 obtain⟨D,hD,hr⟩:=Holds.one e
 dsimp only[bc]at hr
 change aO _ _ _ _ _ ⟨[(0,vL eB a_),(1,vL eB b)],h.on []⟩
 refine A_s ?_
 refine al ?_
 obtain⟨nF1,nF2,hr⟩:=hr.mk
 refine A_n ?_
 refine al (A_s ?_)
 refine w_K (D:=D) (fun xX:List Bool=>⟨[(5,.cv (.row 4 (List.map eB xX)))],h.on []⟩) (fun xX:List Bool=>bc.k1 xX) (fun out s' hr ht=>?_) ?_
 ·dsimp only[bc.k1]at hr ht
  refine(dG ht ?_)
  refine A_s ?_
  refine bk ?_
  obtain rfl:=hD _ hr
  exact(aN (.fix _ _ (.slot 4) 4 _ kB (aU (os':=[]) (sl:=[(4,vL eB out)]) hwf)) ⟨rfl,aE hwf⟩)
 ·refine aw (cb (fun xX:(List Bool×Int)=>⟨[(0,vL eB a_),(1,vL eB b),(5,.cv (.row 4 (List.map eB xX.1))),(6,vI xX.2)],h.on []⟩) hr A_c (fun W1 xX hr=>?_))
  obtain⟨out1,i⟩:=xX
  dsimp only[bc.b1]at hr
  refine al (A_s ?_)
  refine ak hr (fun cF3 hr=>?_) (fun cF3 hr=>?_)
  ·refine az (w_n (al (w_K (D:=(Aft W1 D)) (fun xX:List Bool=>⟨[(0,vL eB a_),(1,vL eB b),(5,.cv (.row 4 (List.map eB xX))),(6,vI i)],h.on []⟩) (fun xX:List Bool=>bc.k2 i xX) (fun out2 s' hr ht=>?_) ?_)))
   ·dsimp only[bc.k2]at hr ht
    refine(dG ht ?_)
    refine aC ?_
    exact(w_k ⟨(out2,(IntKind.i64.wrap (i+(1:Int)))),hr,A_c⟩)
   ·refine aw (cB ?_)
    obtain⟨b1,nF4,eF5,gF6,hr⟩:=hr.idx
    refine aG 7 ?_
    rcases hr.ite with⟨cF7,hr⟩|⟨cF7,hr⟩
    ·obtain⟨b2,nF8,eF9,gF10,hr⟩:=hr.idx
     refine aj ?_
     exact(dC (w_k ⟨(List.set out1 (Int.toNat i) true),hr,A_c⟩))
    ·obtain⟨b3,nF11,eF12,gF13,hr⟩:=hr.idx
     obtain⟨b4,nF14,eF15,gF16,hr⟩:=hr.idx
     refine aj ?_
     exact(dC (w_k ⟨(List.set out1 (Int.toNat i) b3),hr,A_c⟩))
  ·exact ca (cX (cX (fm (w_k ⟨out1,(hr).map,A_c⟩))))
theorem lj:∀(fu:Nat) (t:aD) (o:List Int) (A:List Bool) {h:bn} {a:List Bool} (e:ab.r fu t o A=some a),
  cq CT 102 [.cv (.val (.agg [.int .i64 t.Kind,.int .i64 t.Set,.sl (List.map bW t.Kids)])),.cv (.val (.sl (List.map (eK .u64) o))),.cv (.val (.sl (List.map eB A)))] h fun o h'=>o=[.cv (.val (.sl (List.map eB a)))]∧h'=h:=by
 intro fu
 induction fu with
 |zero=>intros;rename_i e;simp[ab.r]at e
 |succ fu ih=>
  intro t o A h a e
  refine bg Tryz.func102 fun hwf hu=>?_
  obtain⟨D,hD,hr⟩:=Holds.one e
  dsimp only[ab.r]at hr
  change aO _ _ _ _ _ ⟨[(0,.cv (.val (.agg [.int .i64 t.Kind,.int .i64 t.Set,.sl (List.map bW t.Kids)]))),(1,.cv (.val (.sl (List.map (eK .u64) o)))),(2,.cv (.val (.sl (List.map eB A))))],h.on []⟩
  refine A_s ?_
  refine al ?_
  obtain⟨nF1,nF2,hr⟩:=hr.mk
  refine A_n ?_
  refine al (fD 1 ?_)
  obtain⟨r,eF3,hr⟩:=hr.bind
  refine aT (out:=?o3) (hp:=?p3) ?c3 ?d3 ?_
  case c3=>exact fH A eF3
  case d3=>rfl
  refine fj ?_
  refine ak hr (fun cF4 hr=>?_) (fun cF4 hr=>?_)
  ·refine A_s ?_
   refine bk ?_
   obtain rfl:=hD _ hr
   exact(cm (aN (.fix _ _ (.slot 6) 4 _ kB (aU (os':=[]) (sl:=[(6,.cv (.val (.sl (List.map eB (List.replicate (Int.toNat (IntKind.i64.wrap ((o.length:Int)+(1:Int)))) false)))))]) hwf)) ⟨rfl,aE hwf⟩))
  ·refine az (w_n (al (A_s ?_)))
   refine w_K (D:=D) (fun xX:List Bool=>⟨[(7,.cv (.val (.sl (List.map eB xX))))],h.on []⟩) (fun xX:List Bool=>ab.k1 xX) (fun v s' hr ht=>?_) ?_
   ·dsimp only[ab.k1]at hr ht
    refine(dG ht ?_)
    refine A_s ?_
    refine bk ?_
    obtain rfl:=hD _ hr
    exact(aN (aU (os':=[]) (sl:=[(6,.cv (.val (.sl (List.map eB v))))]) hwf) ⟨rfl,aE hwf⟩)
   ·refine aw (A_s ?_)
    refine ak hr (fun cF5 hr=>?_) (fun cF5 hr=>?_)
    ·refine A_s ?_
     refine aw (cb (fun xX:(List Bool×Int)=>⟨[(1,.cv (.val (.sl (List.map (eK .u64) o)))),(2,.cv (.val (.sl (List.map eB A)))),(3,.cv (.val (.ptr (some (h.n+0,0))))),(7,.cv (.row 4 (List.map eB xX.1))),(8,.cv (.val (.int .i64 xX.2)))],h.on [some (.cells [.val (.int .i64 t.Kind),.val (.int .i64 t.Set),.val (.sl (List.map bW t.Kids))])]⟩) hr A_c (fun W1 xX hr=>?_))
     obtain⟨v1,v2⟩:=xX
     dsimp only[ab.b1]at hr
     refine al (A_s ?_)
     refine ak hr (fun cF6 hr=>?_) (fun cF6 hr=>?_)
     ·refine az (w_n (al (w_K (D:=(Aft W1 D)) (fun xX:List Bool=>⟨[(1,.cv (.val (.sl (List.map (eK .u64) o)))),(2,.cv (.val (.sl (List.map eB A)))),(3,.cv (.val (.ptr (some (h.n+0,0))))),(7,.cv (.row 4 (List.map eB xX))),(8,.cv (.val (.int .i64 v2)))],h.on [some (.cells [.val (.int .i64 t.Kind),.val (.int .i64 t.Set),.val (.sl (List.map bW t.Kids))])]⟩) (fun xX:List Bool=>ab.k2 v2 xX) (fun v3 s' hr ht=>?_) ?_)))
      ·dsimp only[ab.k2]at hr ht
       refine(dG ht ?_)
       refine aC ?_
       exact(w_k ⟨(v3,(IntKind.i64.wrap (v2+(1:Int)))),hr,A_c⟩)
      ·refine aw (cT [0,1,2,3,4,5,6,7,8,9,10,11,12,13,14,15,16,17,18,19,20] (by rfl) ?_)
       obtain⟨b,nF7,eF8,gF9,hr⟩:=hr.idx
       refine bU [0,1,2,3,4,5,6,7] [7,6,5,4,3,2,1,0] ?_
       rcases hr.ite with⟨cF10,hr⟩|⟨cF10,hr⟩
       ·obtain⟨n,nF11,eF12,gF13,hr⟩:=hr.idx
        obtain⟨nF14,nF15,hr⟩:=hr.nat
        obtain⟨b1,nF16,eF17,gF18,hr⟩:=hr.idx
        refine bU [8,9,10,11,12,13,14,15,16,17,18,19] [19,18,17,16,15,14,13,12,11,10,9,8,7,6,5,4,3,2,1,0] ?_
        refine dt [] ?_
        refine df ?_
        exact(dC (w_k ⟨(List.set v1 (Int.toNat (IntKind.i64.wrap (v2+(1:Int)))) ((amL .u64 (shR .u64 n (IntKind.u64.wrap t.Set)) (1:Int))==(1:Int))),hr,A_c⟩))
       ·obtain⟨b2,nF19,eF20,gF21,hr⟩:=hr.idx
        refine bU [8,9,10,11,12,13,14,15,16,17,18,19] [19,18,17,16,15,14,13,12,11,10,9,8,7,6,5,4,3,2,1,0] ?_
        refine dt [] ?_
        refine df ?_
        exact(dC (w_k ⟨(List.set v1 (Int.toNat (IntKind.i64.wrap (v2+(1:Int)))) false),hr,A_c⟩))
     ·exact ca (cX (cX (fm (dC (w_k ⟨v1,(hr).map,(.fix _ _ (.slot 7) 4 _ kB A_c)⟩)))))
    ·refine A_s ?_
     refine ak hr (fun cF22 hr=>?_) (fun cF22 hr=>?_)
     ·refine A_s ?_
      refine A_s ?_
      refine aw (cb (fun xX:(List Bool×Int)=>⟨[(1,.cv (.val (.sl (List.map (eK .u64) o)))),(3,.cv (.val (.ptr (some (h.n+0,0))))),(7,.cv (.val (.sl (List.map eB xX.1)))),(9,.cv (.val (.int .i64 xX.2)))],h.on [some (.cells [.val (.int .i64 t.Kind),.val (.int .i64 t.Set),.val (.sl (List.map bW t.Kids))])]⟩) hr A_c (fun W2 xX hr=>?_))
      obtain⟨v4,v5⟩:=xX
      dsimp only[ab.b2]at hr
      refine al (A_s ?_)
      refine ak hr (fun cF23 hr=>?_) (fun cF23 hr=>?_)
      ·refine az (w_n (al (aw (cB ?_))))
       obtain⟨x,nF24,eF25,gF26,hr⟩:=hr.idx
       refine aG 7 ?_
       obtain⟨r1,eF27,hr⟩:=hr.bind
       refine aT (out:=?o27) (hp:=?p27) ?c27 ?d27 ?_
       case c27=>exact ih x o v4 eF27
       case d27=>rfl
       refine aj ?_
       refine(dC (w_n ?_))
       refine aC ?_
       exact(w_k ⟨(r1,(IntKind.i64.wrap (v5+(1:Int)))),hr,A_c⟩)
      ·exact ca (cX (cX (fm (dC (w_k ⟨v4,(hr).map,A_c⟩)))))
     ·refine A_s ?_
      refine ak hr (fun cF28 hr=>?_) (fun cF28 hr=>?_)
      ·refine A_s ?_
       refine aw (cb (fun xX:(List Bool×Int)=>⟨[(1,.cv (.val (.sl (List.map (eK .u64) o)))),(2,.cv (.val (.sl (List.map eB A)))),(3,.cv (.val (.ptr (some (h.n+0,0))))),(7,.cv (.val (.sl (List.map eB xX.1)))),(10,.cv (.val (.int .i64 xX.2)))],h.on [some (.cells [.val (.int .i64 t.Kind),.val (.int .i64 t.Set),.val (.sl (List.map bW t.Kids))])]⟩) hr (.fix _ _ (.slot 7) 4 _ kB A_c) (fun W3 xX hr=>?_))
       obtain⟨v6,v7⟩:=xX
       dsimp only[ab.b3]at hr
       refine al (A_s ?_)
       refine ak hr (fun cF29 hr=>?_) (fun cF29 hr=>?_)
       ·refine az (w_n (al (aw (cB ?_))))
        obtain⟨x1,nF30,eF31,gF32,hr⟩:=hr.idx
        refine aG 8 ?_
        obtain⟨r2,eF33,hr⟩:=hr.bind
        refine aT (out:=?o33) (hp:=?p33) ?c33 ?d33 ?_
        case c33=>exact ih x1 o A eF33
        case d33=>rfl
        obtain⟨r3,eF34,hr⟩:=hr.bind
        refine aT (out:=?o34) (hp:=?p34) ?c34 ?d34 ?_
        case c34=>exact eo v6 r2 eF34
        case d34=>rfl
        refine aj ?_
        refine(dC (w_n ?_))
        refine aC ?_
        exact(w_k ⟨(r3,(IntKind.i64.wrap (v7+(1:Int)))),hr,A_c⟩)
       ·exact ca (cX (cX (fm (dC (w_k ⟨v6,(hr).map,A_c⟩)))))
      ·refine A_s ?_
       refine ak hr (fun cF35 hr=>?_) (fun cF35 hr=>?_)
       ·refine cB ?_
        obtain⟨x2,eF36,gF37,hr⟩:=hr.idxK
        refine aG 7 ?_
        obtain⟨r4,eF38,hr⟩:=hr.bind
        refine aT (out:=?o38) (hp:=?p38) ?c38 ?d38 ?_
        case c38=>exact ih x2 o A eF38
        case d38=>rfl
        obtain⟨r5,eF39,hr⟩:=hr.bind
        refine aT (out:=?o39) (hp:=?p39) ?c39 ?d39 ?_
        case c39=>exact eo A r4 eF39
        case d39=>rfl
        refine aj ?_
        exact(dC (w_k ⟨r5,hr,A_c⟩))
       ·refine al (cB ?_)
        obtain⟨x3,eF40,gF41,hr⟩:=hr.idxK
        refine aG 6 ?_
        obtain⟨r6,eF42,hr⟩:=hr.bind
        refine aT (out:=?o42) (hp:=?p42) ?c42 ?d42 ?_
        case c42=>exact ih x3 o A eF42
        case d42=>rfl
        refine fj ?_
        refine al (A_s ?_)
        refine w_K (D:=D) (fun xX:List Bool=>⟨[(1,.cv (.val (.sl (List.map (eK .u64) o)))),(3,.cv (.val (.ptr (some (h.n+0,0))))),(7,.cv (.val (.sl (List.map eB xX))))],h.on [some (.cells [.val (.int .i64 t.Kind),.val (.int .i64 t.Set),.val (.sl (List.map bW t.Kids))])]⟩) (fun xX:List Bool=>ab.k3 (ab.r fu) o x3 xX) (fun v8 s' hr ht=>?_) ?_
        ·dsimp only[ab.k3]at hr ht
         refine(dG ht ?_)
         refine A_s ?_
         refine aw (cb (fun xX:(List Bool×List Bool)=>⟨[(1,.cv (.val (.sl (List.map (eK .u64) o)))),(3,.cv (.val (.ptr (some (h.n+0,0))))),(7,.cv (.val (.sl (List.map eB xX.1)))),(11,.cv (.val (.sl (List.map eB xX.2))))],h.on [some (.cells [.val (.int .i64 t.Kind),.val (.int .i64 t.Set),.val (.sl (List.map bW t.Kids))])]⟩) hr A_c (fun W4 xX hr=>?_))
         obtain⟨v9,v10⟩:=xX
         dsimp only[ab.b4]at hr
         refine al (fD 1 ?_)
         obtain⟨r7,eF43,hr⟩:=hr.bind
         refine aT (out:=?o43) (hp:=?p43) ?c43 ?d43 ?_
         case c43=>exact fH v10 eF43
         case d43=>rfl
         refine dA ?_
         refine w_n (ak hr (fun cF44 hr=>?_) (fun cF44 hr=>?_))
         ·refine az (w_n (w_K (D:=(Aft W4 D)) (fun xX:(List Bool×List Bool)=>⟨[(1,.cv (.val (.sl (List.map (eK .u64) o)))),(3,.cv (.val (.ptr (some (h.n+0,0))))),(7,.cv (.val (.sl (List.map eB xX.1)))),(11,.cv (.row 4 (List.map eB xX.2)))],h.on [some (.cells [.val (.int .i64 t.Kind),.val (.int .i64 t.Set),.val (.sl (List.map bW t.Kids))])]⟩) (fun xX:(List Bool×List Bool)=>ab.k4 xX.1 xX.2) (fun xX s' hr ht=>?_) ?_))
          ·obtain⟨v11,v12⟩:=xX
           dsimp only[ab.k4]at hr ht
           exact(w_k ⟨(v11,v12),hr,(To.trans ht (.fix _ _ (.slot 11) 4 _ kB A_c))⟩)
          ·refine aw (fD 6 ?_)
           obtain⟨r8,eF45,hr⟩:=hr.bind
           refine aT (out:=?o45) (hp:=?p45) ?c45 ?d45 ?_
           case c45=>exact ih x3 o v10 eF45
           case d45=>rfl
           refine fj ?_
           refine al ?_
           obtain⟨nF46,nF47,hr⟩:=hr.mk
           refine A_n ?_
           refine al (A_s ?_)
           refine w_K (D:=(Aft W4 D)) (fun xX:List Bool=>⟨[(1,.cv (.val (.sl (List.map (eK .u64) o)))),(3,.cv (.val (.ptr (some (h.n+0,0))))),(7,.cv (.val (.sl (List.map eB v9)))),(11,.cv (.row 4 (List.map eB xX))),(12,.cv (.val (.sl (List.map eB r8))))],h.on [some (.cells [.val (.int .i64 t.Kind),.val (.int .i64 t.Set),.val (.sl (List.map bW t.Kids))])]⟩) (fun xX:List Bool=>ab.k5 v9 r8 xX) (fun v13 s' hr ht=>?_) ?_
           ·dsimp only[ab.k5]at hr ht
            refine(dG ht ?_)
            refine cB ?_
            refine aG 2 ?_
            obtain⟨r9,eF48,hr⟩:=hr.bind
            refine aT (out:=?o48) (hp:=?p48) ?c48 ?d48 ?_
            case c48=>exact eo v9 r8 eF48
            case d48=>rfl
            refine aj ?_
            exact(dC (w_k ⟨(r9,v13),hr,A_c⟩))
           ·refine aw (cb (fun xX:(List Bool×Int)=>⟨[(1,.cv (.val (.sl (List.map (eK .u64) o)))),(3,.cv (.val (.ptr (some (h.n+0,0))))),(7,.cv (.val (.sl (List.map eB v9)))),(11,.cv (.row 4 (List.map eB xX.1))),(12,.cv (.val (.sl (List.map eB r8)))),(13,.cv (.val (.int .i64 xX.2)))],h.on [some (.cells [.val (.int .i64 t.Kind),.val (.int .i64 t.Set),.val (.sl (List.map bW t.Kids))])]⟩) hr A_c (fun W5 xX hr=>?_))
            obtain⟨v14,v15⟩:=xX
            dsimp only[ab.b5]at hr
            refine al (A_s ?_)
            refine ak hr (fun cF49 hr=>?_) (fun cF49 hr=>?_)
            ·refine az (w_n (al (w_K (D:=(Aft W5 (Aft W4 D))) (fun xX:List Bool=>⟨[(1,.cv (.val (.sl (List.map (eK .u64) o)))),(3,.cv (.val (.ptr (some (h.n+0,0))))),(7,.cv (.val (.sl (List.map eB v9)))),(11,.cv (.row 4 (List.map eB xX))),(12,.cv (.val (.sl (List.map eB r8)))),(13,.cv (.val (.int .i64 v15)))],h.on [some (.cells [.val (.int .i64 t.Kind),.val (.int .i64 t.Set),.val (.sl (List.map bW t.Kids))])]⟩) (fun xX:List Bool=>ab.k6 v15 xX) (fun v16 s' hr ht=>?_) ?_)))
             ·dsimp only[ab.k6]at hr ht
              refine(dG ht ?_)
              refine aC ?_
              exact(w_k ⟨(v16,(IntKind.i64.wrap (v15+(1:Int)))),hr,A_c⟩)
             ·refine aw (cB ?_)
              obtain⟨b3,nF50,eF51,gF52,hr⟩:=hr.idx
              refine aG 7 ?_
              rcases hr.ite with⟨cF53,hr⟩|⟨cF53,hr⟩
              ·obtain⟨b4,nF54,eF55,gF56,hr⟩:=hr.idx
               obtain⟨b5,nF57,eF58,gF59,hr⟩:=hr.idx
               refine aj ?_
               exact(dC (w_k ⟨(List.set v14 (Int.toNat v15) (!b4)),hr,A_c⟩))
              ·obtain⟨b6,nF60,eF61,gF62,hr⟩:=hr.idx
               refine aj ?_
               exact(dC (w_k ⟨(List.set v14 (Int.toNat v15) false),hr,A_c⟩))
            ·exact ca (cX (cX (fm (w_k ⟨v14,(hr).map,A_c⟩))))
         ·exact ca (cX (cX (fm (dC (w_k ⟨v9,(hr).map,A_c⟩)))))
        ·refine ak hr (fun cF63 hr=>?_) (fun cF63 hr=>?_)
         ·refine cB ?_
          refine aG 2 ?_
          obtain⟨r10,eF64,hr⟩:=hr.bind
          refine aT (out:=?o64) (hp:=?p64) ?c64 ?d64 ?_
          case c64=>exact eo r6 A eF64
          case d64=>rfl
          refine aj ?_
          exact(w_k ⟨r10,hr,A_c⟩)
         ·exact az (w_k ⟨r6,hr,A_c⟩)
theorem iR(t:aD)(o:List Int)(A:List Bool){h:bn}{a:List Bool}(e:ab t o A=some a):
  cq CT 102 [.cv (.val (.agg [.int .i64 t.Kind,.int .i64 t.Set,.sl (List.map bW t.Kids)])),.cv (.val (.sl (List.map (eK .u64) o))),.cv (.val (.sl (List.map eB A)))] h fun o h'=>o=[.cv (.val (.sl (List.map eB a)))]∧h'=h:=by
 obtain⟨fuN,fuH⟩:=jK e
 exact lj fuN t o A (fuH fuN (nR fuN))
theorem lr(n:aD)(word:List Int){h:bn}{a:Bool}(e:bR n word=some a):
  cq CT 43 [.cv (.val (.agg [.int .i64 n.Kind,.int .i64 n.Set,.sl (List.map bW n.Kids)])),vL (eK .u64) word] h fun o h'=>o=[vB a]∧h'=h:=by
 refine bg Tryz.func43 fun hwf hu=>?_
 obtain⟨D,hD,hr⟩:=Holds.one e
 dsimp only[bR]at hr
 change aO _ _ _ _ _ ⟨[(0,.cv (.val (.agg [.int .i64 n.Kind,.int .i64 n.Set,.sl (List.map bW n.Kids)]))),(1,vL (eK .u64) word)],h.on []⟩
 refine A_s ?_
 refine fD 1 ?_
 obtain⟨r,eF1,hr⟩:=hr.bind
 refine aT (out:=?o1) (hp:=?p1) ?c1 ?d1 ?_
 case c1=>exact iC n eF1
 case d1=>rfl
 refine fj ?_
 refine al (A_s ?_)
 refine ak hr (fun cF2 hr=>?_) (fun cF2 hr=>?_)
 ·refine A_s ?_
  refine bk ?_
  obtain rfl:=hD _ hr
  exact(cm (aN (aU (os':=[]) (sl:=[(4,vB false)]) hwf) ⟨rfl,aE hwf⟩))
 ·refine az (w_n (al ?_))
  obtain⟨nF3,nF4,hr⟩:=hr.mk
  refine A_n ?_
  refine al (A_s ?_)
  refine w_K (D:=D) (fun xX:List Bool=>⟨[(1,vL (eK .u64) word),(2,vP (h.n+0)),(6,.cv (.row 4 (List.map eB xX)))],h.on [some (.cells [wI n.Kind,wI n.Set,wL bW n.Kids])]⟩) (fun xX:List Bool=>bR.k1 n word xX) (fun at_ s' hr ht=>?_) ?_
  ·dsimp only[bR.k1]at hr ht
   refine(dG ht ?_)
   refine fD 3 ?_
   obtain⟨r1,eF5,hr⟩:=hr.bind
   refine aT (out:=?o5) (hp:=?p5) ?c5 ?d5 ?_
   case c5=>exact iR n word at_ eF5
   case d5=>rfl
   refine fj ?_
   refine al ?_
   obtain⟨b,nF6,eF7,gF8,hr⟩:=hr.idx
   refine A_n ?_
   refine bk ?_
   obtain rfl:=hD _ hr
   exact(aN (aU (os':=[]) (sl:=[(4,vB b)]) hwf) ⟨rfl,aE hwf⟩)
  ·refine aw (cb (fun xX:(List Bool×Int)=>⟨[(1,vL (eK .u64) word),(2,vP (h.n+0)),(6,.cv (.row 4 (List.map eB xX.1))),(7,vI xX.2)],h.on [some (.cells [wI n.Kind,wI n.Set,wL bW n.Kids])]⟩) hr A_c (fun W1 xX hr=>?_))
   obtain⟨at_1,i⟩:=xX
   dsimp only[bR.b1]at hr
   refine al (A_s ?_)
   refine ak hr (fun cF9 hr=>?_) (fun cF9 hr=>?_)
   ·refine az (w_n (al (aw ?_)))
    obtain⟨b1,nF10,eF11,gF12,hr⟩:=hr.idx
    refine aC ?_
    refine(dC (w_n ?_))
    refine aC ?_
    exact(w_k ⟨((List.set at_1 (Int.toNat i) true),(IntKind.i64.wrap (i+(1:Int)))),hr,A_c⟩)
   ·exact ca (cX (cX (fm (w_k ⟨at_1,(hr).map,A_c⟩))))
theorem lk(n:aD)(word:List Int){h:bn}{a:Bool}(e:eG n word=some a):
  cq CT 44 [.cv (.val (.agg [.int .i64 n.Kind,.int .i64 n.Set,.sl (List.map bW n.Kids)])),vL (eK .u64) word] h fun o h'=>o=[vB a]∧h'=h:=by
 refine bg Tryz.func44 fun hwf hu=>?_
 obtain⟨D,hD,hr⟩:=Holds.one e
 dsimp only[eG]at hr
 change aO _ _ _ _ _ ⟨[(0,.cv (.val (.agg [.int .i64 n.Kind,.int .i64 n.Set,.sl (List.map bW n.Kids)]))),(1,vL (eK .u64) word)],h.on []⟩
 refine A_s ?_
 refine fD 1 ?_
 obtain⟨r,eF1,hr⟩:=hr.bind
 refine aT (out:=?o1) (hp:=?p1) ?c1 ?d1 ?_
 case c1=>exact iC n eF1
 case d1=>rfl
 refine fj ?_
 refine al (A_s ?_)
 refine ak hr (fun cF2 hr=>?_) (fun cF2 hr=>?_)
 ·refine A_s ?_
  refine bk ?_
  obtain rfl:=hD _ hr
  exact(cm (aN (aU (os':=[]) (sl:=[(4,vB false)]) hwf) ⟨rfl,aE hwf⟩))
 ·refine az (w_n (al ?_))
  obtain⟨nF3,nF4,hr⟩:=hr.mk
  refine A_n ?_
  refine al ?_
  (obtain⟨b,eF5,gF6,hr⟩:=hr.idxK;replace eF5:=congrArg (Option.map eB) eF5;rw[← gP]at eF5;simp (disch:=(apply dd.mk;decide)) only[go_sem,Option.map_some]at eF5 gF6)
  refine A_n ?_
  refine fD 3 ?_
  obtain⟨r1,eF7,hr⟩:=hr.bind
  refine aT (out:=?o7) (hp:=?p7) ?c7 ?d7 ?_
  case c7=>(have hA:=fun hh=>iR (h:=hh) n word (List.set (List.replicate (Int.toNat (IntKind.i64.wrap ((word.length:Int)+(1:Int)))) false) (Int.toNat (0:Int)) true) eF7;simp only[List.map_set,List.map_replicate,eB,eI,Int.reduceToNat]at hA;exact hA _)
  case d7=>rfl
  obtain⟨r2,eF8,hr⟩:=hr.bind
  refine aT (out:=?o8) (hp:=?p8) ?c8 ?d8 ?_
  case c8=>exact fH r1 eF8
  case d8=>rfl
  refine fj ?_
  refine bk ?_
  obtain rfl:=hD _ hr
  exact(aN (aU (os':=[]) (sl:=[(4,vB r2)]) hwf) ⟨rfl,aE hwf⟩)
theorem iM(p:bL) (l:List Int) (i:Int) {h:bn} {a:Int} (e:bX p l i=some a):
  cq CT 16 [.cv (.val (.agg [.sl (List.map (eL ay) p.Sets),.sl (List.map eu p.Rules)])),vL eI l,vI i] h fun o h'=>o=[vI a]∧h'=h:=by
 refine bg Tryz.func16 fun hwf hu=>?_
 obtain⟨D,hD,hr⟩:=Holds.one e
 dsimp only[bX]at hr
 change aO _ _ _ _ _ ⟨[(0,.cv (.val (.agg [.sl (List.map (eL ay) p.Sets),.sl (List.map eu p.Rules)]))),(1,vL eI l),(2,vI i)],h.on []⟩
 refine A_s ?_
 refine fD 2 ?_
 obtain⟨r,eF1,hr⟩:=hr.bind
 try dsimp only at hr
 rcases xF17:r.1 with _|y
 ·rw[xF17]at hr
  dsimp only at hr
  refine aT (out:=?o_eF1a) (hp:=?p_eF1a) ?c_eF1a ?d_eF1a ?_
  case c_eF1a=>exact kc p.Sets eF1 xF17
  case d_eF1a=>rfl
  refine fj ?_
  refine al (A_s ?_)
  refine ak hr (fun cF2 hr=>?_) (fun cF2 hr=>?_)
  ·refine A_s ?_
   refine bk ?_
   obtain rfl:=hD _ hr
   exact(cm (aN (aU (os':=[]) (sl:=[(6,vI (-1:Int))]) hwf) ⟨rfl,aE hwf⟩))
  ·exact az (w_n (al (hr.elim)))
 ·rw[xF17]at hr
  dsimp only at hr
  refine aT (out:=?o_eF1b) (hp:=?p_eF1b) ?c_eF1b ?d_eF1b ?_
  case c_eF1b=>exact kv p.Sets eF1 xF17
  case d_eF1b=>rfl
  refine fj ?_
  refine al (A_s ?_)
  refine ak hr (fun cF3 hr=>?_) (fun cF3 hr=>?_)
  ·refine A_s ?_
   refine bk ?_
   obtain rfl:=hD _ hr
   exact(cm (aN (aU (os':=[]) (sl:=[(6,vI (-1:Int))]) hwf) ⟨rfl,aE hwf⟩))
  ·refine az (w_n (fD 2 ?_))
   obtain⟨r1,eF4,hr⟩:=hr.bind
   refine aT (out:=?o4) (hp:=?p4) ?c4 ?d4 ?_
   case c4=>(refine jc y l (h.n+1) ?_ eF4;exact cN)
   case d4=>rfl
   refine fj ?_
   refine al (A_s ?_)
   refine w_K (D:=D) (fun xX:Unit=>⟨[],h.on []⟩) (fun xX:Unit=>bX.k1) (fun xX s' hr ht=>?_) ?_
   ·dsimp only[bX.k1]at hr ht
    refine(dG ht ?_)
    refine A_s ?_
    refine bk ?_
    obtain rfl:=hD _ hr
    exact(aN (aU (os':=[]) (sl:=[(6,vI (-1:Int))]) hwf) ⟨rfl,aE hwf⟩)
   ·refine aw (cb (fun xX:Int=>⟨[(2,vI i),(3,vP (h.n+0)),(9,vL (eK .u64) r1),(10,vI xX)],h.on [some (.cells [wL (eL ay) p.Sets,wL eu p.Rules])]⟩) hr A_c (fun W1 k hr=>?_))
    dsimp only[bX.b1]at hr
    refine al (A_s ?_)
    refine ak hr (fun cF5 hr=>?_) (fun cF5 hr=>?_)
    ·refine az (w_n (al (aw (al (cT [0,1,2,3,4,5,6,7,8,9,10] (by rfl) ?_)))))
     obtain⟨x,nF6,eF7,gF8,hr⟩:=hr.idx
     obtain⟨nF9,nF10,hr⟩:=hr.cutH
     refine bU [0,1,2,3,4,5,6,7,8] [8,7,6,5,4,3,2,1,0] ?_
     obtain⟨r2,eF11,hr⟩:=hr.bind
     refine dO [] (out:=?o11) (hp:=?p11) ?c11 ?d11 ?_
     case c11=>exact lr x.Left (List.take (Int.toNat i) r1) eF11
     case d11=>rfl
     refine dt [] ?_
     refine df ?_
     refine w_n (al (cT [0,1,2,3,4,5,6,7,8,9,10] (by rfl) ?_))
     obtain⟨nF12,nF13,hr⟩:=hr.cutL
     refine bU [0,1,2,3,4,5,6,7,8] [8,7,6,5,4,3,2,1,0] ?_
     obtain⟨r3,eF14,hr⟩:=hr.bind
     refine dO [] (out:=?o14) (hp:=?p14) ?c14 ?d14 ?_
     case c14=>exact lk x.Right (List.drop (Int.toNat i) r1) eF14
     case d14=>rfl
     refine dt [] ?_
     refine df ?_
     refine w_n (cf (sj:=⟨[(2,vI i),(3,vP (h.n+0)),(9,vL (eK .u64) r1),(10,vI k),(54,vB (r2&&r3))],h.on [some (.cells [wL (eL ay) p.Sets,wL eu p.Rules])]⟩) (cB ?_) ?_)
     ·refine aG 2 ?_
      rcases Bool.eq_false_or_eq_true r2 with cF15|cF15
      ·refine aj ?_
       exact w_k A_c
      ·refine aj ?_
       exact w_k A_c
     refine ak hr (fun cF16 hr=>?_) (fun cF16 hr=>?_)
     ·refine A_s ?_
      refine bk ?_
      obtain rfl:=hD _ hr
      exact(fa (cm (cm (fa (cm (cm (aN (aU (os':=[]) (sl:=[(6,vI k)]) hwf) ⟨rfl,aE hwf⟩)))))))
     ·refine az (dC (w_n ?_))
      refine aC ?_
      exact(w_k ⟨(IntKind.i64.wrap (k+(1:Int))),hr,A_c⟩)
    ·exact ca (cX (cX (fm (w_k ⟨(),(hr).map,A_c⟩))))
theorem gq(a_:List Int)(b:List Int){h:bn}{a:Bool}(e:bI a_ b=some a):
  cq CT 13 [vL eI a_,vL eI b] h fun o h'=>o=[vB a]∧h'=h:=by
 refine bg Tryz.func13 fun hwf hu=>?_
 obtain⟨D,hD,hr⟩:=Holds.one e
 dsimp only[bI]at hr
 change aO _ _ _ _ _ ⟨[(0,vL eI a_),(1,vL eI b)],h.on []⟩
 refine A_s ?_
 refine al (A_s ?_)
 refine ak hr (fun cF1 hr=>?_) (fun cF1 hr=>?_)
 ·refine A_s ?_
  refine bk ?_
  obtain rfl:=hD _ hr
  exact(cm (aN (aU (os':=[]) (sl:=[(4,vB false)]) hwf) ⟨rfl,aE hwf⟩))
 ·refine az (w_n (al (A_s ?_)))
  refine w_K (D:=D) (fun xX:Unit=>⟨[],h.on []⟩) (fun xX:Unit=>bI.k1) (fun xX s' hr ht=>?_) ?_
  ·dsimp only[bI.k1]at hr ht
   refine(dG ht ?_)
   refine A_s ?_
   refine bk ?_
   obtain rfl:=hD _ hr
   exact(aN (aU (os':=[]) (sl:=[(4,vB true)]) hwf) ⟨rfl,aE hwf⟩)
  ·refine aw (cb (fun xX:Int=>⟨[(0,vL eI a_),(1,vL eI b),(5,vI xX)],h.on []⟩) hr A_c (fun W1 i hr=>?_))
   dsimp only[bI.b1]at hr
   refine al (A_s ?_)
   refine ak hr (fun cF2 hr=>?_) (fun cF2 hr=>?_)
   ·refine az (w_n (al (aw (al (cT [0,1,2,3,4,5,6,7,8] (by rfl) ?_)))))
    obtain⟨n,nF3,eF4,gF5,hr⟩:=hr.idx
    obtain⟨n1,nF6,eF7,gF8,hr⟩:=hr.idx
    refine bU [0,1,2,3,4,5,6,7,8] [8,7,6,5,4,3,2,1,0] ?_
    refine df ?_
    refine w_n (ak hr (fun cF9 hr=>?_) (fun cF9 hr=>?_))
    ·refine A_s ?_
     refine bk ?_
     obtain rfl:=hD _ hr
     exact(fa (cm (cm (fa (cm (cm (aN (aU (os':=[]) (sl:=[(4,vB false)]) hwf) ⟨rfl,aE hwf⟩)))))))
    ·refine az (dC (w_n ?_))
     refine aC ?_
     exact(w_k ⟨(IntKind.i64.wrap (i+(1:Int))),hr,A_c⟩)
   ·exact ca (cX (cX (fm (w_k ⟨(),(hr).map,A_c⟩))))
end Go.Val
namespace Go.Val
theorem lF(b:List UInt8){h:bn}{a:bL×Int×Int}(e:ee b=some a):
  cq CT 17 [vL eU b] h fun o h'=>o=[.cv (.val (gB a.1)),vI a.2.1,vI a.2.2]∧h'=h:=
 cq.hand (C:=CT) (show tU 17 _ h _ h from⟨rfl,.inr (.inr (.inr (.inr (.inr (.inr (.inl ⟨rfl,b,a,rfl,e,rfl⟩))))))⟩) ⟨rfl,rfl⟩
theorem mb(b:List UInt8){h:bn}{a:List Int}(e:ef b=some a):
  cq CT 29 [vL eU b] h fun o h'=>o=[vL eI a]∧h'=h:=
 cq.hand (C:=CT) (show tU 29 _ h _ h from⟨rfl,.inr (.inr (.inr (.inr (.inr (.inr (.inr ⟨rfl,b,a,rfl,e,rfl⟩))))))⟩) ⟨rfl,rfl⟩
end Go.Val
namespace Go.Val
set_option maxRecDepth 20000
open Go.Proofs
theorem lV{h:bn}{a:Bool}(e:eV=some a):
  cq CT 9 [] h fun o h'=>o=[vB a]∧h'=h:=by
 refine bg Tryz.func9 fun hwf hu=>?_
 obtain⟨D,hD,hr⟩:=Holds.one e
 dsimp only[eV]at hr
 change aO _ _ _ _ _ ⟨[],h.on []⟩
 refine A_s ?_
 refine fD 2 ?_
 obtain⟨r,eF1,hr⟩:=hr.bind
 refine aT (out:=?o1) (hp:=?p1) ?c1 ?d1 ?_
 case c1=>exact lF ([(u8 (115:Int)),(u8 (101:Int)),(u8 (116:Int)),(u8 (32:Int)),(u8 (97:Int)),(u8 (32:Int)),(u8 (61:Int)),(u8 (32:Int)),(u8 (91:Int)),(u8 (97:Int)),(u8 (45:Int)),(u8 (122:Int)),(u8 (93:Int)),(u8 (59:Int)),(u8 (32:Int)),(u8 (107:Int)),(u8 (101:Int)),(u8 (101:Int)),(u8 (112:Int)),(u8 (32:Int)),(u8 (97:Int)),(u8 (32:Int)),(u8 (47:Int)),(u8 (32:Int)),(u8 (97:Int)),(u8 (59:Int))]) eF1
 case d1=>rfl
 refine fj ?_
 refine fD 1 ?_
 obtain⟨r1,eF2,hr⟩:=hr.bind
 try dsimp only at hr
 rcases xF11:r1.1 with _|y
 ·rw[xF11]at hr
  dsimp only at hr
  refine aT (out:=?o_eF2a) (hp:=?p_eF2a) ?c_eF2a ?d_eF2a ?_
  case c_eF2a=>exact iQ r.1 (100:Int) eF2 xF11
  case d_eF2a=>rfl
  refine fj ?_
  refine cf (sj:=⟨[(0,vB false)],h.on []⟩) (cB ?_) ?_
  ·refine aG 3 ?_
   rcases Bool.eq_false_or_eq_true (r.2.2==(0:Int))with cF3|cF3
   ·refine aG 4 ?_
    rcases Bool.eq_false_or_eq_true (r1.2==(0:Int))with cF4|cF4
    ·refine aG 7 ?_
     refine iF ?_
     refine iF ?_
     refine aG 1 ?_
     refine iF ?_
     refine aj ?_
     exact w_k A_c
    ·refine aG 7 ?_
     refine iF ?_
     refine iF ?_
     refine aG 1 ?_
     refine iF ?_
     refine aj ?_
     exact w_k A_c
   ·refine aG 11 ?_
    refine iF ?_
    refine iF ?_
    refine aG 1 ?_
    refine iF ?_
    refine aj ?_
    exact w_k A_c
  refine bk ?_
  obtain rfl:=hD _ hr
  exact(aN (aU (os':=[]) (sl:=[(0,vB false)]) hwf) ⟨rfl,aE hwf⟩)
 ·rw[xF11]at hr
  dsimp only at hr
  refine aT (out:=?o_eF2b) (hp:=?p_eF2b) ?c_eF2b ?d_eF2b ?_
  case c_eF2b=>exact iJ r.1 (100:Int) eF2 xF11
  case d_eF2b=>rfl
  refine fj ?_
  obtain⟨v,vF10,hr⟩:=hr.bind
  refine cf (sj:=⟨[(0,vB v)],h.on []⟩) (cB ?_) ?_
  ·have hr:=Holds.intro (D:=fun z=>z=v) vF10 rfl
   refine aG 3 ?_
   rcases hr.ite with⟨cF5,hr⟩|⟨cF5,hr⟩
   ·refine aG 4 ?_
    rcases hr.ite with⟨cF6,hr⟩|⟨cF6,hr⟩
    ·refine aG 7 ?_
     obtain⟨r2,eF7,hr⟩:=hr.bind
     refine aT (out:=?o7) (hp:=?p7) ?c7 ?d7 ?_
     case c7=>exact mb ([(u8 (97:Int)),(u8 (98:Int)),(u8 (32:Int)),(u8 (99:Int))]) eF7
     case d7=>rfl
     obtain⟨r3,eF8,hr⟩:=hr.bind
     refine aT (out:=?o8) (hp:=?p8) ?c8 ?d8 ?_
     case c8=>(refine eZ y r2 (h.n+5) (h.n+4) ?_ ?_ ?_ eF8;exact cN;exact cN;exact qv)
     case d8=>rfl
     refine aG 1 ?_
     obtain⟨r4,eF9,hr⟩:=hr.bind
     refine aT (out:=?o9) (hp:=?p9) ?c9 ?d9 ?_
     case c9=>exact gq r3 ([(0:Int),(2:Int),(3:Int),(4:Int)]) eF9
     case d9=>rfl
     refine aj ?_
     obtain rfl:_=v:=hr
     exact w_k A_c
    ·refine aG 7 ?_
     refine iF ?_
     refine iF ?_
     refine aG 1 ?_
     refine iF ?_
     refine aj ?_
     obtain rfl:_=v:=hr
     exact w_k A_c
   ·refine aG 11 ?_
    refine iF ?_
    refine iF ?_
    refine aG 1 ?_
    refine iF ?_
    refine aj ?_
    obtain rfl:_=v:=hr
    exact w_k A_c
  refine bk ?_
  obtain rfl:=hD _ hr
  exact(aN (aU (os':=[]) (sl:=[(0,vB v)]) hwf) ⟨rfl,aE hwf⟩)
end Go.Val

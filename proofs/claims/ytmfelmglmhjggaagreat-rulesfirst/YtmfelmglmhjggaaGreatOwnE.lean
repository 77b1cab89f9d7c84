/- A value semantics of the model's programs, sound against it, and functions read off the given program with the proofs that it runs so; no condition. -/
import Derived.Test.YtmfelmglmhjggaaGreatOwnC
import Derived.Test.YtmfelmglmhjggaaGreatOwnD
set_option linter.all false
set_option linter.unnecessarySimpa false
set_option linter.unusedVariables false
set_option linter.unusedSimpArgs false
namespace Go.Val
set_option maxRecDepth 20000
open Go.Proofs
theorem oY (x:ak) {h:ax} {a:Bool} (e:fR x=some a):
  cp CT 142 [.cv (.val (.agg [.int .i64 x.Low,.int .i64 x.High]))] h fun o h'=>o=[.cv (.val (.bool a))]∧h'=h:=by
 refine bv Tryz.func142 fun hwf hu=>?_
 obtain ⟨D,hD,hr⟩:=Holds.one e
 dsimp only[fR]at hr
 change aR _ _ _ _ _ ⟨[(0,.cv (.val (.agg [.int .i64 x.Low,.int .i64 x.High])))],h.on []⟩
 refine A_s ?_
 refine cq (sj:=⟨[(2,.cv (.val (.bool ((decide (x.Low < (0:Int)))||((decide (x.High > (1114111:Int)))||(decide (x.Low > x.High)))))))],h.on []⟩) (bE ?_) ?_
 ·refine aw 4 ?_
  rcases Bool.eq_false_or_eq_true (decide (x.Low < (0:Int)))with cF1 | cF1
  ·refine ae ?_
   exact w_k (ai hwf)
  ·refine aw 5 ?_
   rcases Bool.eq_false_or_eq_true (decide (x.High > (1114111:Int)))with cF2 | cF2
   ·refine ae ?_
    exact w_k (ai hwf)
   ·refine ae ?_
    exact w_k (ai hwf)
 refine bu ?_
 obtain rfl:=hD _ hr
 exact (ba (ai (os':=[]) (sl:=[(2,.cv (.val (.bool ((decide (x.Low < (0:Int)))||((decide (x.High > (1114111:Int)))||(decide (x.Low > x.High)))))))]) hwf) ⟨rfl,aK hwf⟩)
theorem fv (s:List ak) (f:ak→Option Bool) (fid_f:FuncId) (caps_f:List ao) {h:ax} (h_f:∀ os x0 r,f x0=some r→cp CT fid_f ([.cv (.val (.agg [.int .i64 x0.Low,.int .i64 x0.High]))]++jc caps_f) (h.on os) fun o h'=>o=[.cv (.val (.bool r))]∧h'=h.on os) (d_f:∀ i,CT.how fid_f i= .data) {a:Int} (e:aC s f=some a):
  cp CT 202 [.cv (.val (.sl (List.map bi s))),.cv (.val (.fn fid_f [] caps_f))] h fun o h'=>o=[.cv (.val (.int .i64 a))]∧h'=h:=by
 refine bv Tryz.func202 fun hwf hu=>?_
 have u_f:bG h.n caps_f:=(hu (.cv (.val (.fn fid_f [] caps_f))) (by simp)).2
 have vu_f:=fun k=>fk (k:=k) u_f
 obtain ⟨D,hD,hr⟩:=Holds.one e
 dsimp only[aC]at hr
 change aR _ _ _ _ _ ⟨[(0,.cv (.val (.sl (List.map bi s)))),(1,.cv (.val (.fn fid_f [] caps_f)))],h.on []⟩
 refine A_s ?_
 refine aj ?_
 refine A_s ?_
 refine w_K (D:=D) (fun xX:Unit=>⟨[],h.on []⟩) (fun xX:Unit=>aC.k1) (fun xX s' hr ht=>?_) ?_
 ·dsimp only[aC.k1]at hr ht
  refine (eO ht ?_)
  refine A_s ?_
  refine bu ?_
  obtain rfl:=hD _ hr
  exact (ba (ai (os':=[]) (sl:=[(4,.cv (.val (.int .i64 (-1:Int))))]) hwf) ⟨rfl,aK hwf⟩)
 ·refine aI ?_
  refine cI (fun xX:Int=>⟨[(0,.cv (.val (.sl (List.map bi s)))),(1,.cv (.val (.fn fid_f [] caps_f))),(7,.cv (.val (.int .i64 (s.length:Int)))),(8,.cv (.val (.int .i64 xX)))],h.on []⟩) hr (ai hwf) (fun W1 xX hr=>?_)
  obtain ⟨v,rfl⟩:∃ z,z=xX:=⟨xX,rfl⟩
  dsimp only[aC.b1]at hr
  refine A_s ?_
  refine aj ?_
  refine au hr (fun cF1 hr=>?_) (fun cF1 hr=>?_)
  ·refine aL ?_
   refine w_n ?_
   refine aj ?_
   refine aI ?_
   refine A_s ?_
   refine aj ?_
   refine bE ?_
   obtain ⟨x,nF2,eF3,gF4,hr⟩:=hr.idx
   refine aw 5 ?_
   obtain ⟨r,eF5,hr⟩:=hr.bind
   refine be (out:=?o_eF5) (hp:=?p_eF5) ?c_eF5 ?d_eF5 ?_
   case c_eF5=>exact h_f _ _ _ eF5
   case d_eF5=>rfl
   refine de ?_
   refine w_n ?_
   refine au hr (fun cF6 hr=>?_) (fun cF6 hr=>?_)
   ·refine aj ?_
    refine ah ?_
    refine w_n ?_
    refine bu ?_
    obtain rfl:=hD _ hr
    exact (fQ (cw (cw (fQ (cw (cw (ba (ai (os':=[]) (sl:=[(4,.cv (.val (.int .i64 v)))]) hwf) ⟨rfl,aK hwf⟩)))))))
   ·refine aL ?_
    refine (eY (w_n ?_))
    refine ah ?_
    exact (w_k ⟨(IntKind.i64.wrap (v+(1:Int))),hr,(ai hwf)⟩)
  ·refine cG ?_
   exact (dG (dG (iy (w_k ⟨(),(hr).map,(ai hwf)⟩))))
theorem eV (s:List ak) (f:ak→Option Bool) (fid_f:FuncId) (caps_f:List ao) {h:ax} (h_f:∀ os x0 r,f x0=some r→cp CT fid_f ([.cv (.val (.agg [.int .i64 x0.Low,.int .i64 x0.High]))]++jc caps_f) (h.on os) fun o h'=>o=[.cv (.val (.bool r))]∧h'=h.on os) (d_f:∀ i,CT.how fid_f i= .data) {a:Bool} (e:ca s f=some a):
  cp CT 143 [.cv (.val (.sl (List.map bi s))),.cv (.val (.fn fid_f [] caps_f))] h fun o h'=>o=[.cv (.val (.bool a))]∧h'=h:=by
 refine bv Tryz.func143 fun hwf hu=>?_
 have u_f:bG h.n caps_f:=(hu (.cv (.val (.fn fid_f [] caps_f))) (by simp)).2
 have vu_f:=fun k=>fk (k:=k) u_f
 obtain ⟨D,hD,hr⟩:=Holds.one e
 dsimp only[ca]at hr
 change aR _ _ _ _ _ ⟨[(0,.cv (.val (.sl (List.map bi s)))),(1,.cv (.val (.fn fid_f [] caps_f)))],h.on []⟩
 refine A_s ?_
 refine aj ?_
 refine bE ?_
 refine aw 2 ?_
 obtain ⟨r,eF1,hr⟩:=hr.bind
 refine be (out:=?o_eF1) (hp:=?p_eF1) ?c_eF1 ?d_eF1 ?_
 case c_eF1=>(refine fv s f _ _ ?_ ?_ eF1;(exact (fun os x0 r e=>by rw[acL];exact h_f _ x0 r e));(exact d_f))
 case d_eF1=>rfl
 refine ae ?_
 refine w_n ?_
 refine bu ?_
 obtain rfl:=hD _ hr
 exact (ba (ai (os':=[]) (sl:=[(4,.cv (.val (.bool (decide (r≥(0:Int))))))]) hwf) ⟨rfl,aK hwf⟩)
theorem fZ (s:List ak) {h:ax} {a:List ak} (e:ck s=some a):
  cp CT 144 [.cv (.val (.sl (List.map bi s)))] h fun o h'=>o=[.cv (.row 147 (List.map bi a))]∧h'=h:=by
 refine bv Tryz.func144 fun hwf hu=>?_
 have hr:Holds (ck s) (fun z=>z=a):=Holds.intro e rfl
 unfold ck at hr
 obtain ⟨nF1,hr⟩:=hr.room
 obtain rfl:s=a:=hr
 change aR _ _ _ _ _ ⟨[(0,.cv (.val (.sl (List.map bi s))))],h.on []⟩
 refine A_s ?_
 refine aj ?_
 refine aj ?_
 refine bE ?_
 refine aw 1 ?_
 refine afn rfl Tryz.underlying59 (by simp (disch:=(apply bJ.mk;decide)) only[go_sem,Nat.reduceAdd,Nat.reduceLT];rfl) (fun b hb=>?_)
 refine de ?_
 refine w_n ?_
 cases b with
 | true=>
  have hs:s=[]:=by
   cases s with
   | nil=>rfl
   | cons x l=>exact absurd (hb (by simp)) (by simp)
  subst hs
  refine jP true (fun _=>?_) (fun e=>by cases e)
  refine A_s ?_
  refine bu ?_
  exact (cw (ba (ai (os':=[]) (sl:=[(2,.cv (.row 147 (List.map bi ([]:List ak))))]) hwf) ⟨rfl,aK hwf⟩))
 | false=>
  refine jP false (fun e=>by cases e) (fun _=>?_)
  refine aL ?_
  refine w_n ?_
  refine A_s ?_
  refine bu ?_
  exact (ba (ai (os':=[]) (sl:=[(2,.cv (.row 147 (List.map bi s)))]) hwf) ⟨rfl,aK hwf⟩)
theorem tc (l:List ak) (x:ak) {h:ax} {a:List ak} (e:iF l x=some a):
  cp CT 148 [.cv (.row 147 (List.map bi l)),.cv (.val (.agg [.int .i64 x.Low,.int .i64 x.High]))] h fun o h'=>o=[.cv (.row 147 (List.map bi a))]∧h'=h:=by
 refine bv Tryz.func148 fun hwf hu=>?_
 obtain ⟨D,hD,hr⟩:=Holds.one e
 dsimp only[iF]at hr
 change aR _ _ _ _ _ ⟨[(0,.cv (.row 147 (List.map bi l))),(1,.cv (.val (.agg [.int .i64 x.Low,.int .i64 x.High])))],h.on []⟩
 iterate 2 refine A_s ?_
 refine aj ?_
 obtain ⟨v,vF5,hr⟩:=hr.bind
 refine cq (sj:=⟨[(0,.cv (.row 147 (List.map bi l))),(3,.cv (.val (.ptr (some (h.n+0,0))))),(5,.cv (.val (.int .i64 (l.length:Int)))),(21,.cv (.val (.bool v)))],h.on [some (.cells [.val (.int .i64 x.Low),.val (.int .i64 x.High)])]⟩) (cW [0,1,2,3,4,5,6,7,8,9,10,11,12,13] (by rfl) ?_) ?_
 ·have hr:=Holds.intro (D:=fun z=>z=v) vF5 rfl
  refine bV [0,1,2] [2,1,0] ?_
  rcases hr.ite with ⟨cF1,hr⟩ | ⟨cF1,hr⟩
  ·obtain ⟨x1,nF2,eF3,gF4,hr⟩:=hr.idx
   refine bV [3,4,5,6,7,8,9,10,11,12,13] [13,12,11,10,9,8,7,6,5,4,3,2,1,0] ?_
   refine dw ?_
   obtain rfl:_=v:=hr
   exact w_k (ai hwf)
  ·refine bV [3,4,5,6,7,8,9,10,11,12,13] [13,12,11,10,9,8,7,6,5,4,3,2,1,0] ?_
   refine dw ?_
   obtain rfl:_=v:=hr
   exact w_k (ai hwf)
 refine au hr (fun cF6 hr=>?_) (fun cF6 hr=>?_)
 ·refine aj ?_
  refine cW [0,1,2,3,4,5,6,7,8,9,10,11,12,13,14] (by rfl) ?_
  obtain ⟨x2,nF7,eF8,gF9,hr⟩:=hr.idx
  refine bV [0,1,2,3,4,5,6,7,8,9,10,11,12,13] [13,12,11,10,9,8,7,6,5,4,3,2,1,0] ?_
  refine dp [] ?_
  refine dw ?_
  refine w_n ?_
  refine A_s ?_
  refine bu ?_
  obtain rfl:=hD _ hr
  exact (cw (ba (ai (os':=[]) (sl:=[(4,.cv (.row 147 (List.map bi (List.set l (Int.toNat (IntKind.i64.wrap ((l.length:Int) - (1:Int)))) (ak.mk x2.Low (mx x2.High x.High))))))]) hwf) ⟨rfl,aK hwf⟩))
 ·refine aL ?_
  refine w_n ?_
  refine aj ?_
  obtain ⟨nF10,hr⟩:=hr.room
  refine ah ?_
  refine w_n ?_
  refine bu ?_
  obtain rfl:=hD _ hr
  exact (ba (ai (os':=[]) (sl:=[(4,.cv (.row 147 (List.map bi (l++([x])))))]) hwf) ⟨rfl,aK hwf⟩)
theorem lT (l:List ak) {h:ax} {a:(List ak×Int)} (e:cD l=some a):
  cp CT 78 [.cv (.val (.sl (List.map bi l)))] h fun o h'=>o=[.cv (.val (.sl (List.map bi a.1))),.cv (.val (.int .i64 a.2))]∧h'=h:=by
 refine bv Tryz.func78 fun hwf hu=>?_
 obtain ⟨D,hD,hr⟩:=Holds.one e
 dsimp only[cD]at hr
 change aR _ _ _ _ _ ⟨[(0,.cv (.val (.sl (List.map bi l))))],h.on []⟩
 iterate 2 refine A_s ?_
 refine aj ?_
 refine aj ?_
 refine bE ?_
 refine aw 2 ?_
 obtain ⟨r,eF1,hr⟩:=hr.bind
 refine be (out:=?o_eF1) (hp:=?p_eF1) ?c_eF1 ?d_eF1 ?_
 case c_eF1=>(refine eV l (fR) _ _ ?_ ?_ eF1;(exact (fun os x0 r e=>oY x0 e));(exact (fun i=>by simp[CT])))
 case d_eF1=>rfl
 refine de ?_
 refine w_n ?_
 refine au hr (fun cF2 hr=>?_) (fun cF2 hr=>?_)
 ·refine aj ?_
  refine ah ?_
  refine w_n ?_
  refine bu ?_
  obtain rfl:=hD _ hr
  exact (cw (ba (ai (os':=[]) (sl:=[(2,.cv (.val (.sl (List.map bi ([]:List ak))))),(3,.cv (.val (.int .i64 (1:Int))))]) hwf) ⟨rfl,aK hwf⟩))
 ·refine aL ?_
  refine w_n ?_
  refine aj ?_
  refine bE ?_
  refine aw 1 ?_
  obtain ⟨r1,eF3,hr⟩:=hr.bind
  refine be (out:=?o_eF3) (hp:=?p_eF3) ?c_eF3 ?d_eF3 ?_
  case c_eF3=>exact fZ l eF3
  case d_eF3=>rfl
  refine ae ?_
  refine w_n ?_
  refine aj ?_
  refine bE ?_
  refine aw 1 ?_
  obtain ⟨l1,eF4,hr⟩:=hr.bind
  refine ajs  rfl (by simp (disch:=(apply bJ.mk;decide)) only[go_sem,Nat.reduceAdd,Nat.reduceLT,Nat.reduceMul,Nat.reduceLeDiff,Int.reduceToNat,Int.reduceLT,Int.reduceLE,Option.getD_some] <;> rfl) rfl (by simp (disch:=(apply bJ.mk;decide)) only[go_sem,Nat.reduceAdd,Nat.reduceLT,Nat.reduceMul,Nat.reduceLeDiff,Int.reduceToNat,Int.reduceLT,Int.reduceLE,Option.getD_some] <;> rfl) (by simp (disch:=(apply bJ.mk;decide)) only[go_sem,Nat.reduceAdd,Nat.reduceLT,Nat.reduceMul,Nat.reduceLeDiff,Int.reduceToNat,Int.reduceLT,Int.reduceLE,Option.getD_some] <;> rfl) (by simp (disch:=(apply bJ.mk;decide)) only[go_sem,Nat.reduceAdd,Nat.reduceLT,Nat.reduceMul,Nat.reduceLeDiff,Int.reduceToNat,Int.reduceLT,Int.reduceLE,Option.getD_some] <;> rfl) (by rfl) (akX eF4) ?_
  refine de ?_
  refine w_n ?_
  refine A_s ?_
  refine aj ?_
  refine A_s ?_
  refine w_K (D:=D) (fun xX:List ak=>⟨[(6,.cv (.row 147 (List.map bi xX)))],h.on []⟩) (fun xX:List ak=>cD.k1 xX) (fun xX s' hr ht=>?_) ?_
  ·obtain ⟨out,rfl⟩:∃ z,z=xX:=⟨xX,rfl⟩
   dsimp only[cD.k1]at hr ht
   refine (eO ht ?_)
   refine A_s ?_
   refine bu ?_
   obtain rfl:=hD _ hr
   exact (ba (.fix _ _ (.slot 2) 147 _ pw (ai (os':=[]) (sl:=[(2,.cv (.val (.sl (List.map bi out)))),(3,.cv (.val (.int .i64 (0:Int))))]) hwf)) ⟨rfl,aK hwf⟩)
  ·refine aI ?_
   refine cI (fun xX:(List ak×Int)=>⟨[(5,.cv (.row 147 (List.map bi l1))),(6,.cv (.row 147 (List.map bi xX.1))),(16,.alias (.slot 5)),(17,.cv (.val (.int .i64 (l1.length:Int)))),(18,.cv (.val (.int .i64 xX.2)))],h.on []⟩) hr (ai hwf) (fun W1 xX hr=>?_)
   obtain ⟨out1,v⟩:=xX
   dsimp only[cD.b1]at hr
   refine A_s ?_
   refine aj ?_
   refine au hr (fun cF5 hr=>?_) (fun cF5 hr=>?_)
   ·refine aL ?_
    refine w_n ?_
    refine aj ?_
    refine aI ?_
    refine aj ?_
    obtain ⟨x,nF6,eF7,gF8,hr⟩:=hr.idx
    refine ah ?_
    refine w_n ?_
    refine bE ?_
    refine aw 2 ?_
    obtain ⟨r2,eF9,hr⟩:=hr.bind
    refine be (out:=?o_eF9) (hp:=?p_eF9) ?c_eF9 ?d_eF9 ?_
    case c_eF9=>exact tc out1 x eF9
    case d_eF9=>rfl
    refine ae ?_
    refine (eY (w_n ?_))
    refine ah ?_
    exact (w_k ⟨(r2,(IntKind.i64.wrap (v+(1:Int)))),hr,(ai hwf)⟩)
   ·refine cG ?_
    exact (dG (dG (iy (w_k ⟨out1,(hr).map,(ai hwf)⟩))))
theorem dR (s1:List ak) (s2:List ak) {h:ax} {a:Bool} (e:bg s1 s2=some a):
  cp CT 79 [.cv (.val (.sl (List.map bi s1))),.cv (.val (.sl (List.map bi s2)))] h fun o h'=>o=[.cv (.val (.bool a))]∧h'=h:=by
 refine bv Tryz.func79 fun hwf hu=>?_
 obtain ⟨D,hD,hr⟩:=Holds.one e
 dsimp only[bg]at hr
 change aR _ _ _ _ _ ⟨[(0,.cv (.val (.sl (List.map bi s1)))),(1,.cv (.val (.sl (List.map bi s2))))],h.on []⟩
 refine A_s ?_
 refine aj ?_
 refine A_s ?_
 refine au hr (fun cF1 hr=>?_) (fun cF1 hr=>?_)
 ·refine aj ?_
  refine ah ?_
  refine w_n ?_
  refine bu ?_
  obtain rfl:=hD _ hr
  exact (cw (ba (ai (os':=[]) (sl:=[(4,.cv (.val (.bool false)))]) hwf) ⟨rfl,aK hwf⟩))
 ·refine aL ?_
  refine w_n ?_
  refine aj ?_
  refine A_s ?_
  refine w_K (D:=D) (fun xX:Unit=>⟨[],h.on []⟩) (fun xX:Unit=>bg.k1) (fun xX s' hr ht=>?_) ?_
  ·dsimp only[bg.k1]at hr ht
   refine (eO ht ?_)
   refine A_s ?_
   refine bu ?_
   obtain rfl:=hD _ hr
   exact (ba (ai (os':=[]) (sl:=[(4,.cv (.val (.bool true)))]) hwf) ⟨rfl,aK hwf⟩)
  ·refine aI ?_
   refine cI (fun xX:Int=>⟨[(0,.cv (.val (.sl (List.map bi s1)))),(1,.cv (.val (.sl (List.map bi s2)))),(12,.cv (.val (.int .i64 (s1.length:Int)))),(13,.cv (.val (.int .i64 xX)))],h.on []⟩) hr (ai hwf) (fun W1 xX hr=>?_)
   obtain ⟨v,rfl⟩:∃ z,z=xX:=⟨xX,rfl⟩
   dsimp only[bg.b1]at hr
   refine A_s ?_
   refine aj ?_
   refine au hr (fun cF2 hr=>?_) (fun cF2 hr=>?_)
   ·refine aL ?_
    refine w_n ?_
    refine aj ?_
    refine aI ?_
    refine A_s ?_
    refine aj ?_
    refine cW [0,1,2,3,4,5,6,7,8] (by rfl) ?_
    obtain ⟨x,nF3,eF4,gF5,hr⟩:=hr.idx
    obtain ⟨x1,nF6,eF7,gF8,hr⟩:=hr.idx
    refine bV [0,1,2,3,4,5,6,7,8] [8,7,6,5,4,3,2,1,0] ?_
    refine dw ?_
    refine w_n ?_
    refine au hr (fun cF9 hr=>?_) (fun cF9 hr=>?_)
    ·refine aj ?_
     refine ah ?_
     refine w_n ?_
     refine bu ?_
     obtain rfl:=hD _ hr
     exact (fQ (cw (cw (fQ (cw (cw (ba (ai (os':=[]) (sl:=[(4,.cv (.val (.bool false)))]) hwf) ⟨rfl,aK hwf⟩)))))))
    ·refine aL ?_
     refine (eY (w_n ?_))
     refine ah ?_
     exact (w_k ⟨(IntKind.i64.wrap (v+(1:Int))),hr,(ai hwf)⟩)
   ·refine cG ?_
    exact (dG (dG (iy (w_k ⟨(),(hr).map,(ai hwf)⟩))))
theorem sR (l:List ak) {h:ax} {a:Bool} (e:kn l=some a):
  cp CT 75 [.cv (.val (.sl (List.map bi l)))] h fun o h'=>o=[.cv (.val (.bool a))]∧h'=h:=by
 refine bv Tryz.func75 fun hwf hu=>?_
 obtain ⟨D,hD,hr⟩:=Holds.one e
 dsimp only[kn]at hr
 change aR _ _ _ _ _ ⟨[(0,.cv (.val (.sl (List.map bi l))))],h.on []⟩
 refine A_s ?_
 refine aj ?_
 refine bE ?_
 refine aw 1 ?_
 obtain ⟨r,eF1,hr⟩:=hr.bind
 refine be (out:=?o_eF1) (hp:=?p_eF1) ?c_eF1 ?d_eF1 ?_
 case c_eF1=>exact lT l eF1
 case d_eF1=>rfl
 refine ae ?_
 refine w_n ?_
 obtain ⟨v,vF4,hr⟩:=hr.bind
 refine cq (sj:=⟨[(2,.cv (.val (.bool v)))],h.on []⟩) (bE ?_) ?_
 ·have hr:=Holds.intro (D:=fun z=>z=v) vF4 rfl
  refine aw 3 ?_
  rcases hr.ite with ⟨cF2,hr⟩ | ⟨cF2,hr⟩
  ·refine aw 2 ?_
   obtain ⟨r1,eF3,hr⟩:=hr.bind
   refine be (out:=?o_eF3) (hp:=?p_eF3) ?c_eF3 ?d_eF3 ?_
   case c_eF3=>exact dR r.1 l eF3
   case d_eF3=>rfl
   refine ae ?_
   obtain rfl:_=v:=hr
   exact w_k (ai hwf)
  ·refine aw 2 ?_
   refine iu ?_
   refine ae ?_
   obtain rfl:_=v:=hr
   exact w_k (ai hwf)
 refine bu ?_
 obtain rfl:=hD _ hr
 exact (ba (ai (os':=[]) (sl:=[(2,.cv (.val (.bool v)))]) hwf) ⟨rfl,aK hwf⟩)
end Go.Val
namespace Go.Val
theorem xR (b:List ak) {h:ax} {u:Str} (e:mh b=some u):
  cp CT 76 [.cv (.val (.sl (List.map bi b)))] h fun o h'=>o=[.cv (.val (.str (bs u)))]∧h'=h:=
 cp.hand (C:=CT) (show tE 76 _ h _ h from ⟨rfl,.inr (.inr (.inl ⟨rfl,b,u,rfl,e,rfl⟩))⟩) ⟨rfl,rfl⟩
end Go.Val
namespace Go.Val
set_option maxRecDepth 20000
open Go.Proofs
theorem jJ (n:az) {h:ax} {a:Bool} (e:gZ n=some a):
  cp CT 139 [.cv (.val (.agg [.int .i64 n.Kind,.int .i64 n.Set,.sl (List.map bR n.Kids)]))] h fun o h'=>o=[.cv (.val (.bool a))]∧h'=h:=by
 refine bv Tryz.func139 fun hwf hu=>?_
 obtain ⟨D,hD,hr⟩:=Holds.one e
 dsimp only[gZ]at hr
 change aR _ _ _ _ _ ⟨[(0,.cv (.val (.agg [.int .i64 n.Kind,.int .i64 n.Set,.sl (List.map bR n.Kids)])))],h.on []⟩
 refine A_s ?_
 refine cq (sj:=⟨[(2,.cv (.val (.bool ((decide (n.Kind≥(3:Int)))&&(decide (n.Kind≤(5:Int)))))))],h.on []⟩) (bE ?_) ?_
 ·refine aw 4 ?_
  rcases Bool.eq_false_or_eq_true (decide (n.Kind≥(3:Int)))with cF1 | cF1
  ·refine ae ?_
   exact w_k (ai hwf)
  ·refine ae ?_
   exact w_k (ai hwf)
 refine bu ?_
 obtain rfl:=hD _ hr
 exact (ba (ai (os':=[]) (sl:=[(2,.cv (.val (.bool ((decide (n.Kind≥(3:Int)))&&(decide (n.Kind≤(5:Int)))))))]) hwf) ⟨rfl,aK hwf⟩)
theorem qL (n:az) {h:ax} {a:Bool} (e:jA n=some a):
  cp CT 140 [.cv (.val (.agg [.int .i64 n.Kind,.int .i64 n.Set,.sl (List.map bR n.Kids)]))] h fun o h'=>o=[.cv (.val (.bool a))]∧h'=h:=by
 refine bv Tryz.func140 fun hwf hu=>?_
 obtain ⟨D,hD,hr⟩:=Holds.one e
 dsimp only[jA]at hr
 change aR _ _ _ _ _ ⟨[(0,.cv (.val (.agg [.int .i64 n.Kind,.int .i64 n.Set,.sl (List.map bR n.Kids)])))],h.on []⟩
 refine A_s ?_
 refine aj ?_
 refine A_s ?_
 refine aI ?_
 refine A_s ?_
 refine au hr (fun cF1 hr=>?_) (fun cF1 hr=>?_)
 ·refine aj ?_
  refine ah ?_
  refine w_n ?_
  refine bu ?_
  obtain rfl:=hD _ hr
  exact (fQ (cw (ba (ai (os':=[]) (sl:=[(2,.cv (.val (.bool ((n.Kids.length:Int) != (1:Int)))))]) hwf) ⟨rfl,aK hwf⟩)))
 ·refine aj ?_
  refine ah ?_
  refine w_n ?_
  refine au hr (fun cF2 hr=>?_) (fun cF2 hr=>?_)
  ·refine aj ?_
   refine ah ?_
   refine w_n ?_
   refine bu ?_
   obtain rfl:=hD _ hr
   exact (fQ (cw (ba (ai (os':=[]) (sl:=[(2,.cv (.val (.bool (decide ((n.Kids.length:Int) > (1:Int))))))]) hwf) ⟨rfl,aK hwf⟩)))
  ·refine aL ?_
   refine (eY (w_n ?_))
   obtain ⟨v,vF5,hr⟩:=hr.bind
   refine cq (sj:=⟨[(2,.cv (.val (.bool v)))],h.on []⟩) (bE ?_) ?_
   ·have hr:=Holds.intro (D:=fun z=>z=v) vF5 rfl
    refine aw 1 ?_
    obtain ⟨r,eF3,hr⟩:=hr.bind
    refine be (out:=?o_eF3) (hp:=?p_eF3) ?c_eF3 ?d_eF3 ?_
    case c_eF3=>exact jJ n eF3
    case d_eF3=>rfl
    refine aw 1 ?_
    rcases hr.ite with ⟨cF4,hr⟩ | ⟨cF4,hr⟩
    ·refine ae ?_
     obtain rfl:_=v:=hr
     exact w_k (ai hwf)
    ·refine ae ?_
     obtain rfl:_=v:=hr
     exact w_k (ai hwf)
   refine bu ?_
   obtain rfl:=hD _ hr
   exact (ba (ai (os':=[]) (sl:=[(2,.cv (.val (.bool v)))]) hwf) ⟨rfl,aK hwf⟩)
theorem qN (of:az) (n:az) {h:ax} {a:Bool} (e:lF of n=some a):
  cp CT 141 [.cv (.val (.agg [.int .i64 of.Kind,.int .i64 of.Set,.sl (List.map bR of.Kids)])),.cv (.val (.agg [.int .i64 n.Kind,.int .i64 n.Set,.sl (List.map bR n.Kids)]))] h fun o h'=>o=[.cv (.val (.bool a))]∧h'=h:=by
 refine bv Tryz.func141 fun hwf hu=>?_
 obtain ⟨D,hD,hr⟩:=Holds.one e
 dsimp only[lF]at hr
 change aR _ _ _ _ _ ⟨[(0,.cv (.val (.agg [.int .i64 of.Kind,.int .i64 of.Set,.sl (List.map bR of.Kids)]))),(1,.cv (.val (.agg [.int .i64 n.Kind,.int .i64 n.Set,.sl (List.map bR n.Kids)])))],h.on []⟩
 refine A_s ?_
 refine cq (sj:=⟨[(4,.cv (.val (.bool ((n.Kind==(2:Int))||((n.Kind==(0:Int))&&(of.Kind != (2:Int)))))))],h.on []⟩) (bE ?_) ?_
 ·refine aw 4 ?_
  rcases Bool.eq_false_or_eq_true (n.Kind==(2:Int))with cF1 | cF1
  ·refine ae ?_
   exact w_k (ai hwf)
  ·refine aw 4 ?_
   rcases Bool.eq_false_or_eq_true (n.Kind==(0:Int))with cF2 | cF2
   ·refine ae ?_
    exact w_k (ai hwf)
   ·refine ae ?_
    exact w_k (ai hwf)
 refine bu ?_
 obtain rfl:=hD _ hr
 exact (ba (ai (os':=[]) (sl:=[(4,.cv (.val (.bool ((n.Kind==(2:Int))||((n.Kind==(0:Int))&&(of.Kind != (2:Int)))))))]) hwf) ⟨rfl,aK hwf⟩)
theorem jB:∀ (fu:Nat) (c:aU) (n:az) (depth:Int) (signs:Int) (l0:Nat) {h:ax} (ha0:h.at_ l0=some (.cells [.val (.int .i64 c.sets),.val (.int .i64 c.met)])) {a:(Bool×aU)} (e:aa.r fu c n depth signs=some a),
  cp CT 77 [.cv (.val (.ptr (some (l0,0)))),.cv (.val (.agg [.int .i64 n.Kind,.int .i64 n.Set,.sl (List.map bR n.Kids)])),.cv (.val (.int .i64 depth)),.cv (.val (.int .i64 signs))] h fun o h'=>o=[.cv (.val (.bool a.1))]∧h'=(h.upd l0 (.cells [.val (.int .i64 a.2.sets),.val (.int .i64 a.2.met)])):=by
 intro fu
 induction fu with
 | zero=>intros;rename_i e;simp[aa.r]at e
 | succ fu ih=>
  intro c n depth signs l0 h ha0 a e
  refine bv Tryz.func77 fun hwf hu=>?_
  have hl0:=(hwf _ _ ha0).1
  have kl0:=lQ hl0
  have ku0:=abz hl0 ha0
  obtain ⟨D,hD,hr⟩:=Holds.one e
  dsimp only[aa.r]at hr
  change aR _ _ _ _ _ ⟨[(0,.cv (.val (.ptr (some (l0,0))))),(1,.cv (.val (.agg [.int .i64 n.Kind,.int .i64 n.Set,.sl (List.map bR n.Kids)]))),(2,.cv (.val (.int .i64 depth))),(3,.cv (.val (.int .i64 signs)))],h.on []⟩
  refine A_s ?_
  refine aj ?_
  refine A_s ?_
  refine au hr (fun cF1 hr=>?_) (fun cF1 hr=>?_)
  ·refine cq (sj:=⟨[(0,.cv (.val (.ptr (some (l0,0))))),(5,.cv (.val (.ptr (some (h.n+0,0))))),(9,.cv (.val (.bool (((n.Kids.length:Int)==(0:Int))&&((decide (n.Set≥(0:Int)))&&((decide (n.Set < c.sets))&&(decide (n.Set≤c.met))))))))],h.on [some (.cells [.val (.int .i64 n.Kind),.val (.int .i64 n.Set),.val (.sl (List.map bR n.Kids))])]⟩) (cW [0,1,2,3,4,5,6,7,8,9,10,11,12,13,14,15,16,17,18,19,20,21,22,23,24,25,26,27] (by rfl) ?_) ?_
   ·refine bV [0,1,2,3,4] [4,3,2,1,0] ?_
    rcases Bool.eq_false_or_eq_true ((n.Kids.length:Int)==(0:Int))with cF2 | cF2
    ·refine bV [5,6,7,8,9] [9,8,7,6,5,4,3,2,1,0] ?_
     rcases Bool.eq_false_or_eq_true (decide (n.Set≥(0:Int)))with cF3 | cF3
     ·refine bV [10,11,12,13,14,15,16,17,18] [18,17,16,15,14,13,12,11,10,9,8,7,6,5,4,3,2,1,0] ?_
      rcases Bool.eq_false_or_eq_true (decide (n.Set < c.sets))with cF4 | cF4
      ·refine bV [19,20,21,22,23,24,25,26] [26,25,24,23,22,21,20,19,18,17,16,15,14,13,12,11,10,9,8,7,6,5,4,3,2,1,0] ?_
       refine dp [] ?_
       refine dw ?_
       exact w_k (ai hwf)
      ·refine bV [19,20,21,22,23,24,25,26] [26,25,24,23,22,21,20,19,18,17,16,15,14,13,12,11,10,9,8,7,6,5,4,3,2,1,0] ?_
       refine dp [] ?_
       refine dw ?_
       exact w_k (ai hwf)
     ·refine bV [10,11,12,13,14,15,16,17,18,19,20,21,22,23,24,25,26] [26,25,24,23,22,21,20,19,18,17,16,15,14,13,12,11,10,9,8,7,6,5,4,3,2,1,0] ?_
      refine dp [] ?_
      refine dw ?_
      exact w_k (ai hwf)
    ·refine bV [5,6,7,8,9,10,11,12,13,14,15,16,17,18,19,20,21,22,23,24,25,26] [26,25,24,23,22,21,20,19,18,17,16,15,14,13,12,11,10,9,8,7,6,5,4,3,2,1,0] ?_
     refine dp [] ?_
     refine dw ?_
     exact w_k (ai hwf)
   refine aj ?_
   refine cW [0,1,2,3,4,5,6,7,8,9,10,11,12,13,14,15,16] (by rfl) ?_
   refine bV [0,1,2,3,4,5,6,7,8,9,10,11,12,13,14,15] [15,14,13,12,11,10,9,8,7,6,5,4,3,2,1,0] ?_
   refine dp [] ?_
   refine dw ?_
   refine w_n ?_
   refine A_s ?_
   refine bu ?_
   obtain rfl:=hD _ hr
   exact (cw (ba (ai (os':=[]) (sl:=[(8,.cv (.val (.bool (((n.Kids.length:Int)==(0:Int))&&((decide (n.Set≥(0:Int)))&&((decide (n.Set < c.sets))&&(decide (n.Set≤c.met))))))))]) (h:=(h.upd l0 (.cells [.val (.int .i64 c.sets),.val (.int .i64 (mx c.met (IntKind.i64.wrap ((mn n.Set c.sets)+(1:Int)))))]))) (eW hwf hl0)) ⟨rfl,aK (eW hwf hl0)⟩))
  ·refine aL ?_
   refine w_n ?_
   refine aj ?_
   refine A_s ?_
   refine aj ?_
   refine bE ?_
   refine aw 1 ?_
   obtain ⟨r,eF5,hr⟩:=hr.bind
   refine be (out:=?o_eF5) (hp:=?p_eF5) ?c_eF5 ?d_eF5 ?_
   case c_eF5=>exact jJ n eF5
   case d_eF5=>rfl
   refine ae ?_
   refine w_n ?_
   refine w_K (D:=D) (fun xX:Int=>⟨[(0,.cv (.val (.ptr (some (l0,0))))),(2,.cv (.val (.int .i64 depth))),(3,.cv (.val (.int .i64 xX))),(5,.cv (.val (.ptr (some (h.n+0,0)))))],h.on [some (.cells [.val (.int .i64 n.Kind),.val (.int .i64 n.Set),.val (.sl (List.map bR n.Kids))])]⟩) (fun xX:Int=>aa.k1 (aa.r fu) c n depth xX) (fun xX s' hr ht=>?_) ?_
   ·obtain ⟨signs1,rfl⟩:∃ z,z=xX:=⟨xX,rfl⟩
    dsimp only[aa.k1]at hr ht
    refine (eO ht ?_)
    refine aj ?_
    obtain ⟨v,vF9,hr⟩:=hr.bind
    refine cq (sj:=⟨[(0,.cv (.val (.ptr (some (l0,0))))),(2,.cv (.val (.int .i64 depth))),(3,.cv (.val (.int .i64 signs1))),(5,.cv (.val (.ptr (some (h.n+0,0))))),(76,.cv (.val (.bool v)))],h.on [some (.cells [.val (.int .i64 n.Kind),.val (.int .i64 n.Set),.val (.sl (List.map bR n.Kids))])]⟩) (bE ?_) ?_
    ·have hr:=Holds.intro (D:=fun z=>z=v) vF9 rfl
     refine aw 1 ?_
     obtain ⟨r1,eF6,hr⟩:=hr.bind
     refine be (out:=?o_eF6) (hp:=?p_eF6) ?c_eF6 ?d_eF6 ?_
     case c_eF6=>exact qL n eF6
     case d_eF6=>rfl
     refine aw 2 ?_
     rcases hr.ite with ⟨cF7,hr⟩ | ⟨cF7,hr⟩
     ·refine ae ?_
      obtain rfl:_=v:=hr
      exact w_k (ai hwf)
     ·refine aw 5 ?_
      rcases hr.ite with ⟨cF8,hr⟩ | ⟨cF8,hr⟩
      ·refine ae ?_
       obtain rfl:_=v:=hr
       exact w_k (ai hwf)
      ·refine ae ?_
       obtain rfl:_=v:=hr
       exact w_k (ai hwf)
    refine au hr (fun cF10 hr=>?_) (fun cF10 hr=>?_)
    ·refine aj ?_
     refine ah ?_
     refine w_n ?_
     refine bu ?_
     obtain rfl:=hD _ hr
     exact (cw (ba (ai (os':=[]) (sl:=[(8,.cv (.val (.bool false)))]) (h:=(h.upd l0 (.cells [.val (.int .i64 c.sets),.val (.int .i64 c.met)]))) (eW hwf hl0)) ⟨rfl,aK (eW hwf hl0)⟩))
    ·refine aL ?_
     refine w_n ?_
     refine aj ?_
     refine A_s ?_
     refine w_K (D:=D) (fun xX:(Int×Int)=>⟨[],(h.upd l0 (.cells [.val (.int .i64 xX.1),.val (.int .i64 xX.2)])).on []⟩) (fun xX:(Int×Int)=>aa.k2 xX.1 xX.2) (fun xX s' hr ht=>?_) ?_
     ·obtain ⟨sets,met⟩:=xX
      dsimp only[aa.k2]at hr ht
      refine (eO ht ?_)
      refine A_s ?_
      refine bu ?_
      obtain rfl:=hD _ hr
      exact (ba (ai (os':=[]) (sl:=[(8,.cv (.val (.bool true)))]) (h:=(h.upd l0 (.cells [.val (.int .i64 sets),.val (.int .i64 met)]))) (eW hwf hl0)) ⟨rfl,aK (eW hwf hl0)⟩)
     ·refine aI ?_
      refine cI (fun xX:(Int×Int×Int)=>⟨[(0,.cv (.val (.ptr (some (l0,0))))),(2,.cv (.val (.int .i64 depth))),(3,.cv (.val (.int .i64 signs1))),(5,.cv (.val (.ptr (some (h.n+0,0))))),(78,.cv (.val (.sl (List.map bR n.Kids)))),(79,.cv (.val (.int .i64 (n.Kids.length:Int)))),(80,.cv (.val (.int .i64 xX.1)))],(h.upd l0 (.cells [.val (.int .i64 xX.2.1),.val (.int .i64 xX.2.2)])).on [some (.cells [.val (.int .i64 n.Kind),.val (.int .i64 n.Set),.val (.sl (List.map bR n.Kids))])]⟩) hr (ai (eW hwf hl0)) (fun W1 xX hr=>?_)
      obtain ⟨v1,sets1,met1⟩:=xX
      dsimp only[aa.b1]at hr
      refine A_s ?_
      refine aj ?_
      refine au hr (fun cF11 hr=>?_) (fun cF11 hr=>?_)
      ·refine aL ?_
       refine w_n ?_
       refine aj ?_
       refine aI ?_
       refine aj ?_
       obtain ⟨x,nF12,eF13,gF14,hr⟩:=hr.idx
       refine ah ?_
       refine w_n ?_
       refine A_s ?_
       refine aj ?_
       refine aj ?_
       refine bE ?_
       refine aw 2 ?_
       obtain ⟨r2,eF15,hr⟩:=hr.bind
       refine be (out:=?o_eF15) (hp:=?p_eF15) ?c_eF15 ?d_eF15 ?_
       case c_eF15=>exact qN n x eF15
       case d_eF15=>rfl
       refine de ?_
       refine w_n ?_
       refine w_K (D:=(Aft W1 D)) (fun xX:Int=>⟨[(0,.cv (.val (.ptr (some (l0,0))))),(2,.cv (.val (.int .i64 depth))),(3,.cv (.val (.int .i64 signs1))),(5,.cv (.val (.ptr (some (h.n+0,0))))),(11,.cv (.val (.ptr (some (h.n+1,0))))),(12,.cv (.val (.int .i64 xX))),(78,.cv (.val (.sl (List.map bR n.Kids)))),(79,.cv (.val (.int .i64 (n.Kids.length:Int)))),(80,.cv (.val (.int .i64 v1)))],(h.upd l0 (.cells [.val (.int .i64 sets1),.val (.int .i64 met1)])).on [some (.cells [.val (.int .i64 n.Kind),.val (.int .i64 n.Set),.val (.sl (List.map bR n.Kids))]),some (.cells [.val (.int .i64 x.Kind),.val (.int .i64 x.Set),.val (.sl (List.map bR x.Kids))])]⟩) (fun xX:Int=>aa.k3 (aa.r fu) signs1 v1 sets1 met1 x xX) (fun xX s' hr ht=>?_) ?_
       ·obtain ⟨more,rfl⟩:∃ z,z=xX:=⟨xX,rfl⟩
        dsimp only[aa.k3]at hr ht
        refine (eO ht ?_)
        obtain ⟨⟨v2,sets2,met2⟩,vF18,hr⟩:=hr.bind
        dsimp only at hr
        refine cq (sj:=⟨[(0,.cv (.val (.ptr (some (l0,0))))),(2,.cv (.val (.int .i64 depth))),(3,.cv (.val (.int .i64 signs1))),(5,.cv (.val (.ptr (some (h.n+0,0))))),(78,.cv (.val (.sl (List.map bR n.Kids)))),(79,.cv (.val (.int .i64 (n.Kids.length:Int)))),(80,.cv (.val (.int .i64 v1))),(99,.cv (.val (.bool v2)))],(h.upd l0 (.cells [.val (.int .i64 sets2),.val (.int .i64 met2)])).on [some (.cells [.val (.int .i64 n.Kind),.val (.int .i64 n.Set),.val (.sl (List.map bR n.Kids))])]⟩) (bE ?_) ?_
        ·have hr:=Holds.intro (D:=fun z=>z=(v2,sets2,met2)) vF18 rfl
         refine aw 3 ?_
         rcases hr.ite with ⟨cF16,hr⟩ | ⟨cF16,hr⟩
         ·refine aw 4 ?_
          refine iu ?_
          refine ae ?_
          cases (show (_,_,_)=(v2,sets2,met2) from hr)
          exact w_k (ai (eW hwf hl0))
         ·refine aw 4 ?_
          obtain ⟨r3,eF17,hr⟩:=hr.bind
          refine be (out:=?o_eF17) (hp:=?p_eF17) ?c_eF17 ?d_eF17 ?_
          case c_eF17=>(refine ih (aU.mk sets1 met1) x more signs1 (l0) ?_ eF17;exact cE)
          case d_eF17=>rfl
          refine ae ?_
          cases (show (_,_,_)=(v2,sets2,met2) from hr)
          exact w_k (ai (eW hwf hl0))
        refine au hr (fun cF19 hr=>?_) (fun cF19 hr=>?_)
        ·refine aj ?_
         refine ah ?_
         refine w_n ?_
         refine bu ?_
         obtain rfl:=hD _ hr
         exact (fQ (cw (cw (fQ (cw (cw (ba (ai (os':=[]) (sl:=[(8,.cv (.val (.bool false)))]) (h:=(h.upd l0 (.cells [.val (.int .i64 sets2),.val (.int .i64 met2)]))) (eW hwf hl0)) ⟨rfl,aK (eW hwf hl0)⟩)))))))
        ·refine aL ?_
         refine (eY (w_n ?_))
         refine ah ?_
         exact (w_k ⟨((IntKind.i64.wrap (v1+(1:Int))),sets2,met2),hr,(ai (eW hwf hl0))⟩)
       ·refine au hr (fun cF20 hr=>?_) (fun cF20 hr=>?_)
        ·refine ah ?_
         exact (w_k ⟨(IntKind.i64.wrap (depth+(1:Int))),hr,(ai (eW hwf hl0))⟩)
        ·refine aL ?_
         exact (w_k ⟨depth,hr,(ai (eW hwf hl0))⟩)
      ·refine cG ?_
       exact (dG (dG (iy (w_k ⟨(sets1,met1),(hr).map,(ai (eW hwf hl0))⟩))))
   ·refine au hr (fun cF21 hr=>?_) (fun cF21 hr=>?_)
    ·refine ah ?_
     exact (w_k ⟨(0:Int),hr,(ai hwf)⟩)
    ·refine aL ?_
     exact (w_k ⟨(IntKind.i64.wrap (signs+(1:Int))),hr,(ai hwf)⟩)
theorem gn (c:aU) (n:az) (depth:Int) (signs:Int) (l0:Nat) {h:ax} (ha0:h.at_ l0=some (.cells [.val (.int .i64 c.sets),.val (.int .i64 c.met)])) {a:(Bool×aU)} (e:aa c n depth signs=some a):
  cp CT 77 [.cv (.val (.ptr (some (l0,0)))),.cv (.val (.agg [.int .i64 n.Kind,.int .i64 n.Set,.sl (List.map bR n.Kids)])),.cv (.val (.int .i64 depth)),.cv (.val (.int .i64 signs))] h fun o h'=>o=[.cv (.val (.bool a.1))]∧h'=(h.upd l0 (.cells [.val (.int .i64 a.2.sets),.val (.int .i64 a.2.met)])):=by
 obtain ⟨fuN,fuH⟩:=lK e
 exact jB fuN c n depth signs l0 ha0 (fuH fuN (Nat.le_refl fuN))
theorem pE (p:aW) {h:ax} {a:Bool} (e:bz p=some a):
  cp CT 31 [.cv (.val (.agg [.sl (List.map (eL bi) p.Sets),.sl (List.map fp p.Rules)]))] h fun o h'=>o=[.cv (.val (.bool a))]∧h'=h:=by
 refine bv Tryz.func31 fun hwf hu=>?_
 obtain ⟨D,hD,hr⟩:=Holds.one e
 dsimp only[bz]at hr
 change aR _ _ _ _ _ ⟨[(0,.cv (.val (.agg [.sl (List.map (eL bi) p.Sets),.sl (List.map fp p.Rules)])))],h.on []⟩
 refine A_s ?_
 refine aj ?_
 refine cq (sj:=⟨[(1,.cv (.val (.ptr (some (h.n+0,0))))),(18,.cv (.val (.bool ((decide ((p.Sets.length:Int) > (60:Int)))||(decide ((p.Rules.length:Int) > (64:Int)))))))],h.on [some (.cells [.val (.sl (List.map (eL bi) p.Sets)),.val (.sl (List.map fp p.Rules))])]⟩) (bE ?_) ?_
 ·refine aw 5 ?_
  rcases Bool.eq_false_or_eq_true (decide ((p.Sets.length:Int) > (60:Int)))with cF1 | cF1
  ·refine ae ?_
   exact w_k (ai hwf)
  ·refine ae ?_
   exact w_k (ai hwf)
 refine au hr (fun cF2 hr=>?_) (fun cF2 hr=>?_)
 ·refine aj ?_
  refine ah ?_
  refine w_n ?_
  refine bu ?_
  obtain rfl:=hD _ hr
  exact (cw (ba (ai (os':=[]) (sl:=[(2,.cv (.val (.bool false)))]) hwf) ⟨rfl,aK hwf⟩))
 ·refine aL ?_
  refine w_n ?_
  refine A_s ?_
  refine aj ?_
  refine A_s ?_
  refine w_K (D:=D) (fun xX:List (Str×Bool)=>⟨[(1,.cv (.val (.ptr (some (h.n+0,0))))),(3,.cv (.val (.map (some (h.n+1)))))],h.on [some (.cells [.val (.sl (List.map (eL bi) p.Sets)),.val (.sl (List.map fp p.Rules))]),some (.map 9 (eZ eS eB xX))]⟩) (fun xX:List (Str×Bool)=>bz.k1 p xX) (fun xX s' hr ht=>?_) ?_
  ·obtain ⟨m,rfl⟩:∃ z,z=xX:=⟨xX,rfl⟩
   dsimp only[bz.k1]at hr ht
   refine (eO ht ?_)
   refine A_s ?_
   refine aj ?_
   refine A_s ?_
   refine w_K (D:=D) (fun xX:(Int×Int)=>⟨[(1,.cv (.val (.ptr (some (h.n+0,0))))),(3,.cv (.val (.map (some (h.n+1))))),(6,.cv (.val (.ptr (some (h.n+2,0)))))],h.on [some (.cells [.val (.sl (List.map (eL bi) p.Sets)),.val (.sl (List.map fp p.Rules))]),some (.map 9 (eZ eS eB m)),some (.cells [.val (.int .i64 xX.1),.val (.int .i64 xX.2)])]⟩) (fun xX:(Int×Int)=>bz.k2 p m xX.1 xX.2) (fun xX s' hr ht=>?_) ?_
   ·obtain ⟨sets,met⟩:=xX
    dsimp only[bz.k2]at hr ht
    refine (eO ht ?_)
    refine cq (sj:=⟨[(2,.cv (.val (.bool (((m.length:Int)==(p.Sets.length:Int))&&(met==(p.Sets.length:Int))))))],h.on []⟩) (cW [0,1,2,3,4,5,6,7,8,9,10,11,12,13,14,15,16] (by rfl) ?_) ?_
    ·refine bV [0,1,2,3,4,5,6] [6,5,4,3,2,1,0] ?_
     rcases Bool.eq_false_or_eq_true ((m.length:Int)==(p.Sets.length:Int))with cF3 | cF3
     ·refine bV [7,8,9,10,11,12,13,14,15] [15,14,13,12,11,10,9,8,7,6,5,4,3,2,1,0] ?_
      refine dp [] ?_
      refine dw ?_
      exact w_k (ai hwf)
     ·refine bV [7,8,9,10,11,12,13,14,15] [15,14,13,12,11,10,9,8,7,6,5,4,3,2,1,0] ?_
      refine dp [] ?_
      refine dw ?_
      exact w_k (ai hwf)
    refine bu ?_
    obtain rfl:=hD _ hr
    exact (ba (ai (os':=[]) (sl:=[(2,.cv (.val (.bool (((m.length:Int)==(p.Sets.length:Int))&&(met==(p.Sets.length:Int))))))]) hwf) ⟨rfl,aK hwf⟩)
   ·refine aI ?_
    refine cI (fun xX:(Int×Int×Int)=>⟨[(1,.cv (.val (.ptr (some (h.n+0,0))))),(3,.cv (.val (.map (some (h.n+1))))),(6,.cv (.val (.ptr (some (h.n+2,0))))),(40,.cv (.val (.sl (List.map fp p.Rules)))),(41,.cv (.val (.int .i64 (p.Rules.length:Int)))),(42,.cv (.val (.int .i64 xX.1)))],h.on [some (.cells [.val (.sl (List.map (eL bi) p.Sets)),.val (.sl (List.map fp p.Rules))]),some (.map 9 (eZ eS eB m)),some (.cells [.val (.int .i64 xX.2.1),.val (.int .i64 xX.2.2)])]⟩) hr (ai hwf) (fun W1 xX hr=>?_)
    obtain ⟨v2,sets1,met1⟩:=xX
    dsimp only[bz.b1]at hr
    refine A_s ?_
    refine aj ?_
    refine au hr (fun cF4 hr=>?_) (fun cF4 hr=>?_)
    ·refine aL ?_
     refine w_n ?_
     refine aj ?_
     refine aI ?_
     refine aj ?_
     obtain ⟨x,nF5,eF6,gF7,hr⟩:=hr.idx
     refine ah ?_
     refine w_n ?_
     obtain ⟨⟨v3,sets2,met2⟩,vF11,hr⟩:=hr.bind
     dsimp only at hr
     refine cq (sj:=⟨[(1,.cv (.val (.ptr (some (h.n+0,0))))),(3,.cv (.val (.map (some (h.n+1))))),(6,.cv (.val (.ptr (some (h.n+2,0))))),(40,.cv (.val (.sl (List.map fp p.Rules)))),(41,.cv (.val (.int .i64 (p.Rules.length:Int)))),(42,.cv (.val (.int .i64 v2))),(57,.cv (.val (.bool v3)))],h.on [some (.cells [.val (.sl (List.map (eL bi) p.Sets)),.val (.sl (List.map fp p.Rules))]),some (.map 9 (eZ eS eB m)),some (.cells [.val (.int .i64 sets2),.val (.int .i64 met2)])]⟩) (bE ?_) ?_
     ·have hr:=Holds.intro (D:=fun z=>z=(v3,sets2,met2)) vF11 rfl
      refine aw 3 ?_
      obtain ⟨r,eF8,hr⟩:=hr.bind
      refine be (out:=?o_eF8) (hp:=?p_eF8) ?c_eF8 ?d_eF8 ?_
      case c_eF8=>(refine gn (aU.mk sets1 met1) x.Left (0:Int) (0:Int) (h.n+2) ?_ eF8;exact cE)
      case d_eF8=>rfl
      refine aw 2 ?_
      rcases hr.ite with ⟨cF9,hr⟩ | ⟨cF9,hr⟩
      ·refine aw 3 ?_
       refine iu ?_
       refine ae ?_
       cases (show (_,_,_)=(v3,sets2,met2) from hr)
       exact w_k (ai hwf)
      ·refine aw 3 ?_
       obtain ⟨r1,eF10,hr⟩:=hr.bind
       refine be (out:=?o_eF10) (hp:=?p_eF10) ?c_eF10 ?d_eF10 ?_
       case c_eF10=>(refine gn r.2 x.Right (0:Int) (0:Int) (h.n+2) ?_ eF10;exact cE)
       case d_eF10=>rfl
       refine ae ?_
       cases (show (_,_,_)=(v3,sets2,met2) from hr)
       exact w_k (ai hwf)
     refine au hr (fun cF12 hr=>?_) (fun cF12 hr=>?_)
     ·refine aj ?_
      refine ah ?_
      refine w_n ?_
      refine bu ?_
      obtain rfl:=hD _ hr
      exact (fQ (cw (cw (fQ (cw (cw (ba (ai (os':=[]) (sl:=[(2,.cv (.val (.bool false)))]) hwf) ⟨rfl,aK hwf⟩)))))))
     ·refine aL ?_
      refine (eY (w_n ?_))
      refine ah ?_
      exact (w_k ⟨((IntKind.i64.wrap (v2+(1:Int))),sets2,met2),hr,(ai hwf)⟩)
    ·refine cG ?_
     exact (dG (dG (iy (w_k ⟨(sets1,met1),(hr).map,(ai hwf)⟩))))
  ·refine aI ?_
   refine cI (fun xX:(Int×List (Str×Bool))=>⟨[(1,.cv (.val (.ptr (some (h.n+0,0))))),(3,.cv (.val (.map (some (h.n+1))))),(21,.cv (.val (.sl (List.map (eL bi) p.Sets)))),(22,.cv (.val (.int .i64 (p.Sets.length:Int)))),(23,.cv (.val (.int .i64 xX.1)))],h.on [some (.cells [.val (.sl (List.map (eL bi) p.Sets)),.val (.sl (List.map fp p.Rules))]),some (.map 9 (eZ eS eB xX.2))]⟩) hr (ai hwf) (fun W2 xX hr=>?_)
   obtain ⟨v4,m1⟩:=xX
   dsimp only[bz.b2]at hr
   refine A_s ?_
   refine aj ?_
   refine au hr (fun cF13 hr=>?_) (fun cF13 hr=>?_)
   ·refine aL ?_
    refine w_n ?_
    refine aj ?_
    refine aI ?_
    refine aj ?_
    obtain ⟨xs,nF14,eF15,gF16,hr⟩:=hr.idx
    refine ah ?_
    refine w_n ?_
    refine aj ?_
    refine aj ?_
    refine bE ?_
    refine aw 1 ?_
    obtain ⟨r2,eF17,hr⟩:=hr.bind
    refine be (out:=?o_eF17) (hp:=?p_eF17) ?c_eF17 ?d_eF17 ?_
    case c_eF17=>exact sR xs eF17
    case d_eF17=>rfl
    refine ae ?_
    refine w_n ?_
    refine au hr (fun cF18 hr=>?_) (fun cF18 hr=>?_)
    ·refine aj ?_
     refine ah ?_
     refine w_n ?_
     refine bu ?_
     obtain rfl:=hD _ hr
     exact (cw (fQ (cw (cw (fQ (cw (cw (ba (ai (os':=[]) (sl:=[(2,.cv (.val (.bool false)))]) hwf) ⟨rfl,aK hwf⟩))))))))
    ·refine aL ?_
     refine w_n ?_
     refine bE ?_
     refine aw 2 ?_
     obtain ⟨r3,eF19,hr⟩:=hr.bind
     refine be (out:=?o_eF19) (hp:=?p_eF19) ?c_eF19 ?d_eF19 ?_
     case c_eF19=>exact xR xs eF19
     case d_eF19=>rfl
     refine ae ?_
     refine (eY (w_n ?_))
     refine ah ?_
     exact (w_k ⟨((IntKind.i64.wrap (v4+(1:Int))),(iW r3 true m1)),hr,(ai hwf)⟩)
   ·refine cG ?_
    exact (dG (dG (iy (w_k ⟨m1,(hr).map,(ai hwf)⟩))))
theorem pz (x:ak) (r:Int) {h:ax} {a:Int} (e:fL x r=some a):
  cp CT 206 [.cv (.val (.agg [.int .i64 x.Low,.int .i64 x.High])),.cv (.val (.int .i64 r))] h fun o h'=>o=[.cv (.val (.int .i64 a))]∧h'=h:=by
 refine bv Tryz.func206 fun hwf hu=>?_
 obtain ⟨D,hD,hr⟩:=Holds.one e
 dsimp only[fL]at hr
 change aR _ _ _ _ _ ⟨[(0,.cv (.val (.agg [.int .i64 x.Low,.int .i64 x.High]))),(1,.cv (.val (.int .i64 r)))],h.on []⟩
 refine A_s ?_
 refine aj ?_
 refine aI ?_
 refine A_s ?_
 refine au hr (fun cF1 hr=>?_) (fun cF1 hr=>?_)
 ·refine aj ?_
  refine ah ?_
  refine w_n ?_
  refine bu ?_
  obtain rfl:=hD _ hr
  exact (fQ (cw (ba (ai (os':=[]) (sl:=[(4,.cv (.val (.int .i64 (-1:Int))))]) hwf) ⟨rfl,aK hwf⟩)))
 ·refine aj ?_
  refine ah ?_
  refine w_n ?_
  refine au hr (fun cF2 hr=>?_) (fun cF2 hr=>?_)
  ·refine aj ?_
   refine ah ?_
   refine w_n ?_
   refine bu ?_
   obtain rfl:=hD _ hr
   exact (fQ (cw (ba (ai (os':=[]) (sl:=[(4,.cv (.val (.int .i64 (1:Int))))]) hwf) ⟨rfl,aK hwf⟩)))
  ·refine aL ?_
   refine (eY (w_n ?_))
   refine A_s ?_
   refine bu ?_
   obtain rfl:=hD _ hr
   exact (ba (ai (os':=[]) (sl:=[(4,.cv (.val (.int .i64 (0:Int))))]) hwf) ⟨rfl,aK hwf⟩)
theorem dZ (x:List ak) (target:Int) (cmp:ak→Int→Option Int) (fid_cmp:FuncId) (caps_cmp:List ao) {h:ax} (h_cmp:∀ os x0 x1 r,cmp x0 x1=some r→cp CT fid_cmp ([.cv (.val (.agg [.int .i64 x0.Low,.int .i64 x0.High])),.cv (.val (.int .i64 x1))]++jc caps_cmp) (h.on os) fun o h'=>o=[.cv (.val (.int .i64 r))]∧h'=h.on os) (d_cmp:∀ i,CT.how fid_cmp i= .data) {a:(Int×Bool)} (e:an x target cmp=some a):
  cp CT 205 [.cv (.val (.sl (List.map bi x))),.cv (.val (.int .i64 target)),.cv (.val (.fn fid_cmp [] caps_cmp))] h fun o h'=>o=[.cv (.val (.int .i64 a.1)),.cv (.val (.bool a.2))]∧h'=h:=by
 refine bv Tryz.func205 fun hwf hu=>?_
 have u_cmp:bG h.n caps_cmp:=(hu (.cv (.val (.fn fid_cmp [] caps_cmp))) (by simp)).2
 have vu_cmp:=fun k=>fk (k:=k) u_cmp
 obtain ⟨D,hD,hr⟩:=Holds.one e
 dsimp only[an]at hr
 change aR _ _ _ _ _ ⟨[(0,.cv (.val (.sl (List.map bi x)))),(1,.cv (.val (.int .i64 target))),(2,.cv (.val (.fn fid_cmp [] caps_cmp)))],h.on []⟩
 iterate 3 refine A_s ?_
 refine aj ?_
 refine w_K (D:=D) (fun xX:Int=>⟨[(0,.cv (.val (.sl (List.map bi x)))),(1,.cv (.val (.int .i64 target))),(2,.cv (.val (.fn fid_cmp [] caps_cmp))),(8,.cv (.val (.int .i64 (x.length:Int)))),(9,.cv (.val (.int .i64 xX)))],h.on []⟩) (fun xX:Int=>an.k1 x target cmp xX) (fun xX s' hr ht=>?_) ?_
 ·obtain ⟨i,rfl⟩:∃ z,z=xX:=⟨xX,rfl⟩
  dsimp only[an.k1]at hr ht
  refine (eO ht ?_)
  obtain ⟨v,vF6,hr⟩:=hr.bind
  refine cq (sj:=⟨[(6,.cv (.val (.int .i64 i))),(7,.cv (.val (.bool v)))],h.on []⟩) (bE ?_) ?_
  ·have hr:=Holds.intro (D:=fun z=>z=v) vF6 rfl
   refine aw 5 ?_
   rcases hr.ite with ⟨cF1,hr⟩ | ⟨cF1,hr⟩
   ·obtain ⟨x1,nF2,eF3,gF4,hr⟩:=hr.idx
    refine aw 6 ?_
    obtain ⟨r,eF5,hr⟩:=hr.bind
    refine be (out:=?o_eF5) (hp:=?p_eF5) ?c_eF5 ?d_eF5 ?_
    case c_eF5=>exact h_cmp _ _ _ _ eF5
    case d_eF5=>rfl
    refine ae ?_
    obtain rfl:_=v:=hr
    exact w_k (ai hwf)
   ·refine aw 6 ?_
    refine iu ?_
    refine ae ?_
    obtain rfl:_=v:=hr
    exact w_k (ai hwf)
  refine bu ?_
  obtain rfl:=hD _ hr
  exact (ba (ai (os':=[]) (sl:=[(6,.cv (.val (.int .i64 i))),(7,.cv (.val (.bool v)))]) hwf) ⟨rfl,aK hwf⟩)
 ·refine aI ?_
  refine cI (fun xX:(Int×Int)=>⟨[(0,.cv (.val (.sl (List.map bi x)))),(1,.cv (.val (.int .i64 target))),(2,.cv (.val (.fn fid_cmp [] caps_cmp))),(8,.cv (.val (.int .i64 (x.length:Int)))),(9,.cv (.val (.int .i64 xX.1))),(10,.cv (.val (.int .i64 xX.2)))],h.on []⟩) hr (ai hwf) (fun W1 xX hr=>?_)
  obtain ⟨i1,j⟩:=xX
  dsimp only[an.b1]at hr
  refine aj ?_
  refine A_s ?_
  refine au hr (fun cF7 hr=>?_) (fun cF7 hr=>?_)
  ·refine aL ?_
   refine w_n ?_
   refine w_K (D:=(Aft W1 D)) (fun xX:(Int×Int)=>⟨[(0,.cv (.val (.sl (List.map bi x)))),(1,.cv (.val (.int .i64 target))),(2,.cv (.val (.fn fid_cmp [] caps_cmp))),(8,.cv (.val (.int .i64 (x.length:Int)))),(9,.cv (.val (.int .i64 xX.1))),(10,.cv (.val (.int .i64 xX.2)))],h.on []⟩) (fun xX:(Int×Int)=>an.k2 xX.1 xX.2) (fun xX s' hr ht=>?_) ?_
   ·obtain ⟨i2,j1⟩:=xX
    dsimp only[an.k2]at hr ht
    exact (w_k ⟨(i2,j1),hr,(To.trans ht (ai hwf))⟩)
   ·refine aI ?_
    refine aj ?_
    (obtain ⟨z,eF8,hr⟩:=hr.bind;replace eF8:=Option.some.inj eF8;simp only[shL,shR,ayI,bOr,az7,az0,IntKind.bits,Int.reduceToNat]at eF8)
    refine mO rfl pw ?_
    refine w_n ?_
    refine aj ?_
    refine bE ?_
    obtain ⟨x2,nF9,eF10,gF11,hr⟩:=hr.idx
    refine aw 6 ?_
    obtain ⟨r1,eF12,hr⟩:=hr.bind
    refine be (out:=?o_eF12) (hp:=?p_eF12) ?c_eF12 ?d_eF12 ?_
    case c_eF12=>exact h_cmp _ _ _ _ eF12
    case d_eF12=>rfl
    refine ae ?_
    refine w_n ?_
    refine au hr (fun cF13 hr=>?_) (fun cF13 hr=>?_)
    ·refine ah ?_
     exact (eY (w_k ⟨((IntKind.i64.wrap ((IntKind.i64.wrap z)+(1:Int))),j),hr,(ai hwf)⟩))
    ·refine ah ?_
     exact (eY (w_k ⟨(i1,(IntKind.i64.wrap z)),hr,(ai hwf)⟩))
  ·refine cG ?_
   exact (dG (dG (iy (w_k ⟨i1,(hr).map,(ai hwf)⟩))))
theorem rO (a_:List ak) (r:Int) {h:ax} {a:Bool} (e:kT a_ r=some a):
  cp CT 149 [.cv (.val (.sl (List.map bi a_))),.cv (.val (.int .i64 r))] h fun o h'=>o=[.cv (.val (.bool a))]∧h'=h:=by
 refine bv Tryz.func149 fun hwf hu=>?_
 obtain ⟨D,hD,hr⟩:=Holds.one e
 dsimp only[kT]at hr
 change aR _ _ _ _ _ ⟨[(0,.cv (.val (.sl (List.map bi a_)))),(1,.cv (.val (.int .i64 r)))],h.on []⟩
 refine A_s ?_
 refine aj ?_
 refine bE ?_
 refine aw 2 ?_
 obtain ⟨r1,eF1,hr⟩:=hr.bind
 refine be (out:=?o_eF1) (hp:=?p_eF1) ?c_eF1 ?d_eF1 ?_
 case c_eF1=>(refine dZ a_ r (fL) _ _ ?_ ?_ eF1;(exact (fun os x0 x1 r e=>pz x0 x1 e));(exact (fun i=>by simp[CT])))
 case d_eF1=>rfl
 refine ae ?_
 refine w_n ?_
 refine A_s ?_
 refine bu ?_
 obtain rfl:=hD _ hr
 exact (ba (ai (os':=[]) (sl:=[(4,.cv (.val (.bool r1.2)))]) hwf) ⟨rfl,aK hwf⟩)
theorem oA (sets:List (List ak)) (r:Int) {h:ax} {a:Int} (e:bT sets r=some a):
  cp CT 81 [.cv (.val (.sl (List.map (eL bi) sets))),.cv (.val (.int .i64 r))] h fun o h'=>o=[.cv (.val (.int .u64 a))]∧h'=h:=by
 refine bv Tryz.func81 fun hwf hu=>?_
 obtain ⟨D,hD,hr⟩:=Holds.one e
 dsimp only[bT]at hr
 change aR _ _ _ _ _ ⟨[(0,.cv (.val (.sl (List.map (eL bi) sets)))),(1,.cv (.val (.int .i64 r)))],h.on []⟩
 iterate 2 refine A_s ?_
 refine aj ?_
 refine A_s ?_
 refine w_K (D:=D) (fun xX:Int=>⟨[(5,.cv (.val (.int .u64 xX)))],h.on []⟩) (fun xX:Int=>bT.k1 xX) (fun xX s' hr ht=>?_) ?_
 ·obtain ⟨m,rfl⟩:∃ z,z=xX:=⟨xX,rfl⟩
  dsimp only[bT.k1]at hr ht
  refine (eO ht ?_)
  refine A_s ?_
  refine bu ?_
  obtain rfl:=hD _ hr
  exact (ba (ai (os':=[]) (sl:=[(4,.cv (.val (.int .u64 m)))]) hwf) ⟨rfl,aK hwf⟩)
 ·refine aI ?_
  refine cI (fun xX:(Int×Int)=>⟨[(0,.cv (.val (.sl (List.map (eL bi) sets)))),(1,.cv (.val (.int .i64 r))),(5,.cv (.val (.int .u64 xX.1))),(8,.cv (.val (.int .i64 (sets.length:Int)))),(9,.cv (.val (.int .i64 xX.2)))],h.on []⟩) hr (ai hwf) (fun W1 xX hr=>?_)
  obtain ⟨m1,v⟩:=xX
  dsimp only[bT.b1]at hr
  refine A_s ?_
  refine aj ?_
  refine au hr (fun cF1 hr=>?_) (fun cF1 hr=>?_)
  ·refine aL ?_
   refine w_n ?_
   refine aj ?_
   refine w_K (D:=(Aft W1 D)) (fun xX:Int=>⟨[(0,.cv (.val (.sl (List.map (eL bi) sets)))),(1,.cv (.val (.int .i64 r))),(5,.cv (.val (.int .u64 xX))),(8,.cv (.val (.int .i64 (sets.length:Int)))),(9,.cv (.val (.int .i64 v)))],h.on []⟩) (fun xX:Int=>bT.k2 v xX) (fun xX s' hr ht=>?_) ?_
   ·obtain ⟨m2,rfl⟩:∃ z,z=xX:=⟨xX,rfl⟩
    dsimp only[bT.k2]at hr ht
    refine (eO ht ?_)
    refine ah ?_
    exact (w_k ⟨(m2,(IntKind.i64.wrap (v+(1:Int)))),hr,(ai hwf)⟩)
   ·refine aI ?_
    refine A_s ?_
    refine aj ?_
    refine bE ?_
    obtain ⟨xs,nF2,eF3,gF4,hr⟩:=hr.idx
    refine aw 5 ?_
    obtain ⟨r1,eF5,hr⟩:=hr.bind
    refine be (out:=?o_eF5) (hp:=?p_eF5) ?c_eF5 ?d_eF5 ?_
    case c_eF5=>exact rO xs r eF5
    case d_eF5=>rfl
    refine de ?_
    refine w_n ?_
    refine au hr (fun cF6 hr=>?_) (fun cF6 hr=>?_)
    ·obtain ⟨nF7,nF8,hr⟩:=hr.nat
     refine ah ?_
     exact (eY (w_k ⟨(bOr .u64 m1 (shL .u64 (1:Int) v)),hr,(ai hwf)⟩))
    ·refine aL ?_
     exact (eY (w_k ⟨m1,hr,(ai hwf)⟩))
  ·refine cG ?_
   exact (dG (dG (iy (w_k ⟨m1,(hr).map,(ai hwf)⟩))))
end Go.Val
namespace Go.Val
theorem fM (s:List Int) {h:ax} {a:List Int} (e:cF s=some a):
  cp CT 84 [.cv (.row 3 (List.map eI s))] h fun o h'=>o=[.cv (.val (.sl (List.map eI a)))]∧h'=h:=
 cp.hand (C:=CT) (show tE 84 _ h _ h from ⟨rfl,.inl ⟨rfl,s,a,rfl,e,rfl⟩⟩) ⟨rfl,rfl⟩
end Go.Val
namespace Go.Val
set_option maxRecDepth 20000
open Go.Proofs
theorem nS (sets:List (List ak)) {h:ax} {a:List Int} (e:aQ sets=some a):
  cp CT 80 [.cv (.val (.sl (List.map (eL bi) sets)))] h fun o h'=>o=[.cv (.val (.sl (List.map eI a)))]∧h'=h:=by
 refine bv Tryz.func80 fun hwf hu=>?_
 obtain ⟨D,hD,hr⟩:=Holds.one e
 dsimp only[aQ]at hr
 change aR _ _ _ _ _ ⟨[(0,.cv (.val (.sl (List.map (eL bi) sets))))],h.on []⟩
 iterate 2 refine A_s ?_
 refine aj ?_
 refine A_s ?_
 refine w_K (D:=D) (fun xX:List Int=>⟨[(3,.cv (.row 3 (List.map eI xX)))],h.on []⟩) (fun xX:List Int=>aQ.k1 xX) (fun xX s' hr ht=>?_) ?_
 ·obtain ⟨out,rfl⟩:∃ z,z=xX:=⟨xX,rfl⟩
  dsimp only[aQ.k1]at hr ht
  refine (eO ht ?_)
  refine aj ?_
  refine bE ?_
  refine aw 1 ?_
  obtain ⟨l,eF1,hr⟩:=hr.bind
  refine ajs (g:=83) (ds:=[]) (k:=3) rfl (by simp (disch:=(apply bJ.mk;decide)) only[go_sem,Nat.reduceAdd,Nat.reduceLT,Nat.reduceMul,Nat.reduceLeDiff,Int.reduceToNat,Int.reduceLT,Int.reduceLE,Option.getD_some] <;> rfl) rfl (by simp (disch:=(apply bJ.mk;decide)) only[go_sem,Nat.reduceAdd,Nat.reduceLT,Nat.reduceMul,Nat.reduceLeDiff,Int.reduceToNat,Int.reduceLT,Int.reduceLE,Option.getD_some] <;> rfl) (by simp (disch:=(apply bJ.mk;decide)) only[go_sem,Nat.reduceAdd,Nat.reduceLT,Nat.reduceMul,Nat.reduceLeDiff,Int.reduceToNat,Int.reduceLT,Int.reduceLE,Option.getD_some] <;> rfl) (by simp (disch:=(apply bJ.mk;decide)) only[go_sem,Nat.reduceAdd,Nat.reduceLT,Nat.reduceMul,Nat.reduceLeDiff,Int.reduceToNat,Int.reduceLT,Int.reduceLE,Option.getD_some] <;> rfl) (by rfl) (yt eF1) ?_
  refine de ?_
  refine w_n ?_
  refine aj ?_
  refine bE ?_
  refine aw 1 ?_
  obtain ⟨r,eF2,hr⟩:=hr.bind
  refine be (out:=?o_eF2) (hp:=?p_eF2) ?c_eF2 ?d_eF2 ?_
  case c_eF2=>exact fM l eF2
  case d_eF2=>rfl
  refine ae ?_
  refine w_n ?_
  refine bu ?_
  obtain rfl:=hD _ hr
  exact (ba (ai (os':=[]) (sl:=[(2,.cv (.val (.sl (List.map eI r))))]) hwf) ⟨rfl,aK hwf⟩)
 ·refine aI ?_
  refine cI (fun xX:(List Int×Int)=>⟨[(3,.cv (.row 3 (List.map eI xX.1))),(9,.cv (.val (.sl (List.map (eL bi) sets)))),(10,.cv (.val (.int .i64 (sets.length:Int)))),(11,.cv (.val (.int .i64 xX.2)))],h.on []⟩) hr (ai hwf) (fun W1 xX hr=>?_)
  obtain ⟨out1,v⟩:=xX
  dsimp only[aQ.b1]at hr
  refine A_s ?_
  refine aj ?_
  refine au hr (fun cF3 hr=>?_) (fun cF3 hr=>?_)
  ·refine aL ?_
   refine w_n ?_
   refine aj ?_
   refine w_K (D:=(Aft W1 D)) (fun xX:List Int=>⟨[(3,.cv (.row 3 (List.map eI xX))),(9,.cv (.val (.sl (List.map (eL bi) sets)))),(10,.cv (.val (.int .i64 (sets.length:Int)))),(11,.cv (.val (.int .i64 v)))],h.on []⟩) (fun xX:List Int=>aQ.k2 v xX) (fun xX s' hr ht=>?_) ?_
   ·obtain ⟨out2,rfl⟩:∃ z,z=xX:=⟨xX,rfl⟩
    dsimp only[aQ.k2]at hr ht
    refine (eO ht ?_)
    refine ah ?_
    exact (w_k ⟨(out2,(IntKind.i64.wrap (v+(1:Int)))),hr,(ai hwf)⟩)
   ·refine aI ?_
    refine aj ?_
    obtain ⟨xs,nF4,eF5,gF6,hr⟩:=hr.idx
    refine ah ?_
    refine w_n ?_
    refine A_s ?_
    refine aI ?_
    refine cI (fun xX:(List Int×Int)=>⟨[(3,.cv (.row 3 (List.map eI xX.1))),(9,.cv (.val (.sl (List.map (eL bi) sets)))),(10,.cv (.val (.int .i64 (sets.length:Int)))),(11,.cv (.val (.int .i64 v))),(15,.cv (.val (.sl (List.map bi xs)))),(16,.cv (.val (.int .i64 (xs.length:Int)))),(17,.cv (.val (.int .i64 xX.2)))],h.on []⟩) hr (ai hwf) (fun W2 xX hr=>?_)
    obtain ⟨out3,v1⟩:=xX
    dsimp only[aQ.b2]at hr
    refine A_s ?_
    refine aj ?_
    refine au hr (fun cF7 hr=>?_) (fun cF7 hr=>?_)
    ·refine aL ?_
     refine w_n ?_
     refine aj ?_
     refine w_K (D:=(Aft W2 (Aft W1 D))) (fun xX:List Int=>⟨[(3,.cv (.row 3 (List.map eI xX))),(9,.cv (.val (.sl (List.map (eL bi) sets)))),(10,.cv (.val (.int .i64 (sets.length:Int)))),(11,.cv (.val (.int .i64 v))),(15,.cv (.val (.sl (List.map bi xs)))),(16,.cv (.val (.int .i64 (xs.length:Int)))),(17,.cv (.val (.int .i64 v1)))],h.on []⟩) (fun xX:List Int=>aQ.k3 v1 xX) (fun xX s' hr ht=>?_) ?_
     ·obtain ⟨out4,rfl⟩:∃ z,z=xX:=⟨xX,rfl⟩
      dsimp only[aQ.k3]at hr ht
      refine (eO ht ?_)
      refine ah ?_
      exact (w_k ⟨(out4,(IntKind.i64.wrap (v1+(1:Int)))),hr,(ai hwf)⟩)
     ·refine aI ?_
      refine aj ?_
      obtain ⟨x,nF8,eF9,gF10,hr⟩:=hr.idx
      refine ah ?_
      refine w_n ?_
      refine aj ?_
      obtain ⟨nF11,hr⟩:=hr.room
      refine ah ?_
      refine w_n ?_
      refine A_s ?_
      refine au hr (fun cF12 hr=>?_) (fun cF12 hr=>?_)
      ·obtain ⟨nF13,hr⟩:=hr.room
       refine ah ?_
       exact (eY (w_k ⟨((out3++([x.Low]))++([(IntKind.i64.wrap (x.High+(1:Int)))])),hr,(ai hwf)⟩))
      ·refine aL ?_
       exact (eY (w_k ⟨(out3++([x.Low])),hr,(ai hwf)⟩))
    ·refine cG ?_
     exact (dG (dG (iy (eY (w_k ⟨out3,(hr).map,(ai hwf)⟩)))))
  ·refine cG ?_
   exact (dG (dG (iy (w_k ⟨out1,(hr).map,(ai hwf)⟩))))
theorem pn (x:cQ) {h:ax} {a:Bool} (e:gL x=some a):
  cp CT 150 [.cv (.val (.agg [.int .i64 x.Low,.int .i64 x.High,.int .u8 (x.Value.toNat:Int)]))] h fun o h'=>o=[.cv (.val (.bool a))]∧h'=h:=by
 refine bv Tryz.func150 fun hwf hu=>?_
 obtain ⟨D,hD,hr⟩:=Holds.one e
 dsimp only[gL]at hr
 change aR _ _ _ _ _ ⟨[(0,.cv (.val (.agg [.int .i64 x.Low,.int .i64 x.High,.int .u8 (x.Value.toNat:Int)])))],h.on []⟩
 refine A_s ?_
 refine cq (sj:=⟨[(2,.cv (.val (.bool ((decide (x.Low < (0:Int)))||((decide (x.High > (1114111:Int)))||(decide (x.Low > x.High)))))))],h.on []⟩) (bE ?_) ?_
 ·refine aw 4 ?_
  rcases Bool.eq_false_or_eq_true (decide (x.Low < (0:Int)))with cF1 | cF1
  ·refine ae ?_
   exact w_k (ai hwf)
  ·refine aw 5 ?_
   rcases Bool.eq_false_or_eq_true (decide (x.High > (1114111:Int)))with cF2 | cF2
   ·refine ae ?_
    exact w_k (ai hwf)
   ·refine ae ?_
    exact w_k (ai hwf)
 refine bu ?_
 obtain rfl:=hD _ hr
 exact (ba (ai (os':=[]) (sl:=[(2,.cv (.val (.bool ((decide (x.Low < (0:Int)))||((decide (x.High > (1114111:Int)))||(decide (x.Low > x.High)))))))]) hwf) ⟨rfl,aK hwf⟩)
theorem fN (s:List cQ) (f:cQ→Option Bool) (fid_f:FuncId) (caps_f:List ao) {h:ax} (h_f:∀ os x0 r,f x0=some r→cp CT fid_f ([.cv (.val (.agg [.int .i64 x0.Low,.int .i64 x0.High,.int .u8 (x0.Value.toNat:Int)]))]++jc caps_f) (h.on os) fun o h'=>o=[.cv (.val (.bool r))]∧h'=h.on os) (d_f:∀ i,CT.how fid_f i= .data) {a:Int} (e:aF s f=some a):
  cp CT 129 [.cv (.val (.sl (List.map iv s))),.cv (.val (.fn fid_f [] caps_f))] h fun o h'=>o=[.cv (.val (.int .i64 a))]∧h'=h:=by
 refine bv Tryz.func129 fun hwf hu=>?_
 have u_f:bG h.n caps_f:=(hu (.cv (.val (.fn fid_f [] caps_f))) (by simp)).2
 have vu_f:=fun k=>fk (k:=k) u_f
 obtain ⟨D,hD,hr⟩:=Holds.one e
 dsimp only[aF]at hr
 change aR _ _ _ _ _ ⟨[(0,.cv (.val (.sl (List.map iv s)))),(1,.cv (.val (.fn fid_f [] caps_f)))],h.on []⟩
 refine A_s ?_
 refine aj ?_
 refine A_s ?_
 refine w_K (D:=D) (fun xX:Unit=>⟨[],h.on []⟩) (fun xX:Unit=>aF.k1) (fun xX s' hr ht=>?_) ?_
 ·dsimp only[aF.k1]at hr ht
  refine (eO ht ?_)
  refine A_s ?_
  refine bu ?_
  obtain rfl:=hD _ hr
  exact (ba (ai (os':=[]) (sl:=[(4,.cv (.val (.int .i64 (-1:Int))))]) hwf) ⟨rfl,aK hwf⟩)
 ·refine aI ?_
  refine cI (fun xX:Int=>⟨[(0,.cv (.val (.sl (List.map iv s)))),(1,.cv (.val (.fn fid_f [] caps_f))),(7,.cv (.val (.int .i64 (s.length:Int)))),(8,.cv (.val (.int .i64 xX)))],h.on []⟩) hr (ai hwf) (fun W1 xX hr=>?_)
  obtain ⟨v,rfl⟩:∃ z,z=xX:=⟨xX,rfl⟩
  dsimp only[aF.b1]at hr
  refine A_s ?_
  refine aj ?_
  refine au hr (fun cF1 hr=>?_) (fun cF1 hr=>?_)
  ·refine aL ?_
   refine w_n ?_
   refine aj ?_
   refine aI ?_
   refine A_s ?_
   refine aj ?_
   refine bE ?_
   obtain ⟨x,nF2,eF3,gF4,hr⟩:=hr.idx
   refine aw 5 ?_
   obtain ⟨r,eF5,hr⟩:=hr.bind
   refine be (out:=?o_eF5) (hp:=?p_eF5) ?c_eF5 ?d_eF5 ?_
   case c_eF5=>exact h_f _ _ _ eF5
   case d_eF5=>rfl
   refine de ?_
   refine w_n ?_
   refine au hr (fun cF6 hr=>?_) (fun cF6 hr=>?_)
   ·refine aj ?_
    refine ah ?_
    refine w_n ?_
    refine bu ?_
    obtain rfl:=hD _ hr
    exact (fQ (cw (cw (fQ (cw (cw (ba (ai (os':=[]) (sl:=[(4,.cv (.val (.int .i64 v)))]) hwf) ⟨rfl,aK hwf⟩)))))))
   ·refine aL ?_
    refine (eY (w_n ?_))
    refine ah ?_
    exact (w_k ⟨(IntKind.i64.wrap (v+(1:Int))),hr,(ai hwf)⟩)
  ·refine cG ?_
   exact (dG (dG (iy (w_k ⟨(),(hr).map,(ai hwf)⟩))))
theorem fj (s:List cQ) (f:cQ→Option Bool) (fid_f:FuncId) (caps_f:List ao) {h:ax} (h_f:∀ os x0 r,f x0=some r→cp CT fid_f ([.cv (.val (.agg [.int .i64 x0.Low,.int .i64 x0.High,.int .u8 (x0.Value.toNat:Int)]))]++jc caps_f) (h.on os) fun o h'=>o=[.cv (.val (.bool r))]∧h'=h.on os) (d_f:∀ i,CT.how fid_f i= .data) {a:Bool} (e:cc s f=some a):
  cp CT 65 [.cv (.val (.sl (List.map iv s))),.cv (.val (.fn fid_f [] caps_f))] h fun o h'=>o=[.cv (.val (.bool a))]∧h'=h:=by
 refine bv Tryz.func65 fun hwf hu=>?_
 have u_f:bG h.n caps_f:=(hu (.cv (.val (.fn fid_f [] caps_f))) (by simp)).2
 have vu_f:=fun k=>fk (k:=k) u_f
 obtain ⟨D,hD,hr⟩:=Holds.one e
 dsimp only[cc]at hr
 change aR _ _ _ _ _ ⟨[(0,.cv (.val (.sl (List.map iv s)))),(1,.cv (.val (.fn fid_f [] caps_f)))],h.on []⟩
 refine A_s ?_
 refine aj ?_
 refine bE ?_
 refine aw 2 ?_
 obtain ⟨r,eF1,hr⟩:=hr.bind
 refine be (out:=?o_eF1) (hp:=?p_eF1) ?c_eF1 ?d_eF1 ?_
 case c_eF1=>(refine fN s f _ _ ?_ ?_ eF1;(exact (fun os x0 r e=>by rw[acL];exact h_f _ x0 r e));(exact d_f))
 case d_eF1=>rfl
 refine ae ?_
 refine w_n ?_
 refine bu ?_
 obtain rfl:=hD _ hr
 exact (ba (ai (os':=[]) (sl:=[(4,.cv (.val (.bool (decide (r≥(0:Int))))))]) hwf) ⟨rfl,aK hwf⟩)
theorem oQ (t:bB) (k:Int) (b:Vector UInt8 256) (known:List (Vector UInt8 256×Int)) (l0:Nat) (l3:Nat) {h:ax} (ha0:h.at_ l0=some (.cells (bQ eU t.like++([.row 192 (List.map (eA eU) t.first)]:List CV)))) (ha3:h.at_ l3=some (.map 192 (eZ (eA eU) eI known))) (hn0_3:l0≠l3) {a:(Bool×bB×List (Vector UInt8 256×Int))} (e:cH t k b known=some a):
  cp CT 128 [.cv (.val (.ptr (some (l0,0)))),.cv (.val (.int .i64 k)),.cv (.val (.agg (List.map eU b.toList))),.cv (.val (.map (some (l3))))] h fun o h'=>o=[.cv (.val (.bool a.1))]∧h'=((h.upd l0 (.cells (bQ eU a.2.1.like++([.row 192 (List.map (eA eU) a.2.1.first)]:List CV)))).upd l3 (.map 192 (eZ (eA eU) eI a.2.2))):=by
 refine bv Tryz.func128 fun hwf hu=>?_
 have hl0:=(hwf _ _ ha0).1
 have kl0:=lQ hl0
 have hl3:=(hwf _ _ ha3).1
 have kl3:=lQ hl3
 have ku0:=abz hl0 ha0
 have ku3:=abz hl3 ha3
 have kp0_3:=ajm hn0_3
 obtain ⟨D,hD,hr⟩:=Holds.one e
 dsimp only[cH]at hr
 change aR _ _ _ _ _ ⟨[(0,.cv (.val (.ptr (some (l0,0))))),(1,.cv (.val (.int .i64 k))),(2,.cv (.val (.agg (List.map eU b.toList)))),(3,.cv (.val (.map (some (l3)))))],h.on []⟩
 iterate 2 refine A_s ?_
 refine aj ?_
 refine A_s ?_
 refine w_K (D:=D) (fun xX:(Int×List (Vector UInt8 256)×List (Vector UInt8 256×Int))=>⟨[(0,.cv (.val (.ptr (some (l0,0))))),(1,.cv (.val (.int .i64 k))),(9,.cv (.val (.int .i64 xX.1)))],((h.upd l0 (.cells (bQ eU t.like++([.row 192 (List.map (eA eU) xX.2.1)]:List CV)))).upd l3 (.map 192 (eZ (eA eU) eI xX.2.2))).on []⟩) (fun xX:(Int×List (Vector UInt8 256)×List (Vector UInt8 256×Int))=>cH.k1 t k xX.1 xX.2.1 xX.2.2) (fun xX s' hr ht=>?_) ?_
 ·obtain ⟨i,like,m⟩:=xX
  dsimp only[cH.k1]at hr ht
  refine (eO ht ?_)
  refine aj ?_
  obtain ⟨n,nF1,eF2,gF3,hr⟩:=hr.idx
  have qF4:(Int.toNat k < 4352)=True:=eq_true (oZ eF2)
  have qF5:((bQ eU t.like++([.row 192 (List.map (eA eU) like)]:List CV))).set (Int.toNat k) (.val (.int .u8 (IntKind.u8.wrap i)))=(bQ eU (wO t.like k (u8 (IntKind.u8.wrap i)))++([.row 192 (List.map (eA eU) like)]:List CV)):=by have q:=(agf (e:=eU) (v:=t.like) (cs:=([.row 192 (List.map (eA eU) like)]:List CV)) (x:=(u8 (IntKind.u8.wrap i))) (oZ eF2));rw[asB]at q;exact q
  have qF6:((bQ eU t.like++([.row 192 (List.map (eA eU) like)]:List CV))).getD (Int.toNat k) .dead= .val (eU n):=aa6 eF2
  have qF7:((Int.toNat k)+1≤4352)=True:=eq_true (oZ eF2)
  have qF8:((Int.toNat k)≤4352)=True:=eq_true (Nat.le_of_lt (oZ eF2))
  refine mO rfl (by simp (disch:=(apply bJ.mk;decide)) only[go_sem,Nat.reduceAdd,Nat.reduceLT,Nat.reduceMul,Nat.reduceLeDiff,Int.reduceToNat,Int.reduceLT,Int.reduceLE,ha0,ez hl0,eP hl0,iQ hl0,ha3,ez hl3,eP hl3,iQ hl3,fJ hl0,jp hl0,gx hl0,eM ha0,fJ hl3,jp hl3,gx hl3,eM ha3,qE hn0_3,qE (Ne.symm hn0_3),oN hn0_3,nR hl0,nR hl3,kY hl0,kY hl3,nF1,eF2,gF3,qF4,Nat.mul_one,Nat.zero_add,qF8,qF5,qF6,qF7,Nat.mul_one,Nat.zero_add];rfl) ?_
  refine w_n ?_
  refine A_s ?_
  refine bu ?_
  obtain rfl:=hD _ hr
  exact (ba (ai (os':=[]) (sl:=[(8,.cv (.val (.bool true)))]) (h:=((h.upd l0 (.cells (bQ eU (wO t.like k (u8 (IntKind.u8.wrap i)))++([.row 192 (List.map (eA eU) like)]:List CV)))).upd l3 (.map 192 (eZ (eA eU) eI m)))) (eW (eW hwf hl0) hl3)) ⟨rfl,aK (eW (eW hwf hl0) hl3)⟩)
 ·refine au hr (fun cF10 hr=>?_) (fun cF10 hr=>?_)
  ·refine aj ?_
   refine A_s ?_
   refine au hr (fun cF11 hr=>?_) (fun cF11 hr=>?_)
   ·refine aj ?_
    refine ah ?_
    refine w_n ?_
    refine bu ?_
    obtain rfl:=hD _ hr
    exact (cw (cw (cw (ba (ai (os':=[]) (sl:=[(8,.cv (.val (.bool false)))]) (h:=((h.upd l0 (.cells (bQ eU t.like++([.row 192 (List.map (eA eU) t.first)]:List CV)))).upd l3 (.map 192 (eZ (eA eU) eI known)))) (eW (eW hwf hl0) hl3)) ⟨rfl,aK (eW (eW hwf hl0) hl3)⟩))))
   ·refine aL ?_
    refine w_n ?_
    iterate 2 refine A_s ?_
    refine cW [0,1,2,3,4,5,6,7,8,9,10] (by rfl) ?_
    obtain ⟨nF12,hr⟩:=hr.room
    refine bV [0,1,2,3,4,5,6] [6,5,4,3,2,1,0] ?_
    refine dp [0] ?_
    refine bV [8,9] [9,8,0] ?_
    refine dp [] ?_
    refine dw ?_
    exact (w_k ⟨((t.first.length:Int),(t.first++([b])),(iW b (t.first.length:Int) known)),hr,(ai (eW (eW hwf hl0) hl3))⟩)
  ·refine aL ?_
   exact (w_k ⟨(((nh b known).getD (0:Int)),t.first,known),hr,(ai (eW (eW hwf hl0) hl3))⟩)
theorem mB (l:List cQ) {h:ax} {a:(Option bB×Int)} (e:aO l=some a):
  cp CT 82 [.cv (.val (.sl (List.map iv l)))] h fun o h'=>match a.1 with | none=>o=[.cv (.val (.ptr none)),.cv (.val (.int .i64 a.2))]∧h'=h | some y=>o=[.cv (.val (.ptr (some (h.n+0,0)))),.cv (.val (.int .i64 a.2))]∧h'=h.on [some (.cells (bQ eU y.like++([.val (.sl (List.map (eA eU) y.first))]:List CV)))]:=by
 refine bv Tryz.func82 fun hwf hu=>?_
 obtain ⟨D,hD,hr⟩:=Holds.one e
 dsimp only[aO]at hr
 change aR _ _ _ _ _ ⟨[(0,.cv (.val (.sl (List.map iv l))))],h.on []⟩
 refine A_s ?_
 refine aj ?_
 refine A_s ?_
 refine au hr (fun cF1 hr=>?_) (fun cF1 hr=>?_)
 ·refine aj ?_
  refine ah ?_
  refine w_n ?_
  refine bu ?_
  obtain rfl:=hD _ hr
  exact (cw (ba (ai (os':=[]) (sl:=[(2,.cv (.val (.ptr none))),(3,.cv (.val (.int .i64 (3:Int))))]) hwf) ⟨rfl,aK hwf⟩))
 ·refine aL ?_
  refine w_n ?_
  refine A_s ?_
  refine aj ?_
  refine aj ?_
  refine bE ?_
  refine aw 2 ?_
  obtain ⟨r,eF2,hr⟩:=hr.bind
  refine be (out:=?o_eF2) (hp:=?p_eF2) ?c_eF2 ?d_eF2 ?_
  case c_eF2=>(refine fj l (gL) _ _ ?_ ?_ eF2;(exact (fun os x0 r e=>pn x0 e));(exact (fun i=>by simp[CT])))
  case d_eF2=>rfl
  refine de ?_
  refine w_n ?_
  refine au hr (fun cF3 hr=>?_) (fun cF3 hr=>?_)
  ·refine aj ?_
   refine ah ?_
   refine w_n ?_
   refine bu ?_
   obtain rfl:=hD _ hr
   exact (cw (ba (ai (os':=[]) (sl:=[(2,.cv (.val (.ptr none))),(3,.cv (.val (.int .i64 (1:Int))))]) hwf) ⟨rfl,aK hwf⟩))
  ·refine aL ?_
   refine w_n ?_
   iterate 2 refine A_s ?_
   refine aj ?_
   refine A_s ?_
   refine w_K (D:=D) (fun xX:(Vector UInt8 4352×List (Vector UInt8 256))=>⟨[(5,.cv (.val (.ptr (some (h.n+0,0)))))],h.on [some (.cells (bQ eU xX.1++([.row 192 (List.map (eA eU) xX.2)]:List CV)))]⟩) (fun xX:(Vector UInt8 4352×List (Vector UInt8 256))=>aO.k1 xX.1 xX.2) (fun xX s' hr ht=>?_) ?_
   ·obtain ⟨like,like1⟩:=xX
    dsimp only[aO.k1]at hr ht
    refine (eO ht ?_)
    refine A_s ?_
    refine bu ?_
    obtain rfl:=hD _ hr
    exact (yx (.fix _ _ (.cell (h.n+0) 4352) 192 _ (by simp (disch:=(apply bJ.mk;decide)) only[go_sem,Nat.reduceAdd,Nat.reduceLT,Nat.reduceMul,Nat.reduceLeDiff,Int.reduceToNat,Int.reduceLT,Int.reduceLE,cF1,cF3];rfl) (ai (os':=[some (.cells (bQ eU like++([.val (.sl (List.map (eA eU) like1))]:List CV)))]) (sl:=[(2,.cv (.val (.ptr (some (h.n+0,0))))),(3,.cv (.val (.int .i64 (0:Int))))]) hwf)) (by simp (disch:=(apply bJ.mk;decide)) only[go_sem,Nat.reduceAdd,Nat.reduceLT,Nat.reduceMul,Nat.reduceLeDiff,Int.reduceToNat,Int.reduceLT,Int.reduceLE,Tryz.results82,af ahk,dV,eT.eq_2,df,cF1,cF3]) ⟨rfl,rfl⟩)
   ·refine aI ?_
    refine cI (fun xX:(Int×Vector UInt8 4352×List (Vector UInt8 256)×List (Vector UInt8 256×Int))=>⟨[(0,.cv (.val (.sl (List.map iv l)))),(5,.cv (.val (.ptr (some (h.n+0,0))))),(6,.cv (.val (.map (some (h.n+1))))),(22,.cv (.val (.int .i64 xX.1)))],h.on [some (.cells (bQ eU xX.2.1++([.row 192 (List.map (eA eU) xX.2.2.1)]:List CV))),some (.map 192 (eZ (eA eU) eI xX.2.2.2))]⟩) hr (ai hwf) (fun W1 xX hr=>?_)
    obtain ⟨v,like2,like3,m⟩:=xX
    dsimp only[aO.b1]at hr
    refine A_s ?_
    refine aj ?_
    refine au hr (fun cF4 hr=>?_) (fun cF4 hr=>?_)
    ·refine aL ?_
     refine w_n ?_
     refine aj ?_
     refine w_K (D:=(Aft W1 D)) (fun xX:(Vector UInt8 4352×List (Vector UInt8 256)×List (Vector UInt8 256×Int))=>⟨[(0,.cv (.val (.sl (List.map iv l)))),(5,.cv (.val (.ptr (some (h.n+0,0))))),(6,.cv (.val (.map (some (h.n+1))))),(22,.cv (.val (.int .i64 v)))],h.on [some (.cells (bQ eU xX.1++([.row 192 (List.map (eA eU) xX.2.1)]:List CV))),some (.map 192 (eZ (eA eU) eI xX.2.2))]⟩) (fun xX:(Vector UInt8 4352×List (Vector UInt8 256)×List (Vector UInt8 256×Int))=>aO.k2 v xX.1 xX.2.1 xX.2.2) (fun xX s' hr ht=>?_) ?_
     ·obtain ⟨like4,like5,m1⟩:=xX
      dsimp only[aO.k2]at hr ht
      refine (eO ht ?_)
      refine ah ?_
      exact (w_k ⟨((IntKind.i64.wrap (v+(1:Int))),like4,like5,m1),hr,(ai hwf)⟩)
     ·refine aI ?_
      iterate 3 refine A_s ?_
      refine aj ?_
      refine A_s ?_
      refine w_K (D:=(Aft W1 D)) (fun xX:Vector UInt8 256=>⟨[(0,.cv (.val (.sl (List.map iv l)))),(5,.cv (.val (.ptr (some (h.n+0,0))))),(6,.cv (.val (.map (some (h.n+1))))),(7,.cv (.val (.int .i64 v))),(8,.cv (.val (.ptr (some (h.n+2,0))))),(22,.cv (.val (.int .i64 v)))],h.on [some (.cells (bQ eU like2++([.row 192 (List.map (eA eU) like3)]:List CV))),some (.map 192 (eZ (eA eU) eI m)),some (.cells (bQ eU xX))]⟩) (fun xX:Vector UInt8 256=>aO.k3 v like2 like3 m xX) (fun xX s' hr ht=>?_) ?_
      ·obtain ⟨v1,rfl⟩:∃ z,z=xX:=⟨xX,rfl⟩
       dsimp only[aO.k3]at hr ht
       refine (eO ht ?_)
       refine aj ?_
       refine bE ?_
       refine aw 4 ?_
       obtain ⟨r1,eF5,hr⟩:=hr.bind
       refine be (out:=?o_eF5) (hp:=?p_eF5) ?c_eF5 ?d_eF5 ?_
       case c_eF5=>(refine oQ (bB.mk like2 like3) v v1 m (h.n+0) (h.n+1) ?_ ?_ ?_ eF5;(simp (disch:=(apply bJ.mk;decide)) only[go_sem,Nat.reduceAdd,Nat.reduceLT,Nat.reduceMul,Nat.reduceLeDiff,Int.reduceToNat,Int.reduceLT,Int.reduceLE]);(simp (disch:=(apply bJ.mk;decide)) only[go_sem,Nat.reduceAdd,Nat.reduceLT,Nat.reduceMul,Nat.reduceLeDiff,Int.reduceToNat,Int.reduceLT,Int.reduceLE]);(first | omega | assumption | exact Ne.symm (by assumption)))
       case d_eF5=>rfl
       refine ae ?_
       refine w_n ?_
       refine au hr (fun cF6 hr=>?_) (fun cF6 hr=>?_)
       ·refine aj ?_
        refine ah ?_
        refine w_n ?_
        refine bu ?_
        obtain rfl:=hD _ hr
        exact (fQ (cw (cw (cw (fQ (cw (cw (ba (ai (os':=[]) (sl:=[(2,.cv (.val (.ptr none))),(3,.cv (.val (.int .i64 (3:Int))))]) hwf) ⟨rfl,aK hwf⟩))))))))
       ·refine aL ?_
        exact (eY (w_k ⟨(r1.2.1.like,r1.2.1.first,r1.2.2),hr,(ai hwf)⟩))
      ·refine aI ?_
       refine cI (fun xX:(Int×Vector UInt8 256)=>⟨[(0,.cv (.val (.sl (List.map iv l)))),(5,.cv (.val (.ptr (some (h.n+0,0))))),(6,.cv (.val (.map (some (h.n+1))))),(7,.cv (.val (.int .i64 v))),(8,.cv (.val (.ptr (some (h.n+2,0))))),(9,.cv (.val (.int .i64 (IntKind.i64.wrap (v*(256:Int)))))),(22,.cv (.val (.int .i64 v))),(27,.cv (.val (.sl (List.map iv l)))),(28,.cv (.val (.int .i64 (l.length:Int)))),(29,.cv (.val (.int .i64 xX.1)))],h.on [some (.cells (bQ eU like2++([.row 192 (List.map (eA eU) like3)]:List CV))),some (.map 192 (eZ (eA eU) eI m)),some (.cells (bQ eU xX.2))]⟩) hr (ai hwf) (fun W2 xX hr=>?_)
       obtain ⟨v2,v3⟩:=xX
       dsimp only[aO.b2]at hr
       refine A_s ?_
       refine aj ?_
       refine au hr (fun cF7 hr=>?_) (fun cF7 hr=>?_)
       ·refine aL ?_
        refine w_n ?_
        refine aj ?_
        refine w_K (D:=(Aft W2 (Aft W1 D))) (fun xX:Vector UInt8 256=>⟨[(0,.cv (.val (.sl (List.map iv l)))),(5,.cv (.val (.ptr (some (h.n+0,0))))),(6,.cv (.val (.map (some (h.n+1))))),(7,.cv (.val (.int .i64 v))),(8,.cv (.val (.ptr (some (h.n+2,0))))),(9,.cv (.val (.int .i64 (IntKind.i64.wrap (v*(256:Int)))))),(22,.cv (.val (.int .i64 v))),(27,.cv (.val (.sl (List.map iv l)))),(28,.cv (.val (.int .i64 (l.length:Int)))),(29,.cv (.val (.int .i64 v2)))],h.on [some (.cells (bQ eU like2++([.row 192 (List.map (eA eU) like3)]:List CV))),some (.map 192 (eZ (eA eU) eI m)),some (.cells (bQ eU xX))]⟩) (fun xX:Vector UInt8 256=>aO.k4 v2 xX) (fun xX s' hr ht=>?_) ?_
        ·obtain ⟨v4,rfl⟩:∃ z,z=xX:=⟨xX,rfl⟩
         dsimp only[aO.k4]at hr ht
         refine (eO ht ?_)
         refine ah ?_
         exact (w_k ⟨((IntKind.i64.wrap (v2+(1:Int))),v4),hr,(ai hwf)⟩)
        ·refine aI ?_
         refine aj ?_
         obtain ⟨x,nF8,eF9,gF10,hr⟩:=hr.idx
         refine ah ?_
         refine w_n ?_
         refine A_s ?_
         refine aI ?_
         refine cI (fun xX:(Int×Vector UInt8 256)=>⟨[(0,.cv (.val (.sl (List.map iv l)))),(5,.cv (.val (.ptr (some (h.n+0,0))))),(6,.cv (.val (.map (some (h.n+1))))),(7,.cv (.val (.int .i64 v))),(8,.cv (.val (.ptr (some (h.n+2,0))))),(9,.cv (.val (.int .i64 (IntKind.i64.wrap (v*(256:Int)))))),(11,.cv (.val (.ptr (some (h.n+3,0))))),(12,.cv (.val (.int .i64 xX.1))),(22,.cv (.val (.int .i64 v))),(27,.cv (.val (.sl (List.map iv l)))),(28,.cv (.val (.int .i64 (l.length:Int)))),(29,.cv (.val (.int .i64 v2)))],h.on [some (.cells (bQ eU like2++([.row 192 (List.map (eA eU) like3)]:List CV))),some (.map 192 (eZ (eA eU) eI m)),some (.cells (bQ eU xX.2)),some (.cells [.val (.int .i64 x.Low),.val (.int .i64 x.High),.val (.int .u8 (x.Value.toNat:Int))])]⟩) hr (ai hwf) (fun W3 xX hr=>?_)
         obtain ⟨r2,v5⟩:=xX
         dsimp only[aO.b3]at hr
         refine aj ?_
         refine A_s ?_
         refine au hr (fun cF11 hr=>?_) (fun cF11 hr=>?_)
         ·refine aL ?_
          refine w_n ?_
          refine aj ?_
          refine aI ?_
          obtain ⟨n,nF12,eF13,gF14,hr⟩:=hr.idx
          have qF15:(Int.toNat (IntKind.i64.wrap (r2 - (IntKind.i64.wrap (v*(256:Int))))) < 256)=True:=eq_true (oZ eF13)
          have qF16:(bQ eU v5).set (Int.toNat (IntKind.i64.wrap (r2 - (IntKind.i64.wrap (v*(256:Int)))))) (.val (.int .u8 (x.Value.toNat:Int)))=bQ eU (wO v5 (IntKind.i64.wrap (r2 - (IntKind.i64.wrap (v*(256:Int))))) x.Value):=by have q:=(sI (e:=eU) (v:=v5) (i:=(IntKind.i64.wrap (r2 - (IntKind.i64.wrap (v*(256:Int)))))) (x:=x.Value));exact q
          have qF17:(bQ eU v5).getD (Int.toNat (IntKind.i64.wrap (r2 - (IntKind.i64.wrap (v*(256:Int)))))) .dead= .val (eU n):=ai8 eF13
          have qF18:((Int.toNat (IntKind.i64.wrap (r2 - (IntKind.i64.wrap (v*(256:Int))))))+1≤256)=True:=eq_true (oZ eF13)
          have qF19:((Int.toNat (IntKind.i64.wrap (r2 - (IntKind.i64.wrap (v*(256:Int))))))≤256)=True:=eq_true (Nat.le_of_lt (oZ eF13))
          refine mO rfl (by simp (disch:=(apply bJ.mk;decide)) only[go_sem,Nat.reduceAdd,Nat.reduceLT,Nat.reduceMul,Nat.reduceLeDiff,Int.reduceToNat,Int.reduceLT,Int.reduceLE,nF12,eF13,gF14,qF15,Nat.mul_one,Nat.zero_add,qF19,qF16,qF17,qF18,Nat.mul_one,Nat.zero_add,cF1,cF3,cF4,cF7,cF11];rfl) ?_
          refine (eY (w_n ?_))
          refine ah ?_
          exact (w_k ⟨((IntKind.i64.wrap (r2+(1:Int))),(wO v5 (IntKind.i64.wrap (r2 - (IntKind.i64.wrap (v*(256:Int))))) x.Value)),hr,(ai hwf)⟩)
         ·refine cG ?_
          exact (dG (dG (iy (eY (w_k ⟨v5,(hr).map,(ai hwf)⟩)))))
       ·refine cG ?_
        exact (dG (dG (iy (w_k ⟨v3,(hr).map,(ai hwf)⟩))))
    ·refine cG ?_
     exact (dG (dG (iy (w_k ⟨(like2,like3),(hr).map,(ai hwf)⟩))))
theorem jb (l:List cQ) {h:ax} {a:(Option bB×Int)} (e:aO l=some a) (hx:a.1=none):
  cp CT 82 [.cv (.val (.sl (List.map iv l)))] h fun o h'=>o=[.cv (.val (.ptr none)),.cv (.val (.int .i64 a.2))]∧h'=h:=by
 have:=mB (h:=h) l e
 rw[hx]at this
 exact this
theorem ja (l:List cQ) {h:ax} {a:(Option bB×Int)} {y:bB} (e:aO l=some a) (hx:a.1=some y):
  cp CT 82 [.cv (.val (.sl (List.map iv l)))] h fun o h'=>o=[.cv (.val (.ptr (some (h.n+0,0)))),.cv (.val (.int .i64 a.2))]∧h'=h.on [some (.cells (bQ eU y.like++([.val (.sl (List.map (eA eU) y.first))]:List CV)))]:=by
 have:=mB (h:=h) l e
 rw[hx]at this
 exact this
theorem kQ (sets:List (List ak)) {h:ax} {a:(Option aH×Int)} (e:aG sets=some a):
  cp CT 32 [.cv (.val (.sl (List.map (eL bi) sets)))] h fun o h'=>match a.1 with | none=>o=[.cv (.val (.ptr none)),.cv (.val (.int .i64 a.2))]∧h'=h | some y=>o=[.cv (.val (.ptr (some (h.n+0,0)))),.cv (.val (.int .i64 a.2))]∧h'=h.on [some (.cells [.val (.ptr (some (h.n+1,0))),.val (.sl (List.map (eK .u64) y.masks)),.val (.sl (List.map eI y.least))]),some (.cells (bQ eU y.trie.like++([.val (.sl (List.map (eA eU) y.trie.first))]:List CV)))]:=by
 refine bv Tryz.func32 fun hwf hu=>?_
 obtain ⟨D,hD,hr⟩:=Holds.one e
 dsimp only[aG]at hr
 change aR _ _ _ _ _ ⟨[(0,.cv (.val (.sl (List.map (eL bi) sets))))],h.on []⟩
 refine A_s ?_
 refine aj ?_
 refine A_s ?_
 refine au hr (fun cF1 hr=>?_) (fun cF1 hr=>?_)
 ·refine aj ?_
  refine ah ?_
  refine w_n ?_
  refine bu ?_
  obtain rfl:=hD _ hr
  exact (cw (ba (ai (os':=[]) (sl:=[(2,.cv (.val (.ptr none))),(3,.cv (.val (.int .i64 (3:Int))))]) hwf) ⟨rfl,aK hwf⟩))
 ·refine aL ?_
  refine w_n ?_
  refine aj ?_
  refine A_s ?_
  refine w_K (D:=D) (fun xX:Unit=>⟨[(0,.cv (.val (.sl (List.map (eL bi) sets))))],h.on []⟩) (fun xX:Unit=>aG.k1 sets) (fun xX s' hr ht=>?_) ?_
  ·dsimp only[aG.k1]at hr ht
   refine (eO ht ?_)
   iterate 2 refine A_s ?_
   refine aj ?_
   refine bE ?_
   refine aw 1 ?_
   obtain ⟨r,eF2,hr⟩:=hr.bind
   refine be (out:=?o_eF2) (hp:=?p_eF2) ?c_eF2 ?d_eF2 ?_
   case c_eF2=>exact nS sets eF2
   case d_eF2=>rfl
   refine ae ?_
   refine w_n ?_
   refine A_s ?_
   refine aj ?_
   refine A_s ?_
   refine w_K (D:=D) (fun xX:(List cQ×List Int×List Int)=>⟨[(8,.cv (.val (.ptr (some (h.n+0,0))))),(11,.cv (.row 115 (List.map iv xX.1)))],h.on [some (.cells [.val (.ptr none),.row 152 (List.map (eK .u64) xX.2.1),.row 3 (List.map eI xX.2.2)])]⟩) (fun xX:(List cQ×List Int×List Int)=>aG.k2 xX.1 xX.2.1 xX.2.2) (fun xX s' hr ht=>?_) ?_
   ·obtain ⟨props,masks,least⟩:=xX
    dsimp only[aG.k2]at hr ht
    refine (eO ht ?_)
    refine aj ?_
    refine bE ?_
    refine aw 1 ?_
    obtain ⟨r1,eF3,hr⟩:=hr.bind
    try dsimp only at hr
    rcases xF6:r1.1 with _ | y
    ·rw[xF6]at hr
     dsimp only at hr
     refine be (out:=?o_eF3a) (hp:=?p_eF3a) ?c_eF3a ?d_eF3a ?_
     case c_eF3a=>exact jb props eF3 xF6
     case d_eF3a=>rfl
     refine ae ?_
     refine w_n ?_
     refine aj ?_
     refine A_s ?_
     refine au hr (fun cF4 hr=>?_) (fun cF4 hr=>?_)
     ·refine aj ?_
      refine ah ?_
      refine w_n ?_
      refine bu ?_
      obtain rfl:=hD _ hr
      exact (cw (ba (ai (os':=[]) (sl:=[(2,.cv (.val (.ptr none))),(3,.cv (.val (.int .i64 (3:Int))))]) hwf) ⟨rfl,aK hwf⟩))
     ·refine aL ?_
      refine w_n ?_
      iterate 2 refine A_s ?_
      refine bu ?_
      exact hr.elim
    ·rw[xF6]at hr
     dsimp only at hr
     refine be (out:=?o_eF3b) (hp:=?p_eF3b) ?c_eF3b ?d_eF3b ?_
     case c_eF3b=>exact ja props eF3 xF6
     case d_eF3b=>rfl
     refine ae ?_
     refine w_n ?_
     refine aj ?_
     refine A_s ?_
     refine au hr (fun cF5 hr=>?_) (fun cF5 hr=>?_)
     ·refine aj ?_
      refine ah ?_
      refine w_n ?_
      refine bu ?_
      obtain rfl:=hD _ hr
      exact (cw (ba (ai (os':=[]) (sl:=[(2,.cv (.val (.ptr none))),(3,.cv (.val (.int .i64 (3:Int))))]) hwf) ⟨rfl,aK hwf⟩))
     ·refine aL ?_
      refine w_n ?_
      iterate 2 refine A_s ?_
      refine bu ?_
      obtain rfl:=hD _ hr
      exact (yx (.fix _ _ (.cell (h.n+0) 1) 152 _ pw (.fix _ _ (.cell (h.n+0) 2) 3 _ pw (ai (os':=[some (.cells [.val (.ptr (some (h.n+1,0))),.val (.sl (List.map (eK .u64) masks)),.val (.sl (List.map eI least))]),some (.cells (bQ eU y.like++([.val (.sl (List.map (eA eU) y.first))]:List CV)))]) (sl:=[(2,.cv (.val (.ptr (some (h.n+0,0))))),(3,.cv (.val (.int .i64 (0:Int))))]) hwf))) cE ⟨rfl,rfl⟩)
   ·refine aI ?_
    refine cI (fun xX:(List cQ×Int×List Int×List Int×List (Int×Int))=>⟨[(0,.cv (.val (.sl (List.map (eL bi) sets)))),(8,.cv (.val (.ptr (some (h.n+0,0))))),(9,.cv (.val (.map (some (h.n+1))))),(10,.cv (.val (.sl (List.map eI r)))),(11,.cv (.row 115 (List.map iv xX.1))),(48,.cv (.val (.sl (List.map eI r)))),(49,.cv (.val (.int .i64 (r.length:Int)))),(50,.cv (.val (.int .i64 xX.2.1)))],h.on [some (.cells [.val (.ptr none),.row 152 (List.map (eK .u64) xX.2.2.1),.row 3 (List.map eI xX.2.2.2.1)]),some (.map 152 (eZ (eK .u64) eI xX.2.2.2.2))]⟩) hr (ai hwf) (fun W1 xX hr=>?_)
    obtain ⟨props1,v,masks1,least1,m⟩:=xX
    dsimp only[aG.b1]at hr
    refine A_s ?_
    refine aj ?_
    refine au hr (fun cF7 hr=>?_) (fun cF7 hr=>?_)
    ·refine aL ?_
     refine w_n ?_
     refine aj ?_
     refine aI ?_
     refine aj ?_
     obtain ⟨n,nF8,eF9,gF10,hr⟩:=hr.idx
     refine ah ?_
     refine w_n ?_
     refine aj ?_
     refine bE ?_
     refine aw 2 ?_
     obtain ⟨r2,eF11,hr⟩:=hr.bind
     refine be (out:=?o_eF11) (hp:=?p_eF11) ?c_eF11 ?d_eF11 ?_
     case c_eF11=>exact oA sets n eF11
     case d_eF11=>rfl
     refine ae ?_
     refine w_n ?_
     refine A_s ?_
     refine aj ?_
     refine A_s ?_
     refine w_K (D:=(Aft W1 D)) (fun xX:(Int×List Int×List Int×List (Int×Int))=>⟨[(0,.cv (.val (.sl (List.map (eL bi) sets)))),(8,.cv (.val (.ptr (some (h.n+0,0))))),(9,.cv (.val (.map (some (h.n+1))))),(10,.cv (.val (.sl (List.map eI r)))),(11,.cv (.row 115 (List.map iv props1))),(12,.cv (.val (.int .i64 v))),(13,.cv (.val (.int .i64 n))),(15,.cv (.val (.int .i64 xX.1))),(48,.cv (.val (.sl (List.map eI r)))),(49,.cv (.val (.int .i64 (r.length:Int)))),(50,.cv (.val (.int .i64 v)))],h.on [some (.cells [.val (.ptr none),.row 152 (List.map (eK .u64) xX.2.1),.row 3 (List.map eI xX.2.2.1)]),some (.map 152 (eZ (eK .u64) eI xX.2.2.2))]⟩) (fun xX:(Int×List Int×List Int×List (Int×Int))=>aG.k3 r props1 v n xX.1 xX.2.1 xX.2.2.1 xX.2.2.2) (fun xX s' hr ht=>?_) ?_
     ·obtain ⟨class_,masks2,least2,m1⟩:=xX
      dsimp only[aG.k3]at hr ht
      refine (eO ht ?_)
      refine aj ?_
      refine A_s ?_
      refine au hr (fun cF12 hr=>?_) (fun cF12 hr=>?_)
      ·refine aj ?_
       refine ah ?_
       refine w_n ?_
       refine bu ?_
       obtain rfl:=hD _ hr
       exact (cw (fQ (cw (cw (fQ (cw (cw (ba (ai (os':=[]) (sl:=[(2,.cv (.val (.ptr none))),(3,.cv (.val (.int .i64 (3:Int))))]) hwf) ⟨rfl,aK hwf⟩))))))))
      ·refine aL ?_
       refine w_n ?_
       refine A_s ?_
       refine aj ?_
       refine A_s ?_
       refine w_K (D:=(Aft W1 D)) (fun xX:Int=>⟨[(0,.cv (.val (.sl (List.map (eL bi) sets)))),(8,.cv (.val (.ptr (some (h.n+0,0))))),(9,.cv (.val (.map (some (h.n+1))))),(10,.cv (.val (.sl (List.map eI r)))),(11,.cv (.row 115 (List.map iv props1))),(13,.cv (.val (.int .i64 n))),(15,.cv (.val (.int .i64 class_))),(17,.cv (.val (.int .i64 xX))),(48,.cv (.val (.sl (List.map eI r)))),(49,.cv (.val (.int .i64 (r.length:Int)))),(50,.cv (.val (.int .i64 v)))],h.on [some (.cells [.val (.ptr none),.row 152 (List.map (eK .u64) masks2),.row 3 (List.map eI least2)]),some (.map 152 (eZ (eK .u64) eI m1))]⟩) (fun xX:Int=>aG.k4 props1 v n class_ masks2 least2 m1 xX) (fun xX s' hr ht=>?_) ?_
       ·obtain ⟨high,rfl⟩:∃ z,z=xX:=⟨xX,rfl⟩
        dsimp only[aG.k4]at hr ht
        refine (eO ht ?_)
        obtain ⟨nF13,hr⟩:=hr.room
        refine ah ?_
        refine (eY (w_n ?_))
        refine ah ?_
        exact (w_k ⟨((props1++([(cQ.mk n high (u8 (IntKind.u8.wrap class_)))])),(IntKind.i64.wrap (v+(1:Int))),masks2,least2,m1),hr,(ai hwf)⟩)
       ·refine au hr (fun cF14 hr=>?_) (fun cF14 hr=>?_)
        ·obtain ⟨n1,nF15,eF16,gF17,hr⟩:=hr.idx
         refine ah ?_
         exact (w_k ⟨(IntKind.i64.wrap (n1 - (1:Int))),hr,(ai hwf)⟩)
        ·refine aL ?_
         exact (w_k ⟨(1114111:Int),hr,(ai hwf)⟩)
     ·refine au hr (fun cF18 hr=>?_) (fun cF18 hr=>?_)
      ·refine aj ?_
       refine ah ?_
       refine w_n ?_
       refine A_s ?_
       refine cW [0,1,2,3,4,5,6,7,9,10,11,12,13,14,8,15,16,17,18,19,20,21] (by rfl) ?_
       obtain ⟨nF19,hr⟩:=hr.room
       obtain ⟨nF20,hr⟩:=hr.room
       refine bV [0,1,2,3,4,5,6,7,9,10,11,12,13,14] [14,13,12,11,10,9,7,6,5,4,3,2,1,0] ?_
       refine dp [14,13,12,11,10,9,1,0] ?_
       refine dp [1,0] ?_
       refine bV [16,17] [17,16,1,0] ?_
       refine dp [1] ?_
       refine bV [19,20] [20,19,1] ?_
       refine dp [] ?_
       refine dw ?_
       exact (w_k ⟨((m.length:Int),(masks1++([r2])),(least1++([n])),(iW r2 (m.length:Int) m)),hr,(ai hwf)⟩)
      ·refine aL ?_
       exact (w_k ⟨(((nh r2 m).getD (0:Int)),masks1,least1,m),hr,(ai hwf)⟩)
    ·refine cG ?_
     exact (dG (dG (iy (w_k ⟨(props1,masks1,least1),(hr).map,(ai hwf)⟩))))
  ·refine aI ?_
   refine cI (fun xX:Int=>⟨[(0,.cv (.val (.sl (List.map (eL bi) sets)))),(23,.cv (.val (.sl (List.map (eL bi) sets)))),(24,.cv (.val (.int .i64 (sets.length:Int)))),(25,.cv (.val (.int .i64 xX)))],h.on []⟩) hr (ai hwf) (fun W2 xX hr=>?_)
   obtain ⟨v1,rfl⟩:∃ z,z=xX:=⟨xX,rfl⟩
   dsimp only[aG.b2]at hr
   refine A_s ?_
   refine aj ?_
   refine au hr (fun cF21 hr=>?_) (fun cF21 hr=>?_)
   ·refine aL ?_
    refine w_n ?_
    refine aj ?_
    refine aI ?_
    refine aj ?_
    obtain ⟨xs,nF22,eF23,gF24,hr⟩:=hr.idx
    refine ah ?_
    refine w_n ?_
    refine aj ?_
    refine bE ?_
    refine aw 1 ?_
    obtain ⟨r3,eF25,hr⟩:=hr.bind
    refine be (out:=?o_eF25) (hp:=?p_eF25) ?c_eF25 ?d_eF25 ?_
    case c_eF25=>exact lT xs eF25
    case d_eF25=>rfl
    refine ae ?_
    refine w_n ?_
    obtain ⟨v2,vF28,hr⟩:=hr.bind
    refine cq (sj:=⟨[(0,.cv (.val (.sl (List.map (eL bi) sets)))),(23,.cv (.val (.sl (List.map (eL bi) sets)))),(24,.cv (.val (.int .i64 (sets.length:Int)))),(25,.cv (.val (.int .i64 v1))),(41,.cv (.val (.bool v2)))],h.on []⟩) (bE ?_) ?_
    ·have hr:=Holds.intro (D:=fun z=>z=v2) vF28 rfl
     refine aw 3 ?_
     rcases hr.ite with ⟨cF26,hr⟩ | ⟨cF26,hr⟩
     ·refine aw 2 ?_
      refine iu ?_
      refine ae ?_
      obtain rfl:_=v2:=hr
      exact w_k (ai hwf)
     ·refine aw 2 ?_
      obtain ⟨r4,eF27,hr⟩:=hr.bind
      refine be (out:=?o_eF27) (hp:=?p_eF27) ?c_eF27 ?d_eF27 ?_
      case c_eF27=>exact dR r3.1 xs eF27
      case d_eF27=>rfl
      refine ae ?_
      obtain rfl:_=v2:=hr
      exact w_k (ai hwf)
    refine au hr (fun cF29 hr=>?_) (fun cF29 hr=>?_)
    ·refine aj ?_
     refine ah ?_
     refine w_n ?_
     refine bu ?_
     obtain rfl:=hD _ hr
     exact (fQ (cw (cw (fQ (cw (cw (ba (ai (os':=[]) (sl:=[(2,.cv (.val (.ptr none))),(3,.cv (.val (.int .i64 (1:Int))))]) hwf) ⟨rfl,aK hwf⟩)))))))
    ·refine aL ?_
     refine (eY (w_n ?_))
     refine ah ?_
     exact (w_k ⟨(IntKind.i64.wrap (v1+(1:Int))),hr,(ai hwf)⟩)
   ·refine cG ?_
    exact (dG (dG (iy (w_k ⟨(),(hr).map,(ai hwf)⟩))))
theorem lW (sets:List (List ak)) {h:ax} {a:(Option aH×Int)} (e:aG sets=some a) (hx:a.1=none):
  cp CT 32 [.cv (.val (.sl (List.map (eL bi) sets)))] h fun o h'=>o=[.cv (.val (.ptr none)),.cv (.val (.int .i64 a.2))]∧h'=h:=by
 have:=kQ (h:=h) sets e
 rw[hx]at this
 exact this
theorem lZ (sets:List (List ak)) {h:ax} {a:(Option aH×Int)} {y:aH} (e:aG sets=some a) (hx:a.1=some y):
  cp CT 32 [.cv (.val (.sl (List.map (eL bi) sets)))] h fun o h'=>o=[.cv (.val (.ptr (some (h.n+0,0)))),.cv (.val (.int .i64 a.2))]∧h'=h.on [some (.cells [.val (.ptr (some (h.n+1,0))),.val (.sl (List.map (eK .u64) y.masks)),.val (.sl (List.map eI y.least))]),some (.cells (bQ eU y.trie.like++([.val (.sl (List.map (eA eU) y.trie.first))]:List CV)))]:=by
 have:=kQ (h:=h) sets e
 rw[hx]at this
 exact this
theorem fx (a_:aH) (l0:Nat) (l0p0:Nat) {h:ax} (ha0:h.at_ l0=some (.cells [.val (.ptr (some (l0p0,0))),.val (.sl (List.map (eK .u64) a_.masks)),.val (.sl (List.map eI a_.least))])) (ha0p0:h.at_ l0p0=some (.cells (bQ eU a_.trie.like++([.val (.sl (List.map (eA eU) a_.trie.first))]:List CV)))) (hn0_0p0:l0≠l0p0) {a:Int} (e:dB a_=some a):
  cp CT 34 [.cv (.val (.ptr (some (l0,0))))] h fun o h'=>o=[.cv (.val (.int .i64 a))]∧h'=h:=by
 refine bv Tryz.func34 fun hwf hu=>?_
 have hl0:=(hwf _ _ ha0).1
 have kl0:=lQ hl0
 have hl0p0:=(hwf _ _ ha0p0).1
 have kl0p0:=lQ hl0p0
 obtain ⟨D,hD,hr⟩:=Holds.one e
 dsimp only[dB]at hr
 change aR _ _ _ _ _ ⟨[(0,.cv (.val (.ptr (some (l0,0)))))],h.on []⟩
 iterate 2 refine A_s ?_
 refine bu ?_
 obtain rfl:=hD _ hr
 exact (ba (ai (os':=[]) (sl:=[(2,.cv (.val (.int .i64 (a_.masks.length:Int))))]) hwf) ⟨rfl,aK hwf⟩)
theorem iC (s:List Int) {h:ax} {a:List Int} (e:dg s=some a):
  cp CT 90 [.cv (.val (.sl (List.map (eK .u64) s)))] h fun o h'=>o=[.cv (.row 152 (List.map (eK .u64) a))]∧h'=h:=by
 refine bv Tryz.func90 fun hwf hu=>?_
 have hr:Holds (dg s) (fun z=>z=a):=Holds.intro e rfl
 unfold dg at hr
 obtain ⟨nF1,hr⟩:=hr.room
 obtain rfl:s=a:=hr
 change aR _ _ _ _ _ ⟨[(0,.cv (.val (.sl (List.map (eK .u64) s))))],h.on []⟩
 refine A_s ?_
 refine aj ?_
 refine aj ?_
 refine bE ?_
 refine aw 1 ?_
 refine afn rfl Tryz.underlying80 (by simp (disch:=(apply bJ.mk;decide)) only[go_sem,Nat.reduceAdd,Nat.reduceLT];rfl) (fun b hb=>?_)
 refine de ?_
 refine w_n ?_
 cases b with
 | true=>
  have hs:s=[]:=by
   cases s with
   | nil=>rfl
   | cons x l=>exact absurd (hb (by simp)) (by simp)
  subst hs
  refine jP true (fun _=>?_) (fun e=>by cases e)
  refine A_s ?_
  refine bu ?_
  exact (cw (ba (ai (os':=[]) (sl:=[(2,.cv (.row 152 (List.map (eK .u64) ([]:List Int))))]) hwf) ⟨rfl,aK hwf⟩))
 | false=>
  refine jP false (fun e=>by cases e) (fun _=>?_)
  refine aL ?_
  refine w_n ?_
  refine A_s ?_
  refine bu ?_
  exact (ba (ai (os':=[]) (sl:=[(2,.cv (.row 152 (List.map (eK .u64) s)))]) hwf) ⟨rfl,aK hwf⟩)
theorem dy (a_:aH) (l0:Nat) (l0p0:Nat) {h:ax} (ha0:h.at_ l0=some (.cells [.val (.ptr (some (l0p0,0))),.val (.sl (List.map (eK .u64) a_.masks)),.val (.sl (List.map eI a_.least))])) (ha0p0:h.at_ l0p0=some (.cells (bQ eU a_.trie.like++([.val (.sl (List.map (eA eU) a_.trie.first))]:List CV)))) (hn0_0p0:l0≠l0p0) {a:List Int} (e:cA a_=some a):
  cp CT 37 [.cv (.val (.ptr (some (l0,0))))] h fun o h'=>o=[.cv (.val (.sl (List.map (eK .u64) a)))]∧h'=h:=by
 refine bv Tryz.func37 fun hwf hu=>?_
 have hl0:=(hwf _ _ ha0).1
 have kl0:=lQ hl0
 have hl0p0:=(hwf _ _ ha0p0).1
 have kl0p0:=lQ hl0p0
 obtain ⟨D,hD,hr⟩:=Holds.one e
 dsimp only[cA]at hr
 change aR _ _ _ _ _ ⟨[(0,.cv (.val (.ptr (some (l0,0)))))],h.on []⟩
 refine A_s ?_
 refine aj ?_
 refine bE ?_
 refine aw 4 ?_
 obtain ⟨r,eF1,hr⟩:=hr.bind
 refine be (out:=?o_eF1) (hp:=?p_eF1) ?c_eF1 ?d_eF1 ?_
 case c_eF1=>exact iC a_.masks eF1
 case d_eF1=>rfl
 refine ae ?_
 refine w_n ?_
 refine bu ?_
 obtain rfl:=hD _ hr
 exact (ba (.fix _ _ (.slot 2) 152 _ pw (ai (os':=[]) (sl:=[(2,.cv (.val (.sl (List.map (eK .u64) r))))]) hwf)) ⟨rfl,aK hwf⟩)
theorem pP:∀ (fu:Nat) (n:az) {h:ax} {a:az} (e:bZ.r fu n=some a),
  cp CT 35 [.cv (.val (.agg [.int .i64 n.Kind,.int .i64 n.Set,.sl (List.map bR n.Kids)]))] h fun o h'=>o=[.cv (.val (.agg [.int .i64 a.Kind,.int .i64 a.Set,.sl (List.map bR a.Kids)]))]∧h'=h:=by
 intro fu
 induction fu with
 | zero=>intros;rename_i e;simp[bZ.r]at e
 | succ fu ih=>
  intro n h a e
  refine bv Tryz.func35 fun hwf hu=>?_
  obtain ⟨D,hD,hr⟩:=Holds.one e
  dsimp only[bZ.r]at hr
  change aR _ _ _ _ _ ⟨[(0,.cv (.val (.agg [.int .i64 n.Kind,.int .i64 n.Set,.sl (List.map bR n.Kids)])))],h.on []⟩
  iterate 2 refine A_s ?_
  refine aj ?_
  refine A_s ?_
  refine w_K (D:=D) (fun xX:List az=>⟨[(1,.cv (.val (.ptr (some (h.n+0,0))))),(2,.cv (.val (.ptr (some (h.n+1,0))))),(3,.cv (.row 31 (List.map bR xX)))],h.on [some (.cells [.val (.int .i64 n.Kind),.val (.int .i64 n.Set),.val (.sl (List.map bR n.Kids))]),some (.cells [.val (.int .i64 (0:Int)),.val (.int .i64 (0:Int)),.nil])]⟩) (fun xX:List az=>bZ.k1 n xX) (fun xX s' hr ht=>?_) ?_
  ·obtain ⟨kids,rfl⟩:∃ z,z=xX:=⟨xX,rfl⟩
   dsimp only[bZ.k1]at hr ht
   refine (eO ht ?_)
   refine aj ?_
   refine A_s ?_
   refine w_K (D:=D) (fun xX:List az=>⟨[(1,.cv (.val (.ptr (some (h.n+0,0))))),(2,.cv (.val (.ptr (some (h.n+1,0))))),(3,.cv (.row 31 (List.map bR xX)))],h.on [some (.cells [.val (.int .i64 n.Kind),.val (.int .i64 n.Set),.val (.sl (List.map bR n.Kids))]),some (.cells [.val (.int .i64 (0:Int)),.val (.int .i64 (0:Int)),.nil])]⟩) (fun xX:List az=>bZ.k2 n xX) (fun xX s' hr ht=>?_) ?_
   ·obtain ⟨kids1,rfl⟩:∃ z,z=xX:=⟨xX,rfl⟩
    dsimp only[bZ.k2]at hr ht
    refine (eO ht ?_)
    refine A_s ?_
    refine bu ?_
    obtain rfl:=hD _ hr
    exact (fq (ai (os':=[none,some (.cells [.val (.int .i64 n.Kind),.val (.int .i64 n.Set),.val (.sl (List.map bR kids1))])]) (sl:=[(2,.cv (.val (.ptr (some (h.n+1,0)))))]) hwf) (by simp (disch:=(apply bJ.mk;decide)) only[go_sem,Nat.reduceAdd,Nat.reduceLT,Nat.reduceMul,Nat.reduceLeDiff,Int.reduceToNat,Int.reduceLT,Int.reduceLE,Tryz.results35,af ahX,dV,eT.eq_2,df]) (Drops.on (os:=[none,some (.cells [.val (.int .i64 n.Kind),.val (.int .i64 n.Set),.val (.sl (List.map bR kids1))])]) (os':=[]) hwf (Nat.le_refl _) (by simp (disch:=(apply bJ.mk;decide)) only[go_sem,Nat.reduceAdd,Nat.reduceLT,Nat.reduceMul,Nat.reduceLeDiff,Int.reduceToNat,Int.reduceLT,Int.reduceLE])) ⟨rfl,aK hwf⟩)
   ·refine au hr (fun cF1 hr=>?_) (fun cF1 hr=>?_)
    ·refine bE ?_
     refine aw 1 ?_
     obtain ⟨l,eF2,hr⟩:=hr.bind
     refine ajs (g:=86) (ds:=[]) (k:=31) rfl (by simp (disch:=(apply bJ.mk;decide)) only[go_sem,Nat.reduceAdd,Nat.reduceLT,Nat.reduceMul,Nat.reduceLeDiff,Int.reduceToNat,Int.reduceLT,Int.reduceLE,Option.getD_some] <;> rfl) rfl (by simp (disch:=(apply bJ.mk;decide)) only[go_sem,Nat.reduceAdd,Nat.reduceLT,Nat.reduceMul,Nat.reduceLeDiff,Int.reduceToNat,Int.reduceLT,Int.reduceLE,Option.getD_some] <;> rfl) (by simp (disch:=(apply bJ.mk;decide)) only[go_sem,Nat.reduceAdd,Nat.reduceLT,Nat.reduceMul,Nat.reduceLeDiff,Int.reduceToNat,Int.reduceLT,Int.reduceLE,Option.getD_some] <;> rfl) (by simp (disch:=(apply bJ.mk;decide)) only[go_sem,Nat.reduceAdd,Nat.reduceLT,Nat.reduceMul,Nat.reduceLeDiff,Int.reduceToNat,Int.reduceLT,Int.reduceLE,Option.getD_some] <;> rfl) (by rfl) (arq eF2) ?_
     refine de ?_
     exact (w_k ⟨l,hr,(ai hwf)⟩)
    ·refine aL ?_
     exact (w_k ⟨kids,hr,(ai hwf)⟩)
  ·refine aI ?_
   refine cI (fun xX:(List az×Int)=>⟨[(1,.cv (.val (.ptr (some (h.n+0,0))))),(2,.cv (.val (.ptr (some (h.n+1,0))))),(3,.cv (.row 31 (List.map bR xX.1))),(7,.cv (.val (.sl (List.map bR n.Kids)))),(8,.cv (.val (.int .i64 (n.Kids.length:Int)))),(9,.cv (.val (.int .i64 xX.2)))],h.on [some (.cells [.val (.int .i64 n.Kind),.val (.int .i64 n.Set),.val (.sl (List.map bR n.Kids))]),some (.cells [.val (.int .i64 (0:Int)),.val (.int .i64 (0:Int)),.nil])]⟩) hr (ai hwf) (fun W1 xX hr=>?_)
   obtain ⟨kids2,v⟩:=xX
   dsimp only[bZ.b1]at hr
   refine A_s ?_
   refine aj ?_
   refine au hr (fun cF3 hr=>?_) (fun cF3 hr=>?_)
   ·refine aL ?_
    refine w_n ?_
    refine aj ?_
    refine aI ?_
    refine aj ?_
    obtain ⟨x,nF4,eF5,gF6,hr⟩:=hr.idx
    refine ah ?_
    refine w_n ?_
    refine bE ?_
    refine aw 2 ?_
    obtain ⟨r,eF7,hr⟩:=hr.bind
    refine be (out:=?o_eF7) (hp:=?p_eF7) ?c_eF7 ?d_eF7 ?_
    case c_eF7=>exact ih x eF7
    case d_eF7=>rfl
    obtain ⟨nF8,hr⟩:=hr.room
    refine ae ?_
    refine (eY (w_n ?_))
    refine ah ?_
    exact (w_k ⟨((kids2++([r])),(IntKind.i64.wrap (v+(1:Int)))),hr,(ai hwf)⟩)
   ·refine cG ?_
    exact (dG (dG (iy (w_k ⟨kids2,(hr).map,(ai hwf)⟩))))
theorem mc (n:az) {h:ax} {a:az} (e:bZ n=some a):
  cp CT 35 [.cv (.val (.agg [.int .i64 n.Kind,.int .i64 n.Set,.sl (List.map bR n.Kids)]))] h fun o h'=>o=[.cv (.val (.agg [.int .i64 a.Kind,.int .i64 a.Set,.sl (List.map bR a.Kids)]))]∧h'=h:=by
 obtain ⟨fuN,fuH⟩:=lK e
 exact pP fuN n (fuH fuN (Nat.le_refl fuN))
theorem oI (self:az→Option Bool) (n:az) {h:ax} (hself:∀ (n:az) {h:ax} {a:Bool} (e:self n=some a),
  cp CT 154 [.cv (.val (.agg [.int .i64 n.Kind,.int .i64 n.Set,.sl (List.map bR n.Kids)]))] h fun o h'=>o=[.cv (.val (.bool a))]∧h'=h) {a:Bool} (e:im self n=some a):
  cp CT 218 [.cv (.val (.agg [.int .i64 n.Kind,.int .i64 n.Set,.sl (List.map bR n.Kids)]))] h fun o h'=>o=[.cv (.val (.bool a))]∧h'=h:=by
 refine bv Tryz.func218 fun hwf hu=>?_
 obtain ⟨D,hD,hr⟩:=Holds.one e
 dsimp only[im]at hr
 change aR _ _ _ _ _ ⟨[(0,.cv (.val (.agg [.int .i64 n.Kind,.int .i64 n.Set,.sl (List.map bR n.Kids)])))],h.on []⟩
 refine A_s ?_
 refine aj ?_
 refine bE ?_
 refine aw 1 ?_
 obtain ⟨r,eF1,hr⟩:=hr.bind
 refine be (out:=?o_eF1) (hp:=?p_eF1) ?c_eF1 ?d_eF1 ?_
 case c_eF1=>exact hself n eF1
 case d_eF1=>rfl
 refine ae ?_
 refine w_n ?_
 refine bu ?_
 obtain rfl:=hD _ hr
 exact (ba (ai (os':=[]) (sl:=[(2,.cv (.val (.bool (!r))))]) hwf) ⟨rfl,aK hwf⟩)
theorem fI (s:List az) (f:az→Option Bool) (fid_f:FuncId) (caps_f:List ao) {h:ax} (h_f:∀ os x0 r,f x0=some r→cp CT fid_f ([.cv (.val (.agg [.int .i64 x0.Kind,.int .i64 x0.Set,.sl (List.map bR x0.Kids)]))]++jc caps_f) (h.on os) fun o h'=>o=[.cv (.val (.bool r))]∧h'=h.on os) (d_f:∀ i,CT.how fid_f i= .data) {a:Int} (e:aD s f=some a):
  cp CT 258 [.cv (.val (.sl (List.map bR s))),.cv (.val (.fn fid_f [] caps_f))] h fun o h'=>o=[.cv (.val (.int .i64 a))]∧h'=h:=by
 refine bv Tryz.func258 fun hwf hu=>?_
 have u_f:bG h.n caps_f:=(hu (.cv (.val (.fn fid_f [] caps_f))) (by simp)).2
 have vu_f:=fun k=>fk (k:=k) u_f
 obtain ⟨D,hD,hr⟩:=Holds.one e
 dsimp only[aD]at hr
 change aR _ _ _ _ _ ⟨[(0,.cv (.val (.sl (List.map bR s)))),(1,.cv (.val (.fn fid_f [] caps_f)))],h.on []⟩
 refine A_s ?_
 refine aj ?_
 refine A_s ?_
 refine w_K (D:=D) (fun xX:Unit=>⟨[],h.on []⟩) (fun xX:Unit=>aD.k1) (fun xX s' hr ht=>?_) ?_
 ·dsimp only[aD.k1]at hr ht
  refine (eO ht ?_)
  refine A_s ?_
  refine bu ?_
  obtain rfl:=hD _ hr
  exact (ba (ai (os':=[]) (sl:=[(4,.cv (.val (.int .i64 (-1:Int))))]) hwf) ⟨rfl,aK hwf⟩)
 ·refine aI ?_
  refine cI (fun xX:Int=>⟨[(0,.cv (.val (.sl (List.map bR s)))),(1,.cv (.val (.fn fid_f [] caps_f))),(7,.cv (.val (.int .i64 (s.length:Int)))),(8,.cv (.val (.int .i64 xX)))],h.on []⟩) hr (ai hwf) (fun W1 xX hr=>?_)
  obtain ⟨v,rfl⟩:∃ z,z=xX:=⟨xX,rfl⟩
  dsimp only[aD.b1]at hr
  refine A_s ?_
  refine aj ?_
  refine au hr (fun cF1 hr=>?_) (fun cF1 hr=>?_)
  ·refine aL ?_
   refine w_n ?_
   refine aj ?_
   refine aI ?_
   refine A_s ?_
   refine aj ?_
   refine bE ?_
   obtain ⟨x,nF2,eF3,gF4,hr⟩:=hr.idx
   refine aw 5 ?_
   obtain ⟨r,eF5,hr⟩:=hr.bind
   refine be (out:=?o_eF5) (hp:=?p_eF5) ?c_eF5 ?d_eF5 ?_
   case c_eF5=>exact h_f _ _ _ eF5
   case d_eF5=>rfl
   refine de ?_
   refine w_n ?_
   refine au hr (fun cF6 hr=>?_) (fun cF6 hr=>?_)
   ·refine aj ?_
    refine ah ?_
    refine w_n ?_
    refine bu ?_
    obtain rfl:=hD _ hr
    exact (fQ (cw (cw (fQ (cw (cw (ba (ai (os':=[]) (sl:=[(4,.cv (.val (.int .i64 v)))]) hwf) ⟨rfl,aK hwf⟩)))))))
   ·refine aL ?_
    refine (eY (w_n ?_))
    refine ah ?_
    exact (w_k ⟨(IntKind.i64.wrap (v+(1:Int))),hr,(ai hwf)⟩)
  ·refine cG ?_
   exact (dG (dG (iy (w_k ⟨(),(hr).map,(ai hwf)⟩))))
theorem fh (s:List az) (f:az→Option Bool) (fid_f:FuncId) (caps_f:List ao) {h:ax} (h_f:∀ os x0 r,f x0=some r→cp CT fid_f ([.cv (.val (.agg [.int .i64 x0.Kind,.int .i64 x0.Set,.sl (List.map bR x0.Kids)]))]++jc caps_f) (h.on os) fun o h'=>o=[.cv (.val (.bool r))]∧h'=h.on os) (d_f:∀ i,CT.how fid_f i= .data) {a:Bool} (e:cd s f=some a):
  cp CT 219 [.cv (.val (.sl (List.map bR s))),.cv (.val (.fn fid_f [] caps_f))] h fun o h'=>o=[.cv (.val (.bool a))]∧h'=h:=by
 refine bv Tryz.func219 fun hwf hu=>?_
 have u_f:bG h.n caps_f:=(hu (.cv (.val (.fn fid_f [] caps_f))) (by simp)).2
 have vu_f:=fun k=>fk (k:=k) u_f
 obtain ⟨D,hD,hr⟩:=Holds.one e
 dsimp only[cd]at hr
 change aR _ _ _ _ _ ⟨[(0,.cv (.val (.sl (List.map bR s)))),(1,.cv (.val (.fn fid_f [] caps_f)))],h.on []⟩
 refine A_s ?_
 refine aj ?_
 refine bE ?_
 refine aw 2 ?_
 obtain ⟨r,eF1,hr⟩:=hr.bind
 refine be (out:=?o_eF1) (hp:=?p_eF1) ?c_eF1 ?d_eF1 ?_
 case c_eF1=>(refine fI s f _ _ ?_ ?_ eF1;(exact (fun os x0 r e=>by rw[acL];exact h_f _ x0 r e));(exact d_f))
 case d_eF1=>rfl
 refine ae ?_
 refine w_n ?_
 refine bu ?_
 obtain rfl:=hD _ hr
 exact (ba (ai (os':=[]) (sl:=[(4,.cv (.val (.bool (decide (r≥(0:Int))))))]) hwf) ⟨rfl,aK hwf⟩)
theorem ov:∀ (fu:Nat) (n:az) {h:ax} {a:Bool} (e:bm.r fu n=some a),
  cp CT 154 [.cv (.val (.agg [.int .i64 n.Kind,.int .i64 n.Set,.sl (List.map bR n.Kids)]))] h fun o h'=>o=[.cv (.val (.bool a))]∧h'=h:=by
 intro fu
 induction fu with
 | zero=>intros;rename_i e;simp[bm.r]at e
 | succ fu ih=>
  intro n h a e
  refine bv Tryz.func154 fun hwf hu=>?_
  obtain ⟨D,hD,hr⟩:=Holds.one e
  dsimp only[bm.r]at hr
  change aR _ _ _ _ _ ⟨[(0,.cv (.val (.agg [.int .i64 n.Kind,.int .i64 n.Set,.sl (List.map bR n.Kids)])))],h.on []⟩
  iterate 2 refine A_s ?_
  refine aj ?_
  iterate 2 refine A_s ?_
  refine w_K (D:=D) (fun xX:Bool=>⟨[(1,.cv (.val (.ptr (some (h.n+0,0))))),(3,.cv (.val (.bool xX)))],h.on [some (.cells [.val (.int .i64 n.Kind),.val (.int .i64 n.Set),.val (.sl (List.map bR n.Kids))])]⟩) (fun xX:Bool=>bm.k1 (bm.r fu) n xX) (fun xX s' hr ht=>?_) ?_
  ·obtain ⟨fits,rfl⟩:∃ z,z=xX:=⟨xX,rfl⟩
   dsimp only[bm.k1]at hr ht
   refine (eO ht ?_)
   refine A_s ?_
   obtain ⟨v,vF3,hr⟩:=hr.bind
   refine cq (sj:=⟨[(2,.cv (.val (.bool v)))],h.on []⟩) (bE ?_) ?_
   ·have hr:=Holds.intro (D:=fun z=>z=v) vF3 rfl
    refine aw 2 ?_
    rcases hr.ite with ⟨cF1,hr⟩ | ⟨cF1,hr⟩
    ·refine aw 3 ?_
     obtain ⟨r,eF2,hr⟩:=hr.bind
     refine be (out:=?o_eF2) (hp:=?p_eF2) ?c_eF2 ?d_eF2 ?_
     case c_eF2=>(refine fh n.Kids (fun x0=>im (bm.r fu) x0) _ _ ?_ ?_ eF2;(exact (fun os x0 r e=>oI (bm.r fu) x0 ih e));(exact (fun i=>by simp[CT])))
     case d_eF2=>rfl
     refine ae ?_
     obtain rfl:_=v:=hr
     exact w_k (ai hwf)
    ·refine aw 3 ?_
     refine iu ?_
     refine ae ?_
     obtain rfl:_=v:=hr
     exact w_k (ai hwf)
   refine bu ?_
   obtain rfl:=hD _ hr
   exact (ba (ai (os':=[]) (sl:=[(2,.cv (.val (.bool v)))]) hwf) ⟨rfl,aK hwf⟩)
  ·refine aI ?_
   refine A_s ?_
   refine au hr (fun cF4 hr=>?_) (fun cF4 hr=>?_)
   ·refine bE ?_
    refine aw 3 ?_
    rcases hr.ite with ⟨cF5,hr⟩ | ⟨cF5,hr⟩
    ·refine aw 5 ?_
     rcases hr.ite with ⟨cF6,hr⟩ | ⟨cF6,hr⟩
     ·refine ae ?_
      exact (eY (w_k ⟨(decide (n.Set≤(63:Int))),hr,(ai hwf)⟩))
     ·refine ae ?_
      exact (eY (w_k ⟨false,hr,(ai hwf)⟩))
    ·refine ae ?_
     exact (eY (w_k ⟨false,hr,(ai hwf)⟩))
   ·refine aj ?_
    refine ah ?_
    refine w_n ?_
    refine au hr (fun cF7 hr=>?_) (fun cF7 hr=>?_)
    ·refine ah ?_
     exact (eY (w_k ⟨true,hr,(ai hwf)⟩))
    ·refine aj ?_
     refine ah ?_
     refine w_n ?_
     refine au hr (fun cF8 hr=>?_) (fun cF8 hr=>?_)
     ·refine ah ?_
      exact (eY (w_k ⟨(decide ((n.Kids.length:Int) > (0:Int))),hr,(ai hwf)⟩))
     ·refine aj ?_
      refine A_s ?_
      refine w_K (D:=D) (fun xX:Bool=>⟨[(1,.cv (.val (.ptr (some (h.n+0,0))))),(3,.cv (.val (.bool false))),(4,.cv (.val (.int .i64 (n.Kids.length:Int)))),(31,.cv (.val (.bool xX)))],h.on [some (.cells [.val (.int .i64 n.Kind),.val (.int .i64 n.Set),.val (.sl (List.map bR n.Kids))])]⟩) (fun xX:Bool=>bm.k2 (bm.r fu) n xX) (fun xX s' hr ht=>?_) ?_
      ·obtain ⟨v1,rfl⟩:∃ z,z=xX:=⟨xX,rfl⟩
       dsimp only[bm.k2]at hr ht
       refine (eO ht ?_)
       refine au hr (fun cF9 hr=>?_) (fun cF9 hr=>?_)
       ·refine ah ?_
        exact (eY (w_k ⟨((n.Kids.length:Int)==(1:Int)),hr,(ai hwf)⟩))
       ·refine aL ?_
        exact (eY (w_k ⟨false,hr,(ai hwf)⟩))
      ·refine au hr (fun cF10 hr=>?_) (fun cF10 hr=>?_)
       ·refine aL ?_
        exact (w_k ⟨(n.Kind==(3:Int)),hr,(ai hwf)⟩)
       ·refine aj ?_
        refine ah ?_
        refine w_n ?_
        refine au hr (fun cF11 hr=>?_) (fun cF11 hr=>?_)
        ·refine aL ?_
         exact (w_k ⟨(n.Kind==(4:Int)),hr,(ai hwf)⟩)
        ·refine ah ?_
         exact (w_k ⟨(n.Kind==(5:Int)),hr,(ai hwf)⟩)
theorem qK (n:az) {h:ax} {a:Bool} (e:bm n=some a):
  cp CT 154 [.cv (.val (.agg [.int .i64 n.Kind,.int .i64 n.Set,.sl (List.map bR n.Kids)]))] h fun o h'=>o=[.cv (.val (.bool a))]∧h'=h:=by
 obtain ⟨fuN,fuH⟩:=lK e
 exact ov fuN n (fuH fuN (Nat.le_refl fuN))
theorem nW:∀ (fu:Nat) (n:az) {h:ax} {a:Int} (e:bx.r fu n=some a),
  cp CT 155 [.cv (.val (.agg [.int .i64 n.Kind,.int .i64 n.Set,.sl (List.map bR n.Kids)]))] h fun o h'=>o=[.cv (.val (.int .i64 a))]∧h'=h:=by
 intro fu
 induction fu with
 | zero=>intros;rename_i e;simp[bx.r]at e
 | succ fu ih=>
  intro n h a e
  refine bv Tryz.func155 fun hwf hu=>?_
  obtain ⟨D,hD,hr⟩:=Holds.one e
  dsimp only[bx.r]at hr
  change aR _ _ _ _ _ ⟨[(0,.cv (.val (.agg [.int .i64 n.Kind,.int .i64 n.Set,.sl (List.map bR n.Kids)])))],h.on []⟩
  refine A_s ?_
  refine aj ?_
  refine A_s ?_
  refine au hr (fun cF1 hr=>?_) (fun cF1 hr=>?_)
  ·refine aj ?_
   refine ah ?_
   refine w_n ?_
   refine bu ?_
   obtain rfl:=hD _ hr
   exact (cw (ba (ai (os':=[]) (sl:=[(2,.cv (.val (.int .i64 (1:Int))))]) hwf) ⟨rfl,aK hwf⟩))
  ·refine aL ?_
   refine w_n ?_
   refine A_s ?_
   refine aj ?_
   refine A_s ?_
   refine w_K (D:=D) (fun xX:Int=>⟨[(3,.cv (.val (.int .i64 xX)))],h.on []⟩) (fun xX:Int=>bx.k1 xX) (fun xX s' hr ht=>?_) ?_
   ·obtain ⟨k,rfl⟩:∃ z,z=xX:=⟨xX,rfl⟩
    dsimp only[bx.k1]at hr ht
    refine (eO ht ?_)
    refine A_s ?_
    refine bu ?_
    obtain rfl:=hD _ hr
    exact (ba (ai (os':=[]) (sl:=[(2,.cv (.val (.int .i64 k)))]) hwf) ⟨rfl,aK hwf⟩)
   ·refine aI ?_
    refine cI (fun xX:(Int×Int)=>⟨[(3,.cv (.val (.int .i64 xX.1))),(10,.cv (.val (.sl (List.map bR n.Kids)))),(11,.cv (.val (.int .i64 (n.Kids.length:Int)))),(12,.cv (.val (.int .i64 xX.2)))],h.on []⟩) hr (ai hwf) (fun W1 xX hr=>?_)
    obtain ⟨k1,v⟩:=xX
    dsimp only[bx.b1]at hr
    refine A_s ?_
    refine aj ?_
    refine au hr (fun cF2 hr=>?_) (fun cF2 hr=>?_)
    ·refine aL ?_
     refine w_n ?_
     refine aj ?_
     refine aI ?_
     refine aj ?_
     obtain ⟨x,nF3,eF4,gF5,hr⟩:=hr.idx
     refine ah ?_
     refine w_n ?_
     refine bE ?_
     refine aw 2 ?_
     obtain ⟨r,eF6,hr⟩:=hr.bind
     refine be (out:=?o_eF6) (hp:=?p_eF6) ?c_eF6 ?d_eF6 ?_
     case c_eF6=>exact ih x eF6
     case d_eF6=>rfl
     refine ae ?_
     refine (eY (w_n ?_))
     refine ah ?_
     exact (w_k ⟨((IntKind.i64.wrap (k1+r)),(IntKind.i64.wrap (v+(1:Int)))),hr,(ai hwf)⟩)
    ·refine cG ?_
     exact (dG (dG (iy (w_k ⟨k1,(hr).map,(ai hwf)⟩))))
theorem pX (n:az) {h:ax} {a:Int} (e:bx n=some a):
  cp CT 155 [.cv (.val (.agg [.int .i64 n.Kind,.int .i64 n.Set,.sl (List.map bR n.Kids)]))] h fun o h'=>o=[.cv (.val (.int .i64 a))]∧h'=h:=by
 obtain ⟨fuN,fuH⟩:=lK e
 exact nW fuN n (fuH fuN (Nat.le_refl fuN))
end Go.Val
namespace Go.Val
theorem gS (s:List Int) (n:Int) {h:ax} {a:List Int} (e:dq s n=some a):
  cp CT 273 [.cv .nil,.cv (.val (.int .i64 n))] h fun o h'=>o=[.cv (.row 3 (List.map eI a))]∧h'=h:=by
 unfold dq at e
 split at e
 ·rename_i hc
  obtain ⟨rfl,h1,h2⟩:=hc
  obtain rfl:=Option.some.inj e
  exact cp.hand (C:=CT) (show tE 273 _ h _ h from ⟨rfl,.inr (.inr (.inr (.inr (.inl ⟨.inr rfl,n,rfl,h1,h2,rfl⟩))))⟩) ⟨rfl,rfl⟩
 ·cases e
end Go.Val
namespace Go.Val
set_option maxRecDepth 20000
open Go.Proofs
theorem gm (slices:List (List Int)) {h:ax} {a:List Int} (e:al slices=some a):
  cp CT 259 [.cv (.val (.sl (List.map (eL eI) slices)))] h fun o h'=>o=[.cv (.row 3 (List.map eI a))]∧h'=h:=by
 refine bv Tryz.func259 fun hwf hu=>?_
 obtain ⟨D,hD,hr⟩:=Holds.one e
 dsimp only[al]at hr
 change aR _ _ _ _ _ ⟨[(0,.cv (.val (.sl (List.map (eL eI) slices))))],h.on []⟩
 iterate 2 refine A_s ?_
 refine aj ?_
 refine A_s ?_
 refine w_K (D:=D) (fun xX:Int=>⟨[(0,.cv (.val (.sl (List.map (eL eI) slices)))),(3,.cv (.val (.int .i64 xX)))],h.on []⟩) (fun xX:Int=>al.k1 slices xX) (fun xX s' hr ht=>?_) ?_
 ·obtain ⟨size,rfl⟩:∃ z,z=xX:=⟨xX,rfl⟩
  dsimp only[al.k1]at hr ht
  refine (eO ht ?_)
  refine aj ?_
  refine bE ?_
  refine aw 1 ?_
  obtain ⟨r,eF1,hr⟩:=hr.bind
  refine be (out:=?o_eF1) (hp:=?p_eF1) ?c_eF1 ?d_eF1 ?_
  case c_eF1=>exact gS [] size eF1
  case d_eF1=>rfl
  refine ae ?_
  refine w_n ?_
  refine aj ?_
  refine A_s ?_
  refine w_K (D:=D) (fun xX:List Int=>⟨[(6,.cv (.row 3 (List.map eI xX)))],h.on []⟩) (fun xX:List Int=>al.k2 xX) (fun xX s' hr ht=>?_) ?_
  ·obtain ⟨newslice,rfl⟩:∃ z,z=xX:=⟨xX,rfl⟩
   dsimp only[al.k2]at hr ht
   refine (eO ht ?_)
   refine A_s ?_
   refine bu ?_
   obtain rfl:=hD _ hr
   exact (ba (ai (os':=[]) (sl:=[(2,.cv (.row 3 (List.map eI newslice)))]) hwf) ⟨rfl,aK hwf⟩)
  ·refine aI ?_
   refine cI (fun xX:(List Int×Int)=>⟨[(6,.cv (.row 3 (List.map eI xX.1))),(25,.cv (.val (.sl (List.map (eL eI) slices)))),(26,.cv (.val (.int .i64 (slices.length:Int)))),(27,.cv (.val (.int .i64 xX.2)))],h.on []⟩) hr (ai hwf) (fun W1 xX hr=>?_)
   obtain ⟨newslice1,v⟩:=xX
   dsimp only[al.b1]at hr
   refine A_s ?_
   refine aj ?_
   refine au hr (fun cF2 hr=>?_) (fun cF2 hr=>?_)
   ·refine aL ?_
    refine w_n ?_
    refine aj ?_
    refine aI ?_
    refine aj ?_
    obtain ⟨xs,nF3,eF4,gF5,hr⟩:=hr.idx
    refine ah ?_
    refine w_n ?_
    obtain ⟨nF6,hr⟩:=hr.room
    refine ah ?_
    refine (eY (w_n ?_))
    refine ah ?_
    exact (w_k ⟨((newslice1++xs),(IntKind.i64.wrap (v+(1:Int)))),hr,(ai hwf)⟩)
   ·refine cG ?_
    exact (dG (dG (iy (w_k ⟨newslice1,(hr).map,(ai hwf)⟩))))
 ·refine aI ?_
  refine cI (fun xX:(Int×Int)=>⟨[(0,.cv (.val (.sl (List.map (eL eI) slices)))),(3,.cv (.val (.int .i64 xX.1))),(9,.cv (.val (.sl (List.map (eL eI) slices)))),(10,.cv (.val (.int .i64 (slices.length:Int)))),(11,.cv (.val (.int .i64 xX.2)))],h.on []⟩) hr (ai hwf) (fun W2 xX hr=>?_)
  obtain ⟨size1,v1⟩:=xX
  dsimp only[al.b2]at hr
  refine A_s ?_
  refine aj ?_
  refine au hr (fun cF7 hr=>?_) (fun cF7 hr=>?_)
  ·refine aL ?_
   refine w_n ?_
   refine aj ?_
   refine aI ?_
   refine aj ?_
   obtain ⟨xs1,nF8,eF9,gF10,hr⟩:=hr.idx
   refine ah ?_
   refine w_n ?_
   iterate 2 refine A_s ?_
   refine au hr (fun cF11 hr=>?_) (fun cF11 hr=>?_)
   ·exact hr.elim
   ·refine aL ?_
    refine (eY (w_n ?_))
    refine ah ?_
    exact (w_k ⟨((IntKind.i64.wrap (size1+(xs1.length:Int))),(IntKind.i64.wrap (v1+(1:Int)))),hr,(ai hwf)⟩)
  ·refine cG ?_
   exact (dG (dG (iy (w_k ⟨size1,(hr).map,(ai hwf)⟩))))
end Go.Val
namespace Go.Val
theorem fY (s:List Int) {h:ax} {a:List Int} (e:ch s=some a):
  cp CT 261 [.cv (.row 3 (List.map eI s))] h fun o h'=>o=[.cv (.row 3 (List.map eI a))]∧h'=h:=
 cp.hand (C:=CT) (show tE 261 _ h _ h from ⟨rfl,.inr (.inr (.inr (.inl ⟨rfl,s,a,rfl,e,rfl⟩)))⟩) ⟨rfl,rfl⟩
end Go.Val
namespace Go.Val
set_option maxRecDepth 20000
open Go.Proofs
theorem cB (p:List Int) (more:List Int) {h:ax} {a:List Int} (e:bU p more=some a):
  cp CT 221 [.cv (.val (.sl (List.map eI p))),.cv (.val (.sl (List.map eI more)))] h fun o h'=>o=[.cv (.row 3 (List.map eI a))]∧h'=h:=by
 refine bv Tryz.func221 fun hwf hu=>?_
 obtain ⟨D,hD,hr⟩:=Holds.one e
 dsimp only[bU]at hr
 change aR _ _ _ _ _ ⟨[(0,.cv (.val (.sl (List.map eI p)))),(1,.cv (.val (.sl (List.map eI more))))],h.on []⟩
 refine A_s ?_
 refine aj ?_
 refine bE ?_
 refine aw 3 ?_
 obtain ⟨r,eF1,hr⟩:=hr.bind
 refine be (out:=?o_eF1) (hp:=?p_eF1) ?c_eF1 ?d_eF1 ?_
 case c_eF1=>exact gm ([p,more]) eF1
 case d_eF1=>rfl
 refine ae ?_
 refine w_n ?_
 refine aj ?_
 refine bE ?_
 refine aw 1 ?_
 obtain ⟨l,eF2,hr⟩:=hr.bind
 refine ajs (g:=260) (ds:=[]) (k:=3) rfl (by simp (disch:=(apply bJ.mk;decide)) only[go_sem,Nat.reduceAdd,Nat.reduceLT,Nat.reduceMul,Nat.reduceLeDiff,Int.reduceToNat,Int.reduceLT,Int.reduceLE,Option.getD_some] <;> rfl) rfl (by simp (disch:=(apply bJ.mk;decide)) only[go_sem,Nat.reduceAdd,Nat.reduceLT,Nat.reduceMul,Nat.reduceLeDiff,Int.reduceToNat,Int.reduceLT,Int.reduceLE,Option.getD_some] <;> rfl) (by simp (disch:=(apply bJ.mk;decide)) only[go_sem,Nat.reduceAdd,Nat.reduceLT,Nat.reduceMul,Nat.reduceLeDiff,Int.reduceToNat,Int.reduceLT,Int.reduceLE,Option.getD_some] <;> rfl) (by simp (disch:=(apply bJ.mk;decide)) only[go_sem,Nat.reduceAdd,Nat.reduceLT,Nat.reduceMul,Nat.reduceLeDiff,Int.reduceToNat,Int.reduceLT,Int.reduceLE,Option.getD_some] <;> rfl) (by rfl) (alP eF2) ?_
 refine de ?_
 refine w_n ?_
 refine aj ?_
 refine bE ?_
 refine aw 1 ?_
 obtain ⟨r1,eF3,hr⟩:=hr.bind
 refine be (out:=?o_eF3) (hp:=?p_eF3) ?c_eF3 ?d_eF3 ?_
 case c_eF3=>exact fY l eF3
 case d_eF3=>rfl
 refine ae ?_
 refine w_n ?_
 refine bu ?_
 obtain rfl:=hD _ hr
 exact (ba (ai (os':=[]) (sl:=[(4,.cv (.row 3 (List.map eI r1)))]) hwf) ⟨rfl,aK hwf⟩)
theorem jC (last:List Int) (first:List Int) (a_:cu) (l2c:Nat) (la:Nat) {h:ax} (ha2c:h.at_ l2c=some (.cells [.val (.ptr (some (la,0)))])) (haa:h.at_ la=some (.cells [.val (.bool a_.Null),.row 3 (List.map eI a_.Sets),.val (.sl (List.map eI a_.First)),.val (.sl (List.map eI a_.Last)),.row 26 (List.map (eL eI) a_.Follow)])) (hn2c_a:l2c≠la) {a:cu} (e:cx last first a_=some a):
  cp CT 220 [.cv (.val (.sl (List.map eI last))),.cv (.val (.sl (List.map eI first))),.cv (.val (.ptr (some (l2c,0))))] h fun o h'=>o=[]∧h'=(h.upd la (.cells [.val (.bool a.Null),.row 3 (List.map eI a.Sets),.val (.sl (List.map eI a.First)),.val (.sl (List.map eI a.Last)),.row 26 (List.map (eL eI) a.Follow)])):=by
 refine bv Tryz.func220 fun hwf hu=>?_
 have hl2c:=(hwf _ _ ha2c).1
 have kl2c:=lQ hl2c
 have hla:=(hwf _ _ haa).1
 have kla:=lQ hla
 have ku2c:=abz hl2c ha2c
 have kua:=abz hla haa
 have kp2c_a:=ajm hn2c_a
 obtain ⟨D,hD,hr⟩:=Holds.one e
 dsimp only[cx]at hr
 change aR _ _ _ _ _ ⟨[(0,.cv (.val (.sl (List.map eI last)))),(1,.cv (.val (.sl (List.map eI first)))),(2,.cv (.val (.ptr (some (l2c,0)))))],h.on []⟩
 refine A_s ?_
 refine w_K (D:=D) (fun xX:List (List Int)=>⟨[],(h.upd la (.cells [.val (.bool a_.Null),.row 3 (List.map eI a_.Sets),.val (.sl (List.map eI a_.First)),.val (.sl (List.map eI a_.Last)),.row 26 (List.map (eL eI) xX)])).on []⟩) (fun xX:List (List Int)=>cx.k1 a_ xX) (fun xX s' hr ht=>?_) ?_
 ·obtain ⟨Follow,rfl⟩:∃ z,z=xX:=⟨xX,rfl⟩
  dsimp only[cx.k1]at hr ht
  obtain rfl:=hD _ hr
  exact (av0 (To.trans ht (ai (os':=[]) (sl:=[]) (h:=(h.upd la (.cells [.val (.bool a_.Null),.row 3 (List.map eI a_.Sets),.val (.sl (List.map eI a_.First)),.val (.sl (List.map eI a_.Last)),.row 26 (List.map (eL eI) Follow)]))) (eW hwf hla))) ⟨rfl,aK (eW hwf hla)⟩)
 ·refine aI ?_
  refine cI (fun xX:(Int×List (List Int))=>⟨[(1,.cv (.val (.sl (List.map eI first)))),(2,.cv (.val (.ptr (some (l2c,0))))),(7,.cv (.val (.sl (List.map eI last)))),(8,.cv (.val (.int .i64 (last.length:Int)))),(9,.cv (.val (.int .i64 xX.1)))],(h.upd la (.cells [.val (.bool a_.Null),.row 3 (List.map eI a_.Sets),.val (.sl (List.map eI a_.First)),.val (.sl (List.map eI a_.Last)),.row 26 (List.map (eL eI) xX.2)])).on []⟩) hr (ai (eW hwf hla)) (fun W1 xX hr=>?_)
  obtain ⟨v,Follow1⟩:=xX
  dsimp only[cx.b1]at hr
  refine A_s ?_
  refine aj ?_
  refine au hr (fun cF1 hr=>?_) (fun cF1 hr=>?_)
  ·refine aL ?_
   refine w_n ?_
   refine aj ?_
   refine aI ?_
   refine aj ?_
   obtain ⟨n,nF2,eF3,gF4,hr⟩:=hr.idx
   refine ah ?_
   refine w_n ?_
   refine cW [0,1,2,3,4,5,6,7,8,9,10,11,12,13,14,15,16,17] (by rfl) ?_
   obtain ⟨xs,nF5,eF6,gF7,hr⟩:=hr.idx
   refine bV [0,1,2,3,4,5,6,7,8,9,10,11,12,13,14] [14,13,12,11,10,9,8,7,6,5,4,3,2,1,0] ?_
   obtain ⟨r,eF8,hr⟩:=hr.bind
   refine arK (out:=?o_SeF8) rfl cE rfl pw pw (by rfl) cE ?c_SeF8 ?d_SeF8 ?_ (pend':=[5,4,3,2,1,0])
   case c_SeF8=>exact cp.fixd (cB xs first eF8)
   case d_SeF8=>rfl
   refine bV [16] [16,5,4,3,2,1,0] ?_
   refine dp [] ?_
   refine dw ?_
   refine (eY (w_n ?_))
   refine ah ?_
   exact (w_k ⟨((IntKind.i64.wrap (v+(1:Int))),(List.set Follow1 (Int.toNat (IntKind.i64.wrap (n - (1:Int)))) r)),hr,(ai (eW hwf hla))⟩)
  ·refine cG ?_
   exact (dG (dG (iy (w_k ⟨Follow1,(hr).map,(ai (eW hwf hla))⟩))))
theorem mr (x:ar) (y:ar) (a_:cu) (l2c0:Nat) (la:Nat) {h:ax} (ha2c0:h.at_ l2c0=some (.cells [.val (.ptr (some (la,0)))])) (haa:h.at_ la=some (.cells [.val (.bool a_.Null),.row 3 (List.map eI a_.Sets),.val (.sl (List.map eI a_.First)),.val (.sl (List.map eI a_.Last)),.row 26 (List.map (eL eI) a_.Follow)])) (hn2c0_a:l2c0≠la) {a:(ar×cu)} (e:bK x y a_=some a):
  cp CT 222 [.cv (.val (.agg [.bool x.null,.sl (List.map eI x.first),.sl (List.map eI x.last)])),.cv (.val (.agg [.bool y.null,.sl (List.map eI y.first),.sl (List.map eI y.last)])),.cv (.val (.fn 220 [] [.ptr (some (l2c0,0))]))] h fun o h'=>o=[.cv (.val (.agg [.bool a.1.null,.sl (List.map eI a.1.first),.sl (List.map eI a.1.last)]))]∧h'=(h.upd la (.cells [.val (.bool a.2.Null),.row 3 (List.map eI a.2.Sets),.val (.sl (List.map eI a.2.First)),.val (.sl (List.map eI a.2.Last)),.row 26 (List.map (eL eI) a.2.Follow)])):=by
 refine bv Tryz.func222 fun hwf hu=>?_
 have hl2c0:=(hwf _ _ ha2c0).1
 have kl2c0:=lQ hl2c0
 have hla:=(hwf _ _ haa).1
 have kla:=lQ hla
 have ku2c0:=abz hl2c0 ha2c0
 have kua:=abz hla haa
 have kp2c0_a:=ajm hn2c0_a
 obtain ⟨D,hD,hr⟩:=Holds.one e
 dsimp only[bK]at hr
 change aR _ _ _ _ _ ⟨[(0,.cv (.val (.agg [.bool x.null,.sl (List.map eI x.first),.sl (List.map eI x.last)]))),(1,.cv (.val (.agg [.bool y.null,.sl (List.map eI y.first),.sl (List.map eI y.last)]))),(2,.cv (.val (.fn 220 [] [.ptr (some (l2c0,0))])))],h.on []⟩
 refine A_s ?_
 refine aj ?_
 refine bE ?_
 refine aw 5 ?_
 obtain ⟨r,eF1,hr⟩:=hr.bind
 refine be (out:=?o_eF1) (hp:=?p_eF1) ?c_eF1 ?d_eF1 ?_
 case c_eF1=>(refine jC x.last y.first a_ (l2c0) (la) ?_ ?_ ?_ eF1;exact cE;exact cE;exact pk)
 case d_eF1=>rfl
 refine de ?_
 refine w_n ?_
 refine cq (sj:=⟨[(3,.cv (.val (.ptr (some (h.n+0,0))))),(4,.cv (.val (.ptr (some (h.n+1,0))))),(6,.cv (.val (.ptr (some (h.n+2,0))))),(7,.cv (.val (.ptr (some (h.n+3,0)))))],(h.upd la (.cells [.val (.bool r.Null),.row 3 (List.map eI r.Sets),.val (.sl (List.map eI r.First)),.val (.sl (List.map eI r.Last)),.row 26 (List.map (eL eI) r.Follow)])).on [some (.cells [.val (.bool x.null),.val (.sl (List.map eI x.first)),.val (.sl (List.map eI x.last))]),some (.cells [.val (.bool y.null),.val (.sl (List.map eI y.first)),.val (.sl (List.map eI y.last))]),some (.cells [.val (.bool false),.nil,.nil]),some (.cells [.val (.bool (x.null&&y.null)),.val (.sl (List.map eI x.first)),.val (.sl (List.map eI y.last))])]⟩) (bE ?_) ?_
 ·refine aw 3 ?_
  rcases Bool.eq_false_or_eq_true x.null with cF2 | cF2
  ·refine ae ?_
   exact w_k (ai (eW hwf hla))
  ·refine ae ?_
   exact w_k (ai (eW hwf hla))
 refine aj ?_
 refine A_s ?_
 refine w_K (D:=D) (fun xX:List Int=>⟨[(3,.cv (.val (.ptr (some (h.n+0,0))))),(4,.cv (.val (.ptr (some (h.n+1,0))))),(6,.cv (.val (.ptr (some (h.n+2,0))))),(7,.cv (.val (.ptr (some (h.n+3,0)))))],(h.upd la (.cells [.val (.bool r.Null),.row 3 (List.map eI r.Sets),.val (.sl (List.map eI r.First)),.val (.sl (List.map eI r.Last)),.row 26 (List.map (eL eI) r.Follow)])).on [some (.cells [.val (.bool x.null),.val (.sl (List.map eI x.first)),.val (.sl (List.map eI x.last))]),some (.cells [.val (.bool y.null),.val (.sl (List.map eI y.first)),.val (.sl (List.map eI y.last))]),some (.cells [.val (.bool false),.nil,.nil]),some (.cells [.val (.bool (x.null&&y.null)),.val (.sl (List.map eI xX)),.val (.sl (List.map eI y.last))])]⟩) (fun xX:List Int=>bK.k1 x y r xX) (fun xX s' hr ht=>?_) ?_
 ·obtain ⟨first,rfl⟩:∃ z,z=xX:=⟨xX,rfl⟩
  dsimp only[bK.k1]at hr ht
  refine (eO ht ?_)
  refine aj ?_
  refine A_s ?_
  refine w_K (D:=D) (fun xX:List Int=>⟨[(6,.cv (.val (.ptr (some (h.n+2,0))))),(7,.cv (.val (.ptr (some (h.n+3,0)))))],(h.upd la (.cells [.val (.bool r.Null),.row 3 (List.map eI r.Sets),.val (.sl (List.map eI r.First)),.val (.sl (List.map eI r.Last)),.row 26 (List.map (eL eI) r.Follow)])).on [none,none,some (.cells [.val (.bool false),.nil,.nil]),some (.cells [.val (.bool (x.null&&y.null)),.val (.sl (List.map eI first)),.val (.sl (List.map eI xX))])]⟩) (fun xX:List Int=>bK.k2 x y r first xX) (fun xX s' hr ht=>?_) ?_
  ·obtain ⟨last,rfl⟩:∃ z,z=xX:=⟨xX,rfl⟩
   dsimp only[bK.k2]at hr ht
   refine (eO ht ?_)
   refine A_s ?_
   refine bu ?_
   obtain rfl:=hD _ hr
   exact (fq (ai (os':=[none,none,some (.cells [.val (.bool (ar.mk (x.null&&y.null) first last).null),.val (.sl (List.map eI (ar.mk (x.null&&y.null) first last).first)),.val (.sl (List.map eI (ar.mk (x.null&&y.null) first last).last))])]) (sl:=[(6,.cv (.val (.ptr (some (h.n+2,0)))))]) (h:=(h.upd la (.cells [.val (.bool r.Null),.row 3 (List.map eI r.Sets),.val (.sl (List.map eI r.First)),.val (.sl (List.map eI r.Last)),.row 26 (List.map (eL eI) r.Follow)]))) (eW hwf hla)) (by simp (disch:=(apply bJ.mk;decide)) only[go_sem,Nat.reduceAdd,Nat.reduceLT,Nat.reduceMul,Nat.reduceLeDiff,Int.reduceToNat,Int.reduceLT,Int.reduceLE,ha2c0,ez hl2c0,eP hl2c0,iQ hl2c0,haa,ez hla,eP hla,iQ hla,fJ hl2c0,jp hl2c0,gx hl2c0,eM ha2c0,fJ hla,jp hla,gx hla,eM haa,qE hn2c0_a,qE (Ne.symm hn2c0_a),oN hn2c0_a,nR hl2c0,nR hla,kY hl2c0,kY hla,Tryz.results222,af ade,dV,eT.eq_2,df]) (Drops.on (h:=(h.upd la (.cells [.val (.bool r.Null),.row 3 (List.map eI r.Sets),.val (.sl (List.map eI r.First)),.val (.sl (List.map eI r.Last)),.row 26 (List.map (eL eI) r.Follow)]))) (os:=[none,none,some (.cells [.val (.bool (ar.mk (x.null&&y.null) first last).null),.val (.sl (List.map eI (ar.mk (x.null&&y.null) first last).first)),.val (.sl (List.map eI (ar.mk (x.null&&y.null) first last).last))])]) (os':=[]) (eW hwf hla) (Nat.le_refl _) (by simp (disch:=(apply bJ.mk;decide)) only[go_sem,Nat.reduceAdd,Nat.reduceLT,Nat.reduceMul,Nat.reduceLeDiff,Int.reduceToNat,Int.reduceLT,Int.reduceLE,ha2c0,ez hl2c0,eP hl2c0,iQ hl2c0,haa,ez hla,eP hla,iQ hla,fJ hl2c0,jp hl2c0,gx hl2c0,eM ha2c0,fJ hla,jp hla,gx hla,eM haa,qE hn2c0_a,qE (Ne.symm hn2c0_a),oN hn2c0_a,nR hl2c0,nR hla,kY hl2c0,kY hla])) ⟨rfl,aK (h:=(h.upd la (.cells [.val (.bool r.Null),.row 3 (List.map eI r.Sets),.val (.sl (List.map eI r.First)),.val (.sl (List.map eI r.Last)),.row 26 (List.map (eL eI) r.Follow)]))) (eW hwf hla)⟩)
  ·refine au hr (fun cF3 hr=>?_) (fun cF3 hr=>?_)
   ·refine bE ?_
    refine aw 4 ?_
    obtain ⟨r1,eF4,hr⟩:=hr.bind
    refine be (out:=?o_eF4) (hp:=?p_eF4) ?c_eF4 ?d_eF4 ?_
    case c_eF4=>exact cp.fixd (cB x.last y.last eF4)
    case d_eF4=>rfl
    refine ae ?_
    exact (w_k ⟨r1,hr,(ai (eW hwf hla))⟩)
   ·refine aL ?_
    exact (w_k ⟨y.last,hr,(ai (eW hwf hla))⟩)
 ·refine au hr (fun cF5 hr=>?_) (fun cF5 hr=>?_)
  ·refine bE ?_
   refine aw 4 ?_
   obtain ⟨r2,eF6,hr⟩:=hr.bind
   refine be (out:=?o_eF6) (hp:=?p_eF6) ?c_eF6 ?d_eF6 ?_
   case c_eF6=>exact cp.fixd (cB x.first y.first eF6)
   case d_eF6=>rfl
   refine ae ?_
   exact (w_k ⟨r2,hr,(ai (eW hwf hla))⟩)
  ·refine aL ?_
   exact (w_k ⟨x.first,hr,(ai (eW hwf hla))⟩)
theorem nG (x:ar) (y:ar) {h:ax} {a:ar} (e:fo x y=some a):
  cp CT 223 [.cv (.val (.agg [.bool x.null,.sl (List.map eI x.first),.sl (List.map eI x.last)])),.cv (.val (.agg [.bool y.null,.sl (List.map eI y.first),.sl (List.map eI y.last)]))] h fun o h'=>o=[.cv (.val (.agg [.bool a.null,.sl (List.map eI a.first),.sl (List.map eI a.last)]))]∧h'=h:=by
 refine bv Tryz.func223 fun hwf hu=>?_
 obtain ⟨D,hD,hr⟩:=Holds.one e
 dsimp only[fo]at hr
 change aR _ _ _ _ _ ⟨[(0,.cv (.val (.agg [.bool x.null,.sl (List.map eI x.first),.sl (List.map eI x.last)]))),(1,.cv (.val (.agg [.bool y.null,.sl (List.map eI y.first),.sl (List.map eI y.last)])))],h.on []⟩
 refine A_s ?_
 obtain ⟨⟨null,first,last⟩,vF6,hr⟩:=hr.bind
 dsimp only at hr
 refine cq (sj:=⟨[(4,.cv (.val (.ptr (some (h.n+2,0)))))],h.on [none,none,some (.cells [.val (.bool null),.val (.sl (List.map eI first)),.val (.sl (List.map eI last))])]⟩) (cW [0,1,2,3,4,5,6,7,8,9,11,12,13,14,10,15,16,17] (by rfl) ?_) ?_
 ·have hr:=Holds.intro (D:=fun z=>z=(null,first,last)) vF6 rfl
  refine bV [0,1,2] [2,1,0] ?_
  rcases hr.ite with ⟨cF1,hr⟩ | ⟨cF1,hr⟩
  ·refine bV [3,4,5,6,7,8,9,11,12,13,14] [14,13,12,11,9,8,7,6,5,4,3,2,1,0] ?_
   obtain ⟨r,eF2,hr⟩:=hr.bind
   refine dI [14,13,12,11,5,4,3] (out:=?o_eF2) (hp:=?p_eF2) ?c_eF2 ?d_eF2 ?_
   case c_eF2=>exact cp.fixd (cB x.first y.first eF2)
   case d_eF2=>rfl
   obtain ⟨r1,eF3,hr⟩:=hr.bind
   refine dI [5,4,3] (out:=?o_eF3) (hp:=?p_eF3) ?c_eF3 ?d_eF3 ?_
   case c_eF3=>exact cp.fixd (cB x.last y.last eF3)
   case d_eF3=>rfl
   refine bV [16] [16,5,4,3] ?_
   refine dp [] ?_
   refine dw ?_
   cases (show (_,_,_)=(null,first,last) from hr)
   exact w_k (ai hwf)
  ·refine bV [3,4,5,6,7,8,9,11,12,13,14] [14,13,12,11,9,8,7,6,5,4,3,2,1,0] ?_
   obtain ⟨r2,eF4,hr⟩:=hr.bind
   refine dI [14,13,12,11,5,4,3] (out:=?o_eF4) (hp:=?p_eF4) ?c_eF4 ?d_eF4 ?_
   case c_eF4=>exact cp.fixd (cB x.first y.first eF4)
   case d_eF4=>rfl
   obtain ⟨r3,eF5,hr⟩:=hr.bind
   refine dI [5,4,3] (out:=?o_eF5) (hp:=?p_eF5) ?c_eF5 ?d_eF5 ?_
   case c_eF5=>exact cp.fixd (cB x.last y.last eF5)
   case d_eF5=>rfl
   refine bV [16] [16,5,4,3] ?_
   refine dp [] ?_
   refine dw ?_
   cases (show (_,_,_)=(null,first,last) from hr)
   exact w_k (ai hwf)
 refine bu ?_
 obtain rfl:=hD _ hr
 exact (fq (ai (os':=[none,none,some (.cells [.val (.bool null),.val (.sl (List.map eI first)),.val (.sl (List.map eI last))])]) (sl:=[(4,.cv (.val (.ptr (some (h.n+2,0)))))]) hwf) (by simp (disch:=(apply bJ.mk;decide)) only[go_sem,Nat.reduceAdd,Nat.reduceLT,Nat.reduceMul,Nat.reduceLeDiff,Int.reduceToNat,Int.reduceLT,Int.reduceLE,Tryz.results223,af abO,dV,eT.eq_2,df]) (Drops.on (os:=[none,none,some (.cells [.val (.bool null),.val (.sl (List.map eI first)),.val (.sl (List.map eI last))])]) (os':=[]) hwf (Nat.le_refl _) (by simp (disch:=(apply bJ.mk;decide)) only[go_sem,Nat.reduceAdd,Nat.reduceLT,Nat.reduceMul,Nat.reduceLeDiff,Int.reduceToNat,Int.reduceLT,Int.reduceLE])) ⟨rfl,aK hwf⟩)
theorem oa:∀ (fu:Nat) (a_:cu) (n:az) (l0:Nat) {h:ax} (ha0:h.at_ l0=some (.cells [.val (.bool a_.Null),.row 3 (List.map eI a_.Sets),.val (.sl (List.map eI a_.First)),.val (.sl (List.map eI a_.Last)),.row 26 (List.map (eL eI) a_.Follow)])) {a:(ar×cu)} (e:aP.r fu a_ n=some a),
  cp CT 156 [.cv (.val (.ptr (some (l0,0)))),.cv (.val (.agg [.int .i64 n.Kind,.int .i64 n.Set,.sl (List.map bR n.Kids)]))] h fun o h'=>o=[.cv (.val (.agg [.bool a.1.null,.sl (List.map eI a.1.first),.sl (List.map eI a.1.last)]))]∧h'=(h.upd l0 (.cells [.val (.bool a.2.Null),.row 3 (List.map eI a.2.Sets),.val (.sl (List.map eI a.2.First)),.val (.sl (List.map eI a.2.Last)),.row 26 (List.map (eL eI) a.2.Follow)])):=by
 intro fu
 induction fu with
 | zero=>intros;rename_i e;simp[aP.r]at e
 | succ fu ih=>
  intro a_ n l0 h ha0 a e
  refine bv Tryz.func156 fun hwf hu=>?_
  have hl0:=(hwf _ _ ha0).1
  have kl0:=lQ hl0
  have ku0:=abz hl0 ha0
  obtain ⟨D,hD,hr⟩:=Holds.one e
  dsimp only[aP.r]at hr
  change aR _ _ _ _ _ ⟨[(0,.cv (.val (.ptr (some (l0,0))))),(1,.cv (.val (.agg [.int .i64 n.Kind,.int .i64 n.Set,.sl (List.map bR n.Kids)])))],h.on []⟩
  iterate 2 refine A_s ?_
  refine aj ?_
  refine A_s ?_
  refine w_K (D:=D) (fun xX:Unit=>⟨[(2,.cv (.val (.ptr (some (h.n+0,0))))),(3,.cv (.val (.ptr (some (h.n+1,0))))),(4,.cv (.val (.ptr (some (h.n+2,0))))),(5,.cv (.val (.fn 220 [] [.ptr (some (h.n+0,0))])))],h.on [some (.cells [.val (.ptr (some (l0,0)))]),some (.cells [.val (.int .i64 n.Kind),.val (.int .i64 n.Set),.val (.sl (List.map bR n.Kids))]),some (.cells [.val (.bool false),.nil,.nil])]⟩) (fun xX:Unit=>aP.k1 (aP.r fu) a_ n) (fun xX s' hr ht=>?_) ?_
  ·dsimp only[aP.k1]at hr ht
   refine (eO ht ?_)
   obtain ⟨x,eF1,gF2,hr⟩:=hr.idxK
   obtain ⟨r,eF3,hr⟩:=hr.bind
   refine cq (sj:=⟨[(3,.cv (.val (.ptr (some (h.n+1,0))))),(4,.cv (.val (.ptr (some (h.n+2,0))))),(5,.cv (.val (.fn 220 [] [.ptr (some (h.n+0,0))]))),(13,.cv (.val (.ptr (some (h.n+3,0)))))],(h.upd l0 (.cells [.val (.bool r.2.Null),.row 3 (List.map eI r.2.Sets),.val (.sl (List.map eI r.2.First)),.val (.sl (List.map eI r.2.Last)),.row 26 (List.map (eL eI) r.2.Follow)])).on [some (.cells [.val (.ptr (some (l0,0)))]),some (.cells [.val (.int .i64 n.Kind),.val (.int .i64 n.Set),.val (.sl (List.map bR n.Kids))]),some (.cells [.val (.bool false),.nil,.nil]),some (.cells [.val (.bool r.1.null),.val (.sl (List.map eI r.1.first)),.val (.sl (List.map eI r.1.last))])]⟩) (ay1 [0,1,2,3,4] 5 6 [7] (by rfl) ?_ ?_) ?_
   ·refine bV [0,1,2,3,4] [4,3,2,1,0] ?_
    refine dI [] (out:=?o_eF3) (hp:=?p_eF3) ?c_eF3 ?d_eF3 ?_
    case c_eF3=>(refine ih a_ x (l0) ?_ eF3;exact cE)
    case d_eF3=>rfl
    refine dp [] ?_
    refine dp [] ?_
    refine dw ?_
    exact w_k (ai (eW hwf hl0))
   ·refine bV [0,1,2,3,4] [4,3,2,1,0] ?_
    refine dp [4,3,2,1,0] ?_
    refine dI [] (out:=?o_eF3z) (hp:=?p_eF3z) ?c_eF3z ?d_eF3z ?_
    case c_eF3z=>(refine ih a_ x (l0) ?_ eF3;exact cE)
    case d_eF3z=>rfl
    refine dp [] ?_
    refine dw ?_
    exact w_k (ai (eW hwf hl0))
   refine aj ?_
   refine A_s ?_
   refine w_K (D:=D) (fun xX:(Bool×List Int×List Int×List Int×List (List Int))=>⟨[(3,.cv (.val (.ptr (some (h.n+1,0))))),(4,.cv (.val (.ptr (some (h.n+2,0))))),(13,.cv (.val (.ptr (some (h.n+3,0)))))],(h.upd l0 (.cells [.val (.bool xX.1),.row 3 (List.map eI xX.2.1),.val (.sl (List.map eI xX.2.2.1)),.val (.sl (List.map eI xX.2.2.2.1)),.row 26 (List.map (eL eI) xX.2.2.2.2)])).on [none,some (.cells [.val (.int .i64 n.Kind),.val (.int .i64 n.Set),.val (.sl (List.map bR n.Kids))]),some (.cells [.val (.bool false),.nil,.nil]),some (.cells [.val (.bool r.1.null),.val (.sl (List.map eI r.1.first)),.val (.sl (List.map eI r.1.last))])]⟩) (fun xX:(Bool×List Int×List Int×List Int×List (List Int))=>aP.k2 n r xX.1 xX.2.1 xX.2.2.1 xX.2.2.2.1 xX.2.2.2.2) (fun xX s' hr ht=>?_) ?_
   ·obtain ⟨Null,Sets,First,Last,Follow⟩:=xX
    dsimp only[aP.k2]at hr ht
    refine (eO ht ?_)
    refine cq (sj:=⟨[(4,.cv (.val (.ptr (some (h.n+2,0))))),(13,.cv (.val (.ptr (some (h.n+3,0)))))],(h.upd l0 (.cells [.val (.bool Null),.row 3 (List.map eI Sets),.val (.sl (List.map eI First)),.val (.sl (List.map eI Last)),.row 26 (List.map (eL eI) Follow)])).on [none,none,some (.cells [.val (.bool false),.nil,.nil]),some (.cells [.val (.bool (r.1.null||(n.Kind != (4:Int)))),.val (.sl (List.map eI r.1.first)),.val (.sl (List.map eI r.1.last))])]⟩) (bE ?_) ?_
    ·refine aw 3 ?_
     rcases Bool.eq_false_or_eq_true r.1.null with cF4 | cF4
     ·refine ae ?_
      exact w_k (ai (eW hwf hl0))
     ·refine ae ?_
      exact w_k (ai (eW hwf hl0))
    refine A_s ?_
    refine bu ?_
    obtain rfl:=hD _ hr
    exact (fq (ai (os':=[none,none,some (.cells [.val (.bool (ar.mk (r.1.null||(n.Kind != (4:Int))) r.1.first r.1.last).null),.val (.sl (List.map eI (ar.mk (r.1.null||(n.Kind != (4:Int))) r.1.first r.1.last).first)),.val (.sl (List.map eI (ar.mk (r.1.null||(n.Kind != (4:Int))) r.1.first r.1.last).last))])]) (sl:=[(4,.cv (.val (.ptr (some (h.n+2,0)))))]) (h:=(h.upd l0 (.cells [.val (.bool Null),.row 3 (List.map eI Sets),.val (.sl (List.map eI First)),.val (.sl (List.map eI Last)),.row 26 (List.map (eL eI) Follow)]))) (eW hwf hl0)) (by simp (disch:=(apply bJ.mk;decide)) only[go_sem,Nat.reduceAdd,Nat.reduceLT,Nat.reduceMul,Nat.reduceLeDiff,Int.reduceToNat,Int.reduceLT,Int.reduceLE,ha0,ez hl0,eP hl0,iQ hl0,fJ hl0,jp hl0,gx hl0,eM ha0,Tryz.results156,af ls,dV,eT.eq_2,df]) (Drops.on (h:=(h.upd l0 (.cells [.val (.bool Null),.row 3 (List.map eI Sets),.val (.sl (List.map eI First)),.val (.sl (List.map eI Last)),.row 26 (List.map (eL eI) Follow)]))) (os:=[none,none,some (.cells [.val (.bool (ar.mk (r.1.null||(n.Kind != (4:Int))) r.1.first r.1.last).null),.val (.sl (List.map eI (ar.mk (r.1.null||(n.Kind != (4:Int))) r.1.first r.1.last).first)),.val (.sl (List.map eI (ar.mk (r.1.null||(n.Kind != (4:Int))) r.1.first r.1.last).last))])]) (os':=[]) (eW hwf hl0) (Nat.le_refl _) (by simp (disch:=(apply bJ.mk;decide)) only[go_sem,Nat.reduceAdd,Nat.reduceLT,Nat.reduceMul,Nat.reduceLeDiff,Int.reduceToNat,Int.reduceLT,Int.reduceLE,ha0,ez hl0,eP hl0,iQ hl0,fJ hl0,jp hl0,gx hl0,eM ha0])) ⟨rfl,aK (h:=(h.upd l0 (.cells [.val (.bool Null),.row 3 (List.map eI Sets),.val (.sl (List.map eI First)),.val (.sl (List.map eI Last)),.row 26 (List.map (eL eI) Follow)]))) (eW hwf hl0)⟩)
   ·refine au hr (fun cF5 hr=>?_) (fun cF5 hr=>?_)
    ·refine bE ?_
     refine aw 5 ?_
     obtain ⟨r1,eF6,hr⟩:=hr.bind
     refine be (out:=?o_eF6) (hp:=?p_eF6) ?c_eF6 ?d_eF6 ?_
     case c_eF6=>(refine jC r.1.last r.1.first r.2 (h.n+0) (l0) ?_ ?_ ?_ eF6;exact cE;exact cE;exact pk)
     case d_eF6=>rfl
     refine de ?_
     exact (w_k ⟨(r1.Null,r1.Sets,r1.First,r1.Last,r1.Follow),hr,(ai (eW hwf hl0))⟩)
    ·refine aL ?_
     exact (w_k ⟨(r.2.Null,r.2.Sets,r.2.First,r.2.Last,r.2.Follow),hr,(ai (eW hwf hl0))⟩)
  ·refine aI ?_
   refine A_s ?_
   refine au hr (fun cF7 hr=>?_) (fun cF7 hr=>?_)
   ·refine aj ?_
    refine cW [0,1,2,3,4,5,6,7,8,10,11,12,13,14,9,15,16,17,18,19,20,21] (by rfl) ?_
    obtain ⟨nF8,hr⟩:=hr.room
    obtain ⟨nF9,hr⟩:=hr.room
    refine bV [0,1,2,3,4,5,6,7,8,10,11,12,13,14] [14,13,12,11,10,8,7,6,5,4,3,2,1,0] ?_
    refine dp [14,13,12,11,10,1,0] ?_
    refine dp [1,0] ?_
    refine bV [16,17] [17,16,1,0] ?_
    refine dp [1] ?_
    refine bV [19,20] [20,19,1] ?_
    refine dp [] ?_
    refine dw ?_
    refine w_n ?_
    iterate 2 refine A_s ?_
    refine bu ?_
    obtain rfl:=hD _ hr
    exact (fQ (cw (cw (fq (ai (os':=[none,none,some (.cells [.val (.bool false),.val (.sl (List.map eI ([((a_.Sets++([n.Set])).length:Int)]))),.val (.sl (List.map eI ([((a_.Sets++([n.Set])).length:Int)])))])]) (sl:=[(4,.cv (.val (.ptr (some (h.n+2,0)))))]) (h:=(h.upd l0 (.cells [.val (.bool a_.Null),.row 3 (List.map eI (a_.Sets++([n.Set]))),.val (.sl (List.map eI a_.First)),.val (.sl (List.map eI a_.Last)),.row 26 (List.map (eL eI) (a_.Follow++([[]])))]))) (eW hwf hl0)) (by simp (disch:=(apply bJ.mk;decide)) only[go_sem,Nat.reduceAdd,Nat.reduceLT,Nat.reduceMul,Nat.reduceLeDiff,Int.reduceToNat,Int.reduceLT,Int.reduceLE,ha0,ez hl0,eP hl0,iQ hl0,fJ hl0,jp hl0,gx hl0,eM ha0,Tryz.results156,af ls,dV,eT.eq_2,df,cF7]) (Drops.on (h:=(h.upd l0 (.cells [.val (.bool a_.Null),.row 3 (List.map eI (a_.Sets++([n.Set]))),.val (.sl (List.map eI a_.First)),.val (.sl (List.map eI a_.Last)),.row 26 (List.map (eL eI) (a_.Follow++([[]])))]))) (os:=[none,none,some (.cells [.val (.bool false),.val (.sl (List.map eI ([((a_.Sets++([n.Set])).length:Int)]))),.val (.sl (List.map eI ([((a_.Sets++([n.Set])).length:Int)])))])]) (os':=[]) (eW hwf hl0) (Nat.le_refl _) (by simp (disch:=(apply bJ.mk;decide)) only[go_sem,Nat.reduceAdd,Nat.reduceLT,Nat.reduceMul,Nat.reduceLeDiff,Int.reduceToNat,Int.reduceLT,Int.reduceLE,ha0,ez hl0,eP hl0,iQ hl0,fJ hl0,jp hl0,gx hl0,eM ha0,cF7])) ⟨rfl,aK (h:=(h.upd l0 (.cells [.val (.bool a_.Null),.row 3 (List.map eI (a_.Sets++([n.Set]))),.val (.sl (List.map eI a_.First)),.val (.sl (List.map eI a_.Last)),.row 26 (List.map (eL eI) (a_.Follow++([[]])))]))) (eW hwf hl0)⟩))))
   ·refine aj ?_
    refine ah ?_
    refine w_n ?_
    refine au hr (fun cF10 hr=>?_) (fun cF10 hr=>?_)
    ·refine aj ?_
     refine ah ?_
     refine w_n ?_
     refine aj ?_
     refine A_s ?_
     refine w_K (D:=D) (fun xX:(Bool×List Int×List Int×Bool×List Int×List Int×List Int×List (List Int))=>⟨[(4,.cv (.val (.ptr (some (h.n+2,0))))),(7,.cv (.val (.ptr (some (h.n+3,0)))))],(h.upd l0 (.cells [.val (.bool xX.2.2.2.1),.row 3 (List.map eI xX.2.2.2.2.1),.val (.sl (List.map eI xX.2.2.2.2.2.1)),.val (.sl (List.map eI xX.2.2.2.2.2.2.1)),.row 26 (List.map (eL eI) xX.2.2.2.2.2.2.2)])).on [none,none,some (.cells [.val (.bool false),.nil,.nil]),some (.cells [.val (.bool xX.1),.val (.sl (List.map eI xX.2.1)),.val (.sl (List.map eI xX.2.2.1))])]⟩) (fun xX:(Bool×List Int×List Int×Bool×List Int×List Int×List Int×List (List Int))=>aP.k3 xX.1 xX.2.1 xX.2.2.1 xX.2.2.2.1 xX.2.2.2.2.1 xX.2.2.2.2.2.1 xX.2.2.2.2.2.2.1 xX.2.2.2.2.2.2.2) (fun xX s' hr ht=>?_) ?_
     ·obtain ⟨null1,first,last,Null1,Sets1,First1,Last1,Follow1⟩:=xX
      dsimp only[aP.k3]at hr ht
      refine (eO ht ?_)
      refine A_s ?_
      refine bu ?_
      obtain rfl:=hD _ hr
      exact (fQ (cw (cw (fq (ai (os':=[none,none,some (.cells [.val (.bool (ar.mk null1 first last).null),.val (.sl (List.map eI (ar.mk null1 first last).first)),.val (.sl (List.map eI (ar.mk null1 first last).last))])]) (sl:=[(4,.cv (.val (.ptr (some (h.n+2,0)))))]) (h:=(h.upd l0 (.cells [.val (.bool Null1),.row 3 (List.map eI Sets1),.val (.sl (List.map eI First1)),.val (.sl (List.map eI Last1)),.row 26 (List.map (eL eI) Follow1)]))) (eW hwf hl0)) (by simp (disch:=(apply bJ.mk;decide)) only[go_sem,Nat.reduceAdd,Nat.reduceLT,Nat.reduceMul,Nat.reduceLeDiff,Int.reduceToNat,Int.reduceLT,Int.reduceLE,ha0,ez hl0,eP hl0,iQ hl0,fJ hl0,jp hl0,gx hl0,eM ha0,Tryz.results156,af ls,dV,eT.eq_2,df,cF7,cF10]) (Drops.on (h:=(h.upd l0 (.cells [.val (.bool Null1),.row 3 (List.map eI Sets1),.val (.sl (List.map eI First1)),.val (.sl (List.map eI Last1)),.row 26 (List.map (eL eI) Follow1)]))) (os:=[none,none,some (.cells [.val (.bool (ar.mk null1 first last).null),.val (.sl (List.map eI (ar.mk null1 first last).first)),.val (.sl (List.map eI (ar.mk null1 first last).last))])]) (os':=[]) (eW hwf hl0) (Nat.le_refl _) (by simp (disch:=(apply bJ.mk;decide)) only[go_sem,Nat.reduceAdd,Nat.reduceLT,Nat.reduceMul,Nat.reduceLeDiff,Int.reduceToNat,Int.reduceLT,Int.reduceLE,ha0,ez hl0,eP hl0,iQ hl0,fJ hl0,jp hl0,gx hl0,eM ha0,cF7,cF10])) ⟨rfl,aK (h:=(h.upd l0 (.cells [.val (.bool Null1),.row 3 (List.map eI Sets1),.val (.sl (List.map eI First1)),.val (.sl (List.map eI Last1)),.row 26 (List.map (eL eI) Follow1)]))) (eW hwf hl0)⟩))))
     ·refine aI ?_
      refine cI (fun xX:(Int×Bool×List Int×List Int×Bool×List Int×List Int×List Int×List (List Int))=>⟨[(2,.cv (.val (.ptr (some (h.n+0,0))))),(4,.cv (.val (.ptr (some (h.n+2,0))))),(5,.cv (.val (.fn 220 [] [.ptr (some (h.n+0,0))]))),(7,.cv (.val (.ptr (some (h.n+3,0))))),(52,.cv (.val (.sl (List.map bR n.Kids)))),(53,.cv (.val (.int .i64 (n.Kids.length:Int)))),(54,.cv (.val (.int .i64 xX.1)))],(h.upd l0 (.cells [.val (.bool xX.2.2.2.2.1),.row 3 (List.map eI xX.2.2.2.2.2.1),.val (.sl (List.map eI xX.2.2.2.2.2.2.1)),.val (.sl (List.map eI xX.2.2.2.2.2.2.2.1)),.row 26 (List.map (eL eI) xX.2.2.2.2.2.2.2.2)])).on [some (.cells [.val (.ptr (some (l0,0)))]),none,some (.cells [.val (.bool false),.nil,.nil]),some (.cells [.val (.bool xX.2.1),.val (.sl (List.map eI xX.2.2.1)),.val (.sl (List.map eI xX.2.2.2.1))])]⟩) hr (ai (eW hwf hl0)) (fun W1 xX hr=>?_)
      obtain ⟨v,null2,first1,last1,Null2,Sets2,First2,Last2,Follow2⟩:=xX
      dsimp only[aP.b1]at hr
      refine A_s ?_
      refine aj ?_
      refine au hr (fun cF11 hr=>?_) (fun cF11 hr=>?_)
      ·refine aL ?_
       refine w_n ?_
       refine aj ?_
       refine aI ?_
       refine aj ?_
       obtain ⟨x1,nF12,eF13,gF14,hr⟩:=hr.idx
       refine ah ?_
       refine w_n ?_
       refine cW [0,1,2,4,3,5,6] (by rfl) ?_
       refine bV [0,1,2,4] [4,2,1,0] ?_
       obtain ⟨r2,eF15,hr⟩:=hr.bind
       refine dI [4,0] (out:=?o_eF15) (hp:=?p_eF15) ?c_eF15 ?d_eF15 ?_
       case c_eF15=>(refine ih (cu.mk Null2 Sets2 First2 Last2 Follow2) x1 (l0) ?_ eF15;exact cE)
       case d_eF15=>rfl
       obtain ⟨r3,eF16,hr⟩:=hr.bind
       refine dI [] (out:=?o_eF16) (hp:=?p_eF16) ?c_eF16 ?d_eF16 ?_
       case c_eF16=>(refine mr (ar.mk null2 first1 last1) r2.1 r2.2 (h.n+0) (l0) ?_ ?_ ?_ eF16;exact cE;exact cE;exact pk)
       case d_eF16=>rfl
       refine dp [] ?_
       refine dw ?_
       refine (eY (w_n ?_))
       refine ah ?_
       exact (w_k ⟨((IntKind.i64.wrap (v+(1:Int))),r3.1.null,r3.1.first,r3.1.last,r3.2.Null,r3.2.Sets,r3.2.First,r3.2.Last,r3.2.Follow),hr,(ai (eW hwf hl0))⟩)
      ·refine cG ?_
       exact (dG (dG (iy (w_k ⟨(null2,first1,last1,Null2,Sets2,First2,Last2,Follow2),(hr).map,(ai (eW hwf hl0))⟩))))
    ·refine aj ?_
     refine ah ?_
     refine w_n ?_
     refine au hr (fun cF17 hr=>?_) (fun cF17 hr=>?_)
     ·refine aj ?_
      refine ah ?_
      refine w_n ?_
      refine aj ?_
      refine A_s ?_
      refine w_K (D:=D) (fun xX:(Bool×List Int×List Int×Bool×List Int×List Int×List Int×List (List Int))=>⟨[(4,.cv (.val (.ptr (some (h.n+2,0))))),(10,.cv (.val (.ptr (some (h.n+3,0)))))],(h.upd l0 (.cells [.val (.bool xX.2.2.2.1),.row 3 (List.map eI xX.2.2.2.2.1),.val (.sl (List.map eI xX.2.2.2.2.2.1)),.val (.sl (List.map eI xX.2.2.2.2.2.2.1)),.row 26 (List.map (eL eI) xX.2.2.2.2.2.2.2)])).on [none,none,some (.cells [.val (.bool false),.nil,.nil]),some (.cells [.val (.bool xX.1),.val (.sl (List.map eI xX.2.1)),.val (.sl (List.map eI xX.2.2.1))])]⟩) (fun xX:(Bool×List Int×List Int×Bool×List Int×List Int×List Int×List (List Int))=>aP.k4 xX.1 xX.2.1 xX.2.2.1 xX.2.2.2.1 xX.2.2.2.2.1 xX.2.2.2.2.2.1 xX.2.2.2.2.2.2.1 xX.2.2.2.2.2.2.2) (fun xX s' hr ht=>?_) ?_
      ·obtain ⟨null3,first2,last2,Null3,Sets3,First3,Last3,Follow3⟩:=xX
       dsimp only[aP.k4]at hr ht
       refine (eO ht ?_)
       refine A_s ?_
       refine bu ?_
       obtain rfl:=hD _ hr
       exact (fQ (cw (cw (fq (ai (os':=[none,none,some (.cells [.val (.bool (ar.mk null3 first2 last2).null),.val (.sl (List.map eI (ar.mk null3 first2 last2).first)),.val (.sl (List.map eI (ar.mk null3 first2 last2).last))])]) (sl:=[(4,.cv (.val (.ptr (some (h.n+2,0)))))]) (h:=(h.upd l0 (.cells [.val (.bool Null3),.row 3 (List.map eI Sets3),.val (.sl (List.map eI First3)),.val (.sl (List.map eI Last3)),.row 26 (List.map (eL eI) Follow3)]))) (eW hwf hl0)) (by simp (disch:=(apply bJ.mk;decide)) only[go_sem,Nat.reduceAdd,Nat.reduceLT,Nat.reduceMul,Nat.reduceLeDiff,Int.reduceToNat,Int.reduceLT,Int.reduceLE,ha0,ez hl0,eP hl0,iQ hl0,fJ hl0,jp hl0,gx hl0,eM ha0,Tryz.results156,af ls,dV,eT.eq_2,df,cF7,cF10,cF17]) (Drops.on (h:=(h.upd l0 (.cells [.val (.bool Null3),.row 3 (List.map eI Sets3),.val (.sl (List.map eI First3)),.val (.sl (List.map eI Last3)),.row 26 (List.map (eL eI) Follow3)]))) (os:=[none,none,some (.cells [.val (.bool (ar.mk null3 first2 last2).null),.val (.sl (List.map eI (ar.mk null3 first2 last2).first)),.val (.sl (List.map eI (ar.mk null3 first2 last2).last))])]) (os':=[]) (eW hwf hl0) (Nat.le_refl _) (by simp (disch:=(apply bJ.mk;decide)) only[go_sem,Nat.reduceAdd,Nat.reduceLT,Nat.reduceMul,Nat.reduceLeDiff,Int.reduceToNat,Int.reduceLT,Int.reduceLE,ha0,ez hl0,eP hl0,iQ hl0,fJ hl0,jp hl0,gx hl0,eM ha0,cF7,cF10,cF17])) ⟨rfl,aK (h:=(h.upd l0 (.cells [.val (.bool Null3),.row 3 (List.map eI Sets3),.val (.sl (List.map eI First3)),.val (.sl (List.map eI Last3)),.row 26 (List.map (eL eI) Follow3)]))) (eW hwf hl0)⟩))))
      ·refine aI ?_
       refine cI (fun xX:(Int×Bool×List Int×List Int×Bool×List Int×List Int×List Int×List (List Int))=>⟨[(2,.cv (.val (.ptr (some (h.n+0,0))))),(4,.cv (.val (.ptr (some (h.n+2,0))))),(10,.cv (.val (.ptr (some (h.n+3,0))))),(69,.cv (.val (.sl (List.map bR n.Kids)))),(70,.cv (.val (.int .i64 (n.Kids.length:Int)))),(71,.cv (.val (.int .i64 xX.1)))],(h.upd l0 (.cells [.val (.bool xX.2.2.2.2.1),.row 3 (List.map eI xX.2.2.2.2.2.1),.val (.sl (List.map eI xX.2.2.2.2.2.2.1)),.val (.sl (List.map eI xX.2.2.2.2.2.2.2.1)),.row 26 (List.map (eL eI) xX.2.2.2.2.2.2.2.2)])).on [some (.cells [.val (.ptr (some (l0,0)))]),none,some (.cells [.val (.bool false),.nil,.nil]),some (.cells [.val (.bool xX.2.1),.val (.sl (List.map eI xX.2.2.1)),.val (.sl (List.map eI xX.2.2.2.1))])]⟩) hr (ai (eW hwf hl0)) (fun W2 xX hr=>?_)
       obtain ⟨v1,null4,first3,last3,Null4,Sets4,First4,Last4,Follow4⟩:=xX
       dsimp only[aP.b2]at hr
       refine A_s ?_
       refine aj ?_
       refine au hr (fun cF18 hr=>?_) (fun cF18 hr=>?_)
       ·refine aL ?_
        refine w_n ?_
        refine aj ?_
        refine aI ?_
        refine aj ?_
        obtain ⟨x2,nF19,eF20,gF21,hr⟩:=hr.idx
        refine ah ?_
        refine w_n ?_
        refine cW [0,1,2,3,4,5] (by rfl) ?_
        refine bV [0,1,2] [2,1,0] ?_
        obtain ⟨r4,eF22,hr⟩:=hr.bind
        refine dI [0] (out:=?o_eF22) (hp:=?p_eF22) ?c_eF22 ?d_eF22 ?_
        case c_eF22=>(refine ih (cu.mk Null4 Sets4 First4 Last4 Follow4) x2 (l0) ?_ eF22;exact cE)
        case d_eF22=>rfl
        obtain ⟨r5,eF23,hr⟩:=hr.bind
        refine dI [] (out:=?o_eF23) (hp:=?p_eF23) ?c_eF23 ?d_eF23 ?_
        case c_eF23=>exact nG (ar.mk null4 first3 last3) r4.1 eF23
        case d_eF23=>rfl
        refine dp [] ?_
        refine dw ?_
        refine (eY (w_n ?_))
        refine ah ?_
        exact (w_k ⟨((IntKind.i64.wrap (v1+(1:Int))),r5.null,r5.first,r5.last,r4.2.Null,r4.2.Sets,r4.2.First,r4.2.Last,r4.2.Follow),hr,(ai (eW hwf hl0))⟩)
       ·refine cG ?_
        exact (dG (dG (iy (w_k ⟨(null4,first3,last3,Null4,Sets4,First4,Last4,Follow4),(hr).map,(ai (eW hwf hl0))⟩))))
     ·refine aL ?_
      exact (eY (w_k ⟨(),hr,(ai hwf)⟩))
theorem pv (a_:cu) (n:az) (l0:Nat) {h:ax} (ha0:h.at_ l0=some (.cells [.val (.bool a_.Null),.row 3 (List.map eI a_.Sets),.val (.sl (List.map eI a_.First)),.val (.sl (List.map eI a_.Last)),.row 26 (List.map (eL eI) a_.Follow)])) {a:(ar×cu)} (e:aP a_ n=some a):
  cp CT 156 [.cv (.val (.ptr (some (l0,0)))),.cv (.val (.agg [.int .i64 n.Kind,.int .i64 n.Set,.sl (List.map bR n.Kids)]))] h fun o h'=>o=[.cv (.val (.agg [.bool a.1.null,.sl (List.map eI a.1.first),.sl (List.map eI a.1.last)]))]∧h'=(h.upd l0 (.cells [.val (.bool a.2.Null),.row 3 (List.map eI a.2.Sets),.val (.sl (List.map eI a.2.First)),.val (.sl (List.map eI a.2.Last)),.row 26 (List.map (eL eI) a.2.Follow)])):=by
 obtain ⟨fuN,fuH⟩:=lK e
 exact oa fuN a_ n l0 ha0 (fuH fuN (Nat.le_refl fuN))
theorem pG (n:az) {h:ax} {a:(cu×Int)} (e:iL n=some a):
  cp CT 87 [.cv (.val (.agg [.int .i64 n.Kind,.int .i64 n.Set,.sl (List.map bR n.Kids)]))] h fun o h'=>o=[.cv (.val (.agg [.bool a.1.Null,.sl (List.map eI a.1.Sets),.sl (List.map eI a.1.First),.sl (List.map eI a.1.Last),.sl (List.map (eL eI) a.1.Follow)])),.cv (.val (.int .i64 a.2))]∧h'=h:=by
 refine bv Tryz.func87 fun hwf hu=>?_
 obtain ⟨D,hD,hr⟩:=Holds.one e
 dsimp only[iL]at hr
 change aR _ _ _ _ _ ⟨[(0,.cv (.val (.agg [.int .i64 n.Kind,.int .i64 n.Set,.sl (List.map bR n.Kids)])))],h.on []⟩
 refine A_s ?_
 refine aj ?_
 refine aI ?_
 refine aj ?_
 refine bE ?_
 refine aw 1 ?_
 obtain ⟨r,eF1,hr⟩:=hr.bind
 refine be (out:=?o_eF1) (hp:=?p_eF1) ?c_eF1 ?d_eF1 ?_
 case c_eF1=>exact qK n eF1
 case d_eF1=>rfl
 refine ae ?_
 refine w_n ?_
 refine au hr (fun cF2 hr=>?_) (fun cF2 hr=>?_)
 ·refine aj ?_
  refine ah ?_
  refine w_n ?_
  refine bu ?_
  obtain rfl:=hD _ hr
  exact (fQ (cw (fq (ai (os':=[none,some (.cells [.val (.bool false),.val (.sl (List.map eI ([]:List Int))),.val (.sl (List.map eI ([]:List Int))),.val (.sl (List.map eI ([]:List Int))),.val (.sl (List.map (eL eI) ([]:List (List Int))))])]) (sl:=[(2,.cv (.val (.ptr (some (h.n+1,0))))),(3,.cv (.val (.int .i64 (1:Int))))]) hwf) (by simp (disch:=(apply bJ.mk;decide)) only[go_sem,Nat.reduceAdd,Nat.reduceLT,Nat.reduceMul,Nat.reduceLeDiff,Int.reduceToNat,Int.reduceLT,Int.reduceLE,Tryz.results87,af qe,dV,eT.eq_2,df,cF2]) (Drops.on (os:=[none,some (.cells [.val (.bool false),.val (.sl (List.map eI ([]:List Int))),.val (.sl (List.map eI ([]:List Int))),.val (.sl (List.map eI ([]:List Int))),.val (.sl (List.map (eL eI) ([]:List (List Int))))])]) (os':=[]) hwf (Nat.le_refl _) (by simp (disch:=(apply bJ.mk;decide)) only[go_sem,Nat.reduceAdd,Nat.reduceLT,Nat.reduceMul,Nat.reduceLeDiff,Int.reduceToNat,Int.reduceLT,Int.reduceLE,cF2])) ⟨rfl,aK hwf⟩)))
 ·refine aj ?_
  refine bE ?_
  refine aw 1 ?_
  obtain ⟨r1,eF3,hr⟩:=hr.bind
  refine be (out:=?o_eF3) (hp:=?p_eF3) ?c_eF3 ?d_eF3 ?_
  case c_eF3=>exact pX n eF3
  case d_eF3=>rfl
  refine ae ?_
  refine w_n ?_
  refine au hr (fun cF4 hr=>?_) (fun cF4 hr=>?_)
  ·refine aj ?_
   refine ah ?_
   refine w_n ?_
   refine bu ?_
   obtain rfl:=hD _ hr
   exact (fQ (cw (fq (ai (os':=[none,some (.cells [.val (.bool false),.val (.sl (List.map eI ([]:List Int))),.val (.sl (List.map eI ([]:List Int))),.val (.sl (List.map eI ([]:List Int))),.val (.sl (List.map (eL eI) ([]:List (List Int))))])]) (sl:=[(2,.cv (.val (.ptr (some (h.n+1,0))))),(3,.cv (.val (.int .i64 (3:Int))))]) hwf) (by simp (disch:=(apply bJ.mk;decide)) only[go_sem,Nat.reduceAdd,Nat.reduceLT,Nat.reduceMul,Nat.reduceLeDiff,Int.reduceToNat,Int.reduceLT,Int.reduceLE,Tryz.results87,af qe,dV,eT.eq_2,df,cF2,cF4]) (Drops.on (os:=[none,some (.cells [.val (.bool false),.val (.sl (List.map eI ([]:List Int))),.val (.sl (List.map eI ([]:List Int))),.val (.sl (List.map eI ([]:List Int))),.val (.sl (List.map (eL eI) ([]:List (List Int))))])]) (os':=[]) hwf (Nat.le_refl _) (by simp (disch:=(apply bJ.mk;decide)) only[go_sem,Nat.reduceAdd,Nat.reduceLT,Nat.reduceMul,Nat.reduceLeDiff,Int.reduceToNat,Int.reduceLT,Int.reduceLE,cF2,cF4])) ⟨rfl,aK hwf⟩)))
  ·refine aL ?_
   refine (eY (w_n ?_))
   refine A_s ?_
   refine aj ?_
   refine sO (s1:=⟨[(1,.cv (.val (.ptr (some (h.n+0,0))))),(2,.cv (.val (.ptr (some (h.n+1,0))))),(4,.cv (.val (.ptr (some (h.n+2,0)))))],h.on [some (.cells [.val (.int .i64 n.Kind),.val (.int .i64 n.Set),.val (.sl (List.map bR n.Kids))]),some (.cells [.val (.bool false),.nil,.nil,.nil,.nil]),some (.cells [.val (.bool false),.row 3 (List.map eI []),.val (.sl (List.map eI ([]:List Int))),.val (.sl (List.map eI ([]:List Int))),.row 26 (List.map (eL eI) [])])]⟩) (ai hwf) ?_
   refine bE ?_
   refine aw 1 ?_
   obtain ⟨r2,eF5,hr⟩:=hr.bind
   refine be (out:=?o_eF5) (hp:=?p_eF5) ?c_eF5 ?d_eF5 ?_
   case c_eF5=>(refine pv (cu.mk false [] ([]:List Int) ([]:List Int) []) n (h.n+2) ?_ eF5;(simp (disch:=(apply bJ.mk;decide)) only[go_sem,Nat.reduceAdd,Nat.reduceLT,Nat.reduceMul,Nat.reduceLeDiff,Int.reduceToNat,Int.reduceLT,Int.reduceLE]))
   case d_eF5=>rfl
   refine ae ?_
   refine w_n ?_
   refine aj ?_
   refine cW [0,1,2,3,4,5,6,7,8,9,10,11] (by rfl) ?_
   refine bV [0,1,2,3,4,5,6] [6,5,4,3,2,1,0] ?_
   refine dp [5,4,3,2] ?_
   refine bV [8] [8,5,4,3,2] ?_
   refine dp [5,4] ?_
   refine bV [10] [10,5,4] ?_
   refine dp [] ?_
   refine dw ?_
   refine w_n ?_
   refine aj ?_
   refine sO (.fix _ _ (.cell (h.n+2) 1) 3 _ (by simp (disch:=(apply bJ.mk;decide)) only[go_sem,Nat.reduceAdd,Nat.reduceLT,Nat.reduceMul,Nat.reduceLeDiff,Int.reduceToNat,Int.reduceLT,Int.reduceLE,cF2,cF4];rfl) (.refl _)) ?_
   refine sO (.fix _ _ (.cell (h.n+2) 4) 26 _ (by simp (disch:=(apply bJ.mk;decide)) only[go_sem,Nat.reduceAdd,Nat.reduceLT,Nat.reduceMul,Nat.reduceLeDiff,Int.reduceToNat,Int.reduceLT,Int.reduceLE,cF2,cF4];rfl) (.refl _)) ?_
   refine ah ?_
   refine w_n ?_
   refine bu ?_
   obtain rfl:=hD _ hr
   exact (fq (ai (os':=[none,some (.cells [.val (.bool (cu.mk r2.1.null r2.2.Sets r2.1.first r2.1.last r2.2.Follow).Null),.val (.sl (List.map eI (cu.mk r2.1.null r2.2.Sets r2.1.first r2.1.last r2.2.Follow).Sets)),.val (.sl (List.map eI (cu.mk r2.1.null r2.2.Sets r2.1.first r2.1.last r2.2.Follow).First)),.val (.sl (List.map eI (cu.mk r2.1.null r2.2.Sets r2.1.first r2.1.last r2.2.Follow).Last)),.val (.sl (List.map (eL eI) (cu.mk r2.1.null r2.2.Sets r2.1.first r2.1.last r2.2.Follow).Follow))])]) (sl:=[(2,.cv (.val (.ptr (some (h.n+1,0))))),(3,.cv (.val (.int .i64 (0:Int))))]) hwf) (by simp (disch:=(apply bJ.mk;decide)) only[go_sem,Nat.reduceAdd,Nat.reduceLT,Nat.reduceMul,Nat.reduceLeDiff,Int.reduceToNat,Int.reduceLT,Int.reduceLE,Tryz.results87,af qe,dV,eT.eq_2,df,cF2,cF4]) (Drops.on (os:=[none,some (.cells [.val (.bool (cu.mk r2.1.null r2.2.Sets r2.1.first r2.1.last r2.2.Follow).Null),.val (.sl (List.map eI (cu.mk r2.1.null r2.2.Sets r2.1.first r2.1.last r2.2.Follow).Sets)),.val (.sl (List.map eI (cu.mk r2.1.null r2.2.Sets r2.1.first r2.1.last r2.2.Follow).First)),.val (.sl (List.map eI (cu.mk r2.1.null r2.2.Sets r2.1.first r2.1.last r2.2.Follow).Last)),.val (.sl (List.map (eL eI) (cu.mk r2.1.null r2.2.Sets r2.1.first r2.1.last r2.2.Follow).Follow))])]) (os':=[]) hwf (Nat.le_refl _) (by simp (disch:=(apply bJ.mk;decide)) only[go_sem,Nat.reduceAdd,Nat.reduceLT,Nat.reduceMul,Nat.reduceLeDiff,Int.reduceToNat,Int.reduceLT,Int.reduceLE,cF2,cF4])) ⟨rfl,aK hwf⟩)
theorem kB {h:ax} {a:List Int} (e:gJ=some a):
  cp CT 159 [] h fun o h'=>o=[.cv (.val (.sl (List.map eI a)))]∧h'=h:=by
 refine bv Tryz.func159 fun hwf hu=>?_
 obtain ⟨D,hD,hr⟩:=Holds.one e
 dsimp only[gJ]at hr
 change aR _ _ _ _ _ ⟨[],h.on []⟩
 iterate 2 refine A_s ?_
 refine bu ?_
 obtain rfl:=hD _ hr
 exact (ba (.fix _ _ (.slot 0) 3 _ pw (ai (os':=[]) (sl:=[(0,.cv (.val (.sl (List.map eI ([(0:Int)])))))]) hwf)) ⟨rfl,aK hwf⟩)
end Go.Val
namespace Go.Val
theorem fB (s:List Int) (sg:Int) (A:cu) (p q:Nat) {h:ax} (hp:h.at_ p=some (.cells [.val (.int .u64 sg)])) (hq:h.at_ q=some (.cells [.val (.bool A.Null),.val (.sl (List.map eI A.Sets)),.val (.sl (List.map eI A.First)),.val (.sl (List.map eI A.Last)),.val (.sl (List.map (eL eI) A.Follow))])) (hn:p≠q) {a:List Int} (e:bW s sg A=some a):
  cp CT 225 [.cv (.row 3 (List.map eI s)),.cv (.val (.fn 224 [] [.ptr (some (p,0)),.ptr (some (q,0))]))] h fun o h'=>o=[.cv (.val (.sl (List.map eI a)))]∧h'=h:=
 cp.hand (C:=CT) (show tE 225 _ h _ h from ⟨rfl,.inr (.inr (.inr (.inr (.inr (.inl ⟨rfl,s,sg,A,p,q,a,rfl,hp,hq,e,rfl⟩)))))⟩) ⟨rfl,rfl⟩
end Go.Val
namespace Go.Val
set_option maxRecDepth 20000
open Go.Proofs
theorem qM (a_:cu) (at_:List Int) (sign:Int) {h:ax} {a:List Int} (e:cy a_ at_ sign=some a):
  cp CT 160 [.cv (.val (.agg [.bool a_.Null,.sl (List.map eI a_.Sets),.sl (List.map eI a_.First),.sl (List.map eI a_.Last),.sl (List.map (eL eI) a_.Follow)])),.cv (.val (.sl (List.map eI at_))),.cv (.val (.int .u64 sign))] h fun o h'=>o=[.cv (.val (.sl (List.map eI a)))]∧h'=h:=by
 refine bv Tryz.func160 fun hwf hu=>?_
 obtain ⟨D,hD,hr⟩:=Holds.one e
 dsimp only[cy]at hr
 change aR _ _ _ _ _ ⟨[(0,.cv (.val (.agg [.bool a_.Null,.sl (List.map eI a_.Sets),.sl (List.map eI a_.First),.sl (List.map eI a_.Last),.sl (List.map (eL eI) a_.Follow)]))),(1,.cv (.val (.sl (List.map eI at_)))),(2,.cv (.val (.int .u64 sign)))],h.on []⟩
 iterate 2 refine A_s ?_
 refine aj ?_
 refine A_s ?_
 refine w_K (D:=D) (fun xX:List Int=>⟨[(3,.cv (.val (.ptr (some (h.n+0,0))))),(5,.cv (.val (.ptr (some (h.n+1,0))))),(7,.cv (.row 3 (List.map eI xX)))],h.on [some (.cells [.val (.bool a_.Null),.val (.sl (List.map eI a_.Sets)),.val (.sl (List.map eI a_.First)),.val (.sl (List.map eI a_.Last)),.val (.sl (List.map (eL eI) a_.Follow))]),some (.cells [.val (.int .u64 sign)])]⟩) (fun xX:List Int=>cy.k1 a_ sign xX) (fun xX s' hr ht=>?_) ?_
 ·obtain ⟨all,rfl⟩:∃ z,z=xX:=⟨xX,rfl⟩
  dsimp only[cy.k1]at hr ht
  refine (eO ht ?_)
  refine A_s ?_
  refine aj ?_
  refine bE ?_
  refine aw 1 ?_
  obtain ⟨r,eF1,hr⟩:=hr.bind
  refine be (out:=?o_eF1) (hp:=?p_eF1) ?c_eF1 ?d_eF1 ?_
  case c_eF1=>exact cB all [] eF1
  case d_eF1=>rfl
  refine aw 1 ?_
  obtain ⟨r1,eF2,hr⟩:=hr.bind
  refine be (out:=?o_eF2) (hp:=?p_eF2) ?c_eF2 ?d_eF2 ?_
  case c_eF2=>(refine fB r sign a_ (h.n+1) (h.n+0) ?_ ?_ ?_ eF2;exact cE;exact cE;exact pk)
  case d_eF2=>rfl
  refine ae ?_
  refine w_n ?_
  refine bu ?_
  obtain rfl:=hD _ hr
  exact (ba (ai (os':=[]) (sl:=[(6,.cv (.val (.sl (List.map eI r1))))]) hwf) ⟨rfl,aK hwf⟩)
 ·refine aI ?_
  refine cI (fun xX:(List Int×Int)=>⟨[(3,.cv (.val (.ptr (some (h.n+0,0))))),(5,.cv (.val (.ptr (some (h.n+1,0))))),(7,.cv (.row 3 (List.map eI xX.1))),(11,.cv (.val (.sl (List.map eI at_)))),(12,.cv (.val (.int .i64 (at_.length:Int)))),(13,.cv (.val (.int .i64 xX.2)))],h.on [some (.cells [.val (.bool a_.Null),.val (.sl (List.map eI a_.Sets)),.val (.sl (List.map eI a_.First)),.val (.sl (List.map eI a_.Last)),.val (.sl (List.map (eL eI) a_.Follow))]),some (.cells [.val (.int .u64 sign)])]⟩) hr (ai hwf) (fun W1 xX hr=>?_)
  obtain ⟨all1,v⟩:=xX
  dsimp only[cy.b1]at hr
  refine A_s ?_
  refine aj ?_
  refine au hr (fun cF3 hr=>?_) (fun cF3 hr=>?_)
  ·refine aL ?_
   refine w_n ?_
   refine aj ?_
   refine w_K (D:=(Aft W1 D)) (fun xX:List Int=>⟨[(3,.cv (.val (.ptr (some (h.n+0,0))))),(5,.cv (.val (.ptr (some (h.n+1,0))))),(7,.cv (.row 3 (List.map eI xX))),(11,.cv (.val (.sl (List.map eI at_)))),(12,.cv (.val (.int .i64 (at_.length:Int)))),(13,.cv (.val (.int .i64 v)))],h.on [some (.cells [.val (.bool a_.Null),.val (.sl (List.map eI a_.Sets)),.val (.sl (List.map eI a_.First)),.val (.sl (List.map eI a_.Last)),.val (.sl (List.map (eL eI) a_.Follow))]),some (.cells [.val (.int .u64 sign)])]⟩) (fun xX:List Int=>cy.k2 v xX) (fun xX s' hr ht=>?_) ?_
   ·obtain ⟨all2,rfl⟩:∃ z,z=xX:=⟨xX,rfl⟩
    dsimp only[cy.k2]at hr ht
    refine (eO ht ?_)
    refine ah ?_
    exact (w_k ⟨(all2,(IntKind.i64.wrap (v+(1:Int)))),hr,(ai hwf)⟩)
   ·refine aI ?_
    refine aj ?_
    obtain ⟨n,nF4,eF5,gF6,hr⟩:=hr.idx
    refine ah ?_
    refine w_n ?_
    refine A_s ?_
    refine au hr (fun cF7 hr=>?_) (fun cF7 hr=>?_)
    ·obtain ⟨nF8,hr⟩:=hr.room
     refine ah ?_
     exact (eY (w_k ⟨(all1++a_.First),hr,(ai hwf)⟩))
    ·obtain ⟨xs,nF9,eF10,gF11,hr⟩:=hr.idx
     obtain ⟨nF12,hr⟩:=hr.room
     refine ah ?_
     exact (eY (w_k ⟨(all1++xs),hr,(ai hwf)⟩))
  ·refine cG ?_
   exact (dG (dG (iy (w_k ⟨all1,(hr).map,(ai hwf)⟩))))
theorem iY (s:List Int) (f:Int→Option Bool) (fid_f:FuncId) (caps_f:List ao) {h:ax} (h_f:∀ os x0 r,f x0=some r→cp CT fid_f ([.cv (.val (.int .i64 x0))]++jc caps_f) (h.on os) fun o h'=>o=[.cv (.val (.bool r))]∧h'=h.on os) (d_f:∀ i,CT.how fid_f i= .data) {a:Int} (e:bf s f=some a):
  cp CT 165 [.cv (.val (.sl (List.map eI s))),.cv (.val (.fn fid_f [] caps_f))] h fun o h'=>o=[.cv (.val (.int .i64 a))]∧h'=h:=by
 refine bv Tryz.func165 fun hwf hu=>?_
 have u_f:bG h.n caps_f:=(hu (.cv (.val (.fn fid_f [] caps_f))) (by simp)).2
 have vu_f:=fun k=>fk (k:=k) u_f
 obtain ⟨D,hD,hr⟩:=Holds.one e
 dsimp only[bf]at hr
 change aR _ _ _ _ _ ⟨[(0,.cv (.val (.sl (List.map eI s)))),(1,.cv (.val (.fn fid_f [] caps_f)))],h.on []⟩
 refine A_s ?_
 refine aj ?_
 refine A_s ?_
 refine w_K (D:=D) (fun xX:Unit=>⟨[],h.on []⟩) (fun xX:Unit=>bf.k1) (fun xX s' hr ht=>?_) ?_
 ·dsimp only[bf.k1]at hr ht
  refine (eO ht ?_)
  refine A_s ?_
  refine bu ?_
  obtain rfl:=hD _ hr
  exact (ba (ai (os':=[]) (sl:=[(4,.cv (.val (.int .i64 (-1:Int))))]) hwf) ⟨rfl,aK hwf⟩)
 ·refine aI ?_
  refine cI (fun xX:Int=>⟨[(0,.cv (.val (.sl (List.map eI s)))),(1,.cv (.val (.fn fid_f [] caps_f))),(7,.cv (.val (.int .i64 (s.length:Int)))),(8,.cv (.val (.int .i64 xX)))],h.on []⟩) hr (ai hwf) (fun W1 xX hr=>?_)
  obtain ⟨v,rfl⟩:∃ z,z=xX:=⟨xX,rfl⟩
  dsimp only[bf.b1]at hr
  refine A_s ?_
  refine aj ?_
  refine au hr (fun cF1 hr=>?_) (fun cF1 hr=>?_)
  ·refine aL ?_
   refine w_n ?_
   refine aj ?_
   refine aI ?_
   refine A_s ?_
   refine aj ?_
   refine bE ?_
   obtain ⟨n,nF2,eF3,gF4,hr⟩:=hr.idx
   refine aw 5 ?_
   obtain ⟨r,eF5,hr⟩:=hr.bind
   refine be (out:=?o_eF5) (hp:=?p_eF5) ?c_eF5 ?d_eF5 ?_
   case c_eF5=>exact h_f _ _ _ eF5
   case d_eF5=>rfl
   refine de ?_
   refine w_n ?_
   refine au hr (fun cF6 hr=>?_) (fun cF6 hr=>?_)
   ·refine aj ?_
    refine ah ?_
    refine w_n ?_
    refine bu ?_
    obtain rfl:=hD _ hr
    exact (fQ (cw (cw (fQ (cw (cw (ba (ai (os':=[]) (sl:=[(4,.cv (.val (.int .i64 v)))]) hwf) ⟨rfl,aK hwf⟩)))))))
   ·refine aL ?_
    refine (eY (w_n ?_))
    refine ah ?_
    exact (w_k ⟨(IntKind.i64.wrap (v+(1:Int))),hr,(ai hwf)⟩)
  ·refine cG ?_
   exact (dG (dG (iy (w_k ⟨(),(hr).map,(ai hwf)⟩))))
theorem dE (s:List Int) (f:Int→Option Bool) (fid_f:FuncId) (caps_f:List ao) {h:ax} (h_f:∀ os x0 r,f x0=some r→cp CT fid_f ([.cv (.val (.int .i64 x0))]++jc caps_f) (h.on os) fun o h'=>o=[.cv (.val (.bool r))]∧h'=h.on os) (d_f:∀ i,CT.how fid_f i= .data) {a:Bool} (e:cb s f=some a):
  cp CT 91 [.cv (.val (.sl (List.map eI s))),.cv (.val (.fn fid_f [] caps_f))] h fun o h'=>o=[.cv (.val (.bool a))]∧h'=h:=by
 refine bv Tryz.func91 fun hwf hu=>?_
 have u_f:bG h.n caps_f:=(hu (.cv (.val (.fn fid_f [] caps_f))) (by simp)).2
 have vu_f:=fun k=>fk (k:=k) u_f
 obtain ⟨D,hD,hr⟩:=Holds.one e
 dsimp only[cb]at hr
 change aR _ _ _ _ _ ⟨[(0,.cv (.val (.sl (List.map eI s)))),(1,.cv (.val (.fn fid_f [] caps_f)))],h.on []⟩
 refine A_s ?_
 refine aj ?_
 refine bE ?_
 refine aw 2 ?_
 obtain ⟨r,eF1,hr⟩:=hr.bind
 refine be (out:=?o_eF1) (hp:=?p_eF1) ?c_eF1 ?d_eF1 ?_
 case c_eF1=>(refine iY s f _ _ ?_ ?_ eF1;(exact (fun os x0 r e=>by rw[acL];exact h_f _ x0 r e));(exact d_f))
 case d_eF1=>rfl
 refine ae ?_
 refine w_n ?_
 refine bu ?_
 obtain rfl:=hD _ hr
 exact (ba (ai (os':=[]) (sl:=[(4,.cv (.val (.bool (decide (r≥(0:Int))))))]) hwf) ⟨rfl,aK hwf⟩)
theorem jZ (s:List Int) (v:Int) {h:ax} {a:Int} (e:cg s v=some a):
  cp CT 94 [.cv (.val (.sl (List.map eI s))),.cv (.val (.int .i64 v))] h fun o h'=>o=[.cv (.val (.int .i64 a))]∧h'=h:=by
 refine bv Tryz.func94 fun hwf hu=>?_
 obtain ⟨D,hD,hr⟩:=Holds.one e
 dsimp only[cg]at hr
 change aR _ _ _ _ _ ⟨[(0,.cv (.val (.sl (List.map eI s)))),(1,.cv (.val (.int .i64 v)))],h.on []⟩
 refine A_s ?_
 refine aj ?_
 refine A_s ?_
 refine w_K (D:=D) (fun xX:Unit=>⟨[],h.on []⟩) (fun xX:Unit=>cg.k1) (fun xX s' hr ht=>?_) ?_
 ·dsimp only[cg.k1]at hr ht
  refine (eO ht ?_)
  refine A_s ?_
  refine bu ?_
  obtain rfl:=hD _ hr
  exact (ba (ai (os':=[]) (sl:=[(4,.cv (.val (.int .i64 (-1:Int))))]) hwf) ⟨rfl,aK hwf⟩)
 ·refine aI ?_
  refine cI (fun xX:Int=>⟨[(0,.cv (.val (.sl (List.map eI s)))),(1,.cv (.val (.int .i64 v))),(7,.cv (.val (.int .i64 (s.length:Int)))),(8,.cv (.val (.int .i64 xX)))],h.on []⟩) hr (ai hwf) (fun W1 xX hr=>?_)
  obtain ⟨v1,rfl⟩:∃ z,z=xX:=⟨xX,rfl⟩
  dsimp only[cg.b1]at hr
  refine A_s ?_
  refine aj ?_
  refine au hr (fun cF1 hr=>?_) (fun cF1 hr=>?_)
  ·refine aL ?_
   refine w_n ?_
   refine aj ?_
   refine aI ?_
   refine A_s ?_
   refine aj ?_
   obtain ⟨n,nF2,eF3,gF4,hr⟩:=hr.idx
   refine ah ?_
   refine w_n ?_
   refine au hr (fun cF5 hr=>?_) (fun cF5 hr=>?_)
   ·refine aj ?_
    refine ah ?_
    refine w_n ?_
    refine bu ?_
    obtain rfl:=hD _ hr
    exact (fQ (cw (cw (fQ (cw (cw (ba (ai (os':=[]) (sl:=[(4,.cv (.val (.int .i64 v1)))]) hwf) ⟨rfl,aK hwf⟩)))))))
   ·refine aL ?_
    refine (eY (w_n ?_))
    refine ah ?_
    exact (w_k ⟨(IntKind.i64.wrap (v1+(1:Int))),hr,(ai hwf)⟩)
  ·refine cG ?_
   exact (dG (dG (iy (w_k ⟨(),(hr).map,(ai hwf)⟩))))
theorem dW (s:List Int) (v:Int) {h:ax} {a:Bool} (e:cM s v=some a):
  cp CT 40 [.cv (.val (.sl (List.map eI s))),.cv (.val (.int .i64 v))] h fun o h'=>o=[.cv (.val (.bool a))]∧h'=h:=by
 refine bv Tryz.func40 fun hwf hu=>?_
 obtain ⟨D,hD,hr⟩:=Holds.one e
 dsimp only[cM]at hr
 change aR _ _ _ _ _ ⟨[(0,.cv (.val (.sl (List.map eI s)))),(1,.cv (.val (.int .i64 v)))],h.on []⟩
 refine A_s ?_
 refine aj ?_
 refine bE ?_
 refine aw 2 ?_
 obtain ⟨r,eF1,hr⟩:=hr.bind
 refine be (out:=?o_eF1) (hp:=?p_eF1) ?c_eF1 ?d_eF1 ?_
 case c_eF1=>exact jZ s v eF1
 case d_eF1=>rfl
 refine ae ?_
 refine w_n ?_
 refine bu ?_
 obtain rfl:=hD _ hr
 exact (ba (ai (os':=[]) (sl:=[(4,.cv (.val (.bool (decide (r≥(0:Int))))))]) hwf) ⟨rfl,aK hwf⟩)
theorem pQ (i:Int) (p1:cu) (l1:Nat) {h:ax} (ha1:h.at_ l1=some (.cells [.val (.bool p1.Null),.val (.sl (List.map eI p1.Sets)),.val (.sl (List.map eI p1.First)),.val (.sl (List.map eI p1.Last)),.val (.sl (List.map (eL eI) p1.Follow))])) {a:Bool} (e:gP i p1=some a):
  cp CT 227 [.cv (.val (.int .i64 i)),.cv (.val (.ptr (some (l1,0))))] h fun o h'=>o=[.cv (.val (.bool a))]∧h'=h:=by
 refine bv Tryz.func227 fun hwf hu=>?_
 have hl1:=(hwf _ _ ha1).1
 have kl1:=lQ hl1
 obtain ⟨D,hD,hr⟩:=Holds.one e
 dsimp only[gP]at hr
 change aR _ _ _ _ _ ⟨[(0,.cv (.val (.int .i64 i))),(1,.cv (.val (.ptr (some (l1,0)))))],h.on []⟩
 refine A_s ?_
 obtain ⟨v,vF5,hr⟩:=hr.bind
 refine cq (sj:=⟨[(3,.cv (.val (.bool v)))],h.on []⟩) (bE ?_) ?_
 ·have hr:=Holds.intro (D:=fun z=>z=v) vF5 rfl
  refine aw 3 ?_
  rcases hr.ite with ⟨cF1,hr⟩ | ⟨cF1,hr⟩
  ·refine aw 4 ?_
   rcases hr.ite with ⟨cF2,hr⟩ | ⟨cF2,hr⟩
   ·refine aw 3 ?_
    refine iu ?_
    refine ae ?_
    obtain rfl:_=v:=hr
    exact w_k (ai hwf)
   ·refine aw 3 ?_
    obtain ⟨r,eF3,hr⟩:=hr.bind
    refine be (out:=?o_eF3) (hp:=?p_eF3) ?c_eF3 ?d_eF3 ?_
    case c_eF3=>exact dW p1.Last i eF3
    case d_eF3=>rfl
    refine ae ?_
    obtain rfl:_=v:=hr
    exact w_k (ai hwf)
  ·refine aw 7 ?_
   obtain ⟨r1,eF4,hr⟩:=hr.bind
   refine be (out:=?o_eF4) (hp:=?p_eF4) ?c_eF4 ?d_eF4 ?_
   case c_eF4=>exact dW p1.Last i eF4
   case d_eF4=>rfl
   refine ae ?_
   obtain rfl:_=v:=hr
   exact w_k (ai hwf)
 refine bu ?_
 obtain rfl:=hD _ hr
 exact (ba (ai (os':=[]) (sl:=[(3,.cv (.val (.bool v)))]) hwf) ⟨rfl,aK hwf⟩)
theorem su (a_:cu) (at_:List Int) {h:ax} {a:Bool} (e:km a_ at_=some a):
  cp CT 162 [.cv (.val (.agg [.bool a_.Null,.sl (List.map eI a_.Sets),.sl (List.map eI a_.First),.sl (List.map eI a_.Last),.sl (List.map (eL eI) a_.Follow)])),.cv (.val (.sl (List.map eI at_)))] h fun o h'=>o=[.cv (.val (.bool a))]∧h'=h:=by
 refine bv Tryz.func162 fun hwf hu=>?_
 obtain ⟨D,hD,hr⟩:=Holds.one e
 dsimp only[km]at hr
 change aR _ _ _ _ _ ⟨[(0,.cv (.val (.agg [.bool a_.Null,.sl (List.map eI a_.Sets),.sl (List.map eI a_.First),.sl (List.map eI a_.Last),.sl (List.map (eL eI) a_.Follow)]))),(1,.cv (.val (.sl (List.map eI at_))))],h.on []⟩
 iterate 2 refine A_s ?_
 refine aj ?_
 refine bE ?_
 refine aw 2 ?_
 obtain ⟨r,eF1,hr⟩:=hr.bind
 refine be (out:=?o_eF1) (hp:=?p_eF1) ?c_eF1 ?d_eF1 ?_
 case c_eF1=>(refine dE at_ (fun x0=>gP x0 a_) _ _ ?_ ?_ eF1;(exact (fun os x0 r e=>pQ x0 a_ (h.n+0) cE e));(exact (fun i=>by simp[CT])))
 case d_eF1=>rfl
 refine ae ?_
 refine w_n ?_
 refine bu ?_
 obtain rfl:=hD _ hr
 exact (ba (ai (os':=[]) (sl:=[(4,.cv (.val (.bool r)))]) hwf) ⟨rfl,aK hwf⟩)
end Go.Val
namespace Go.Val
theorem ky (s:List Int) (n:Int) {h:ax} {a:List Int} (e:gy s n=some a):
  cp CT 226 [.cv .nil,.cv (.val (.int .i64 n))] h fun o h'=>o=[.cv (.row 3 (List.map eI a))]∧h'=h:=by
 unfold gy at e
 split at e
 ·rename_i hc
  obtain ⟨rfl,h1,h2⟩:=hc
  obtain rfl:=Option.some.inj e
  exact cp.hand (C:=CT) (show tE 226 _ h _ h from ⟨rfl,.inr (.inr (.inr (.inr (.inl ⟨.inl rfl,n,rfl,h1,h2,rfl⟩))))⟩) ⟨rfl,rfl⟩
 ·cases e
end Go.Val
namespace Go.Val
set_option maxRecDepth 20000
open Go.Proofs
theorem jI (slices:List (List Int)) {h:ax} {a:List Int} (e:bk slices=some a):
  cp CT 161 [.cv (.val (.sl (List.map (eL eI) slices)))] h fun o h'=>o=[.cv (.row 3 (List.map eI a))]∧h'=h:=by
 refine bv Tryz.func161 fun hwf hu=>?_
 obtain ⟨D,hD,hr⟩:=Holds.one e
 dsimp only[bk]at hr
 change aR _ _ _ _ _ ⟨[(0,.cv (.val (.sl (List.map (eL eI) slices))))],h.on []⟩
 iterate 2 refine A_s ?_
 refine aj ?_
 refine A_s ?_
 refine w_K (D:=D) (fun xX:Int=>⟨[(0,.cv (.val (.sl (List.map (eL eI) slices)))),(3,.cv (.val (.int .i64 xX)))],h.on []⟩) (fun xX:Int=>bk.k1 slices xX) (fun xX s' hr ht=>?_) ?_
 ·obtain ⟨size,rfl⟩:∃ z,z=xX:=⟨xX,rfl⟩
  dsimp only[bk.k1]at hr ht
  refine (eO ht ?_)
  refine aj ?_
  refine bE ?_
  refine aw 1 ?_
  obtain ⟨r,eF1,hr⟩:=hr.bind
  refine be (out:=?o_eF1) (hp:=?p_eF1) ?c_eF1 ?d_eF1 ?_
  case c_eF1=>exact ky [] size eF1
  case d_eF1=>rfl
  refine ae ?_
  refine w_n ?_
  refine aj ?_
  refine A_s ?_
  refine w_K (D:=D) (fun xX:List Int=>⟨[(6,.cv (.row 3 (List.map eI xX)))],h.on []⟩) (fun xX:List Int=>bk.k2 xX) (fun xX s' hr ht=>?_) ?_
  ·obtain ⟨newslice,rfl⟩:∃ z,z=xX:=⟨xX,rfl⟩
   dsimp only[bk.k2]at hr ht
   refine (eO ht ?_)
   refine A_s ?_
   refine bu ?_
   obtain rfl:=hD _ hr
   exact (ba (ai (os':=[]) (sl:=[(2,.cv (.row 3 (List.map eI newslice)))]) hwf) ⟨rfl,aK hwf⟩)
  ·refine aI ?_
   refine cI (fun xX:(List Int×Int)=>⟨[(6,.cv (.row 3 (List.map eI xX.1))),(25,.cv (.val (.sl (List.map (eL eI) slices)))),(26,.cv (.val (.int .i64 (slices.length:Int)))),(27,.cv (.val (.int .i64 xX.2)))],h.on []⟩) hr (ai hwf) (fun W1 xX hr=>?_)
   obtain ⟨newslice1,v⟩:=xX
   dsimp only[bk.b1]at hr
   refine A_s ?_
   refine aj ?_
   refine au hr (fun cF2 hr=>?_) (fun cF2 hr=>?_)
   ·refine aL ?_
    refine w_n ?_
    refine aj ?_
    refine aI ?_
    refine aj ?_
    obtain ⟨xs,nF3,eF4,gF5,hr⟩:=hr.idx
    refine ah ?_
    refine w_n ?_
    obtain ⟨nF6,hr⟩:=hr.room
    refine ah ?_
    refine (eY (w_n ?_))
    refine ah ?_
    exact (w_k ⟨((newslice1++xs),(IntKind.i64.wrap (v+(1:Int)))),hr,(ai hwf)⟩)
   ·refine cG ?_
    exact (dG (dG (iy (w_k ⟨newslice1,(hr).map,(ai hwf)⟩))))
 ·refine aI ?_
  refine cI (fun xX:(Int×Int)=>⟨[(0,.cv (.val (.sl (List.map (eL eI) slices)))),(3,.cv (.val (.int .i64 xX.1))),(9,.cv (.val (.sl (List.map (eL eI) slices)))),(10,.cv (.val (.int .i64 (slices.length:Int)))),(11,.cv (.val (.int .i64 xX.2)))],h.on []⟩) hr (ai hwf) (fun W2 xX hr=>?_)
  obtain ⟨size1,v1⟩:=xX
  dsimp only[bk.b2]at hr
  refine A_s ?_
  refine aj ?_
  refine au hr (fun cF7 hr=>?_) (fun cF7 hr=>?_)
  ·refine aL ?_
   refine w_n ?_
   refine aj ?_
   refine aI ?_
   refine aj ?_
   obtain ⟨xs1,nF8,eF9,gF10,hr⟩:=hr.idx
   refine ah ?_
   refine w_n ?_
   iterate 2 refine A_s ?_
   refine au hr (fun cF11 hr=>?_) (fun cF11 hr=>?_)
   ·exact hr.elim
   ·refine aL ?_
    refine (eY (w_n ?_))
    refine ah ?_
    exact (w_k ⟨((IntKind.i64.wrap (size1+(xs1.length:Int))),(IntKind.i64.wrap (v1+(1:Int)))),hr,(ai hwf)⟩)
  ·refine cG ?_
   exact (dG (dG (iy (w_k ⟨size1,(hr).map,(ai hwf)⟩))))
theorem sd (at_:List Int) {h:ax} {a:Str} (e:dK at_=some a):
  cp CT 158 [.cv (.val (.sl (List.map eI at_)))] h fun o h'=>o=[.cv (.val (.str (bs a)))]∧h'=h:=by
 refine bv Tryz.func158 fun hwf hu=>?_
 obtain ⟨D,hD,hr⟩:=Holds.one e
 dsimp only[dK]at hr
 change aR _ _ _ _ _ ⟨[(0,.cv (.val (.sl (List.map eI at_))))],h.on []⟩
 iterate 2 refine A_s ?_
 refine aj ?_
 refine A_s ?_
 refine w_K (D:=D) (fun xX:List UInt8=>⟨[(3,.cv (.row 5 (List.map eU xX)))],h.on []⟩) (fun xX:List UInt8=>dK.k1 xX) (fun xX s' hr ht=>?_) ?_
 ·obtain ⟨b,rfl⟩:∃ z,z=xX:=⟨xX,rfl⟩
  dsimp only[dK.k1]at hr ht
  refine (eO ht ?_)
  refine A_s ?_
  refine bu ?_
  obtain rfl:=hD _ hr
  exact (ba (ai (os':=[]) (sl:=[(2,.cv (.val (.str (bs b))))]) hwf) ⟨rfl,aK hwf⟩)
 ·refine aI ?_
  refine cI (fun xX:(List UInt8×Int)=>⟨[(3,.cv (.row 5 (List.map eU xX.1))),(6,.cv (.val (.sl (List.map eI at_)))),(7,.cv (.val (.int .i64 (at_.length:Int)))),(8,.cv (.val (.int .i64 xX.2)))],h.on []⟩) hr (ai hwf) (fun W1 xX hr=>?_)
  obtain ⟨b1,v⟩:=xX
  dsimp only[dK.b1]at hr
  refine A_s ?_
  refine aj ?_
  refine au hr (fun cF1 hr=>?_) (fun cF1 hr=>?_)
  ·refine aL ?_
   refine w_n ?_
   refine aj ?_
   refine aI ?_
   refine aj ?_
   obtain ⟨n,nF2,eF3,gF4,hr⟩:=hr.idx
   refine ah ?_
   refine w_n ?_
   obtain ⟨nF5,hr⟩:=hr.room
   refine mO rfl pw ?_
   refine (eY (w_n ?_))
   refine ah ?_
   exact (w_k ⟨((b1++([(u8 (IntKind.u8.wrap (shR .i64 n (8:Int)))),(u8 (IntKind.u8.wrap n))])),(IntKind.i64.wrap (v+(1:Int)))),hr,(ai hwf)⟩)
  ·refine cG ?_
   exact (dG (dG (iy (w_k ⟨b1,(hr).map,(ai hwf)⟩))))
theorem jt (at_:List Int) (p1:List (Str×Int)) (p2:List (List Int)) (l1:Nat) (l1m0:Nat) (l2:Nat) {h:ax} (ha1:h.at_ l1=some (.cells [.val (.map (some (l1m0)))])) (ha1m0:h.at_ l1m0=some (.map 9 (eZ eS eI p1))) (ha2:h.at_ l2=some (.cells [.row 26 (List.map (eL eI) p2)])) (hn1_1m0:l1≠l1m0) (hn1_2:l1≠l2) (hn1m0_2:l1m0≠l2) {a:(Int×List (Str×Int)×List (List Int))} (e:dc at_ p1 p2=some a):
  cp CT 157 [.cv (.val (.sl (List.map eI at_))),.cv (.val (.ptr (some (l1,0)))),.cv (.val (.ptr (some (l2,0))))] h fun o h'=>o=[.cv (.val (.int .i64 a.1))]∧h'=((h.upd l1m0 (.map 9 (eZ eS eI a.2.1))).upd l2 (.cells [.row 26 (List.map (eL eI) a.2.2)])):=by
 refine bv Tryz.func157 fun hwf hu=>?_
 have hl1:=(hwf _ _ ha1).1
 have kl1:=lQ hl1
 have hl1m0:=(hwf _ _ ha1m0).1
 have kl1m0:=lQ hl1m0
 have hl2:=(hwf _ _ ha2).1
 have kl2:=lQ hl2
 have ku1:=abz hl1 ha1
 have ku1m0:=abz hl1m0 ha1m0
 have ku2:=abz hl2 ha2
 have kp1_1m0:=ajm hn1_1m0
 have kp1_2:=ajm hn1_2
 have kp1m0_2:=ajm hn1m0_2
 have kk1_1m0:=axQ hn1_1m0 ha1m0
 obtain ⟨D,hD,hr⟩:=Holds.one e
 dsimp only[dc]at hr
 change aR _ _ _ _ _ ⟨[(0,.cv (.val (.sl (List.map eI at_)))),(1,.cv (.val (.ptr (some (l1,0))))),(2,.cv (.val (.ptr (some (l2,0)))))],h.on []⟩
 refine A_s ?_
 refine aj ?_
 refine bE ?_
 refine aw 1 ?_
 obtain ⟨r,eF1,hr⟩:=hr.bind
 refine be (out:=?o_eF1) (hp:=?p_eF1) ?c_eF1 ?d_eF1 ?_
 case c_eF1=>exact sd at_ eF1
 case d_eF1=>rfl
 refine ae ?_
 refine w_n ?_
 refine A_s ?_
 refine aj ?_
 refine A_s ?_
 refine w_K (D:=D) (fun xX:(Int×List (Str×Int)×List (List Int))=>⟨[(6,.cv (.val (.int .i64 xX.1)))],((h.upd l1m0 (.map 9 (eZ eS eI xX.2.1))).upd l2 (.cells [.row 26 (List.map (eL eI) xX.2.2)])).on []⟩) (fun xX:(Int×List (Str×Int)×List (List Int))=>dc.k1 xX.1 xX.2.1 xX.2.2) (fun xX s' hr ht=>?_) ?_
 ·obtain ⟨s,m,v⟩:=xX
  dsimp only[dc.k1]at hr ht
  refine (eO ht ?_)
  refine A_s ?_
  refine bu ?_
  obtain rfl:=hD _ hr
  exact (ba (ai (os':=[]) (sl:=[(4,.cv (.val (.int .i64 s)))]) (h:=((h.upd l1m0 (.map 9 (eZ eS eI m))).upd l2 (.cells [.row 26 (List.map (eL eI) v)]))) (eW (eW hwf hl1m0) hl2)) ⟨rfl,aK (eW (eW hwf hl1m0) hl2)⟩)
 ·refine au hr (fun cF2 hr=>?_) (fun cF2 hr=>?_)
  ·refine aj ?_
   refine ah ?_
   refine w_n ?_
   refine cW [0,1,2,3,4,5,6,7,8] (by rfl) ?_
   obtain ⟨nF3,hr⟩:=hr.room
   refine bV [0,1,2,3,4,5] [5,4,3,2,1,0] ?_
   refine dp [2,1,0] ?_
   refine dp [] ?_
   refine dp [] ?_
   refine dw ?_
   exact (w_k ⟨((p2.length:Int),(iW r (p2.length:Int) p1),(p2++([at_]))),hr,(ai (eW (eW hwf hl1m0) hl2))⟩)
  ·refine aL ?_
   exact (w_k ⟨(((nh r p1).getD (0:Int)),p1,p2),hr,(ai (eW (eW hwf hl1m0) hl2))⟩)
theorem qc (a_:cu) (masks:List Int) (free:Bool) (limit:Int) {h:ax} {a:(fa×Int)} (e:aZ a_ masks free limit=some a):
  cp CT 88 [.cv (.val (.agg [.bool a_.Null,.sl (List.map eI a_.Sets),.sl (List.map eI a_.First),.sl (List.map eI a_.Last),.sl (List.map (eL eI) a_.Follow)])),.cv (.val (.sl (List.map (eK .u64) masks))),.cv (.val (.bool free)),.cv (.val (.int .i64 limit))] h fun o h'=>o=[.cv (.val (.agg [.sl (List.map (eL eI) a.1.Next),.sl (List.map eB a.1.Final)])),.cv (.val (.int .i64 a.2))]∧h'=h:=by
 refine bv Tryz.func88 fun hwf hu=>?_
 obtain ⟨D,hD,hr⟩:=Holds.one e
 dsimp only[aZ]at hr
 change aR _ _ _ _ _ ⟨[(0,.cv (.val (.agg [.bool a_.Null,.sl (List.map eI a_.Sets),.sl (List.map eI a_.First),.sl (List.map eI a_.Last),.sl (List.map (eL eI) a_.Follow)]))),(1,.cv (.val (.sl (List.map (eK .u64) masks)))),(2,.cv (.val (.bool free))),(3,.cv (.val (.int .i64 limit)))],h.on []⟩
 refine A_s ?_
 refine aj ?_
 refine cq (sj:=⟨[(1,.cv (.val (.sl (List.map (eK .u64) masks)))),(2,.cv (.val (.bool free))),(3,.cv (.val (.int .i64 limit))),(4,.cv (.val (.ptr (some (h.n+0,0))))),(8,.cv (.val (.ptr (some (h.n+1,0))))),(34,.cv (.val (.bool ((decide ((masks.length:Int) < (1:Int)))||((decide ((masks.length:Int) > (200:Int)))||((decide (limit < (1:Int)))||(decide (limit > (5000:Int)))))))))],h.on [some (.cells [.val (.bool a_.Null),.val (.sl (List.map eI a_.Sets)),.val (.sl (List.map eI a_.First)),.val (.sl (List.map eI a_.Last)),.val (.sl (List.map (eL eI) a_.Follow))]),some (.cells [.nil,.nil])]⟩) (bE ?_) ?_
 ·refine aw 4 ?_
  rcases Bool.eq_false_or_eq_true (decide ((masks.length:Int) < (1:Int)))with cF1 | cF1
  ·refine ae ?_
   exact w_k (ai hwf)
  ·refine aw 5 ?_
   rcases Bool.eq_false_or_eq_true (decide ((masks.length:Int) > (200:Int)))with cF2 | cF2
   ·refine ae ?_
    exact w_k (ai hwf)
   ·refine aw 4 ?_
    rcases Bool.eq_false_or_eq_true (decide (limit < (1:Int)))with cF3 | cF3
    ·refine ae ?_
     exact w_k (ai hwf)
    ·refine ae ?_
     exact w_k (ai hwf)
 refine au hr (fun cF4 hr=>?_) (fun cF4 hr=>?_)
 ·refine aj ?_
  refine ah ?_
  refine w_n ?_
  refine bu ?_
  obtain rfl:=hD _ hr
  exact (cw (fq (ai (os':=[none,some (.cells [.val (.sl (List.map (eL eI) ([]:List (List Int)))),.val (.sl (List.map eB ([]:List Bool)))])]) (sl:=[(8,.cv (.val (.ptr (some (h.n+1,0))))),(9,.cv (.val (.int .i64 (1:Int))))]) hwf) (by simp (disch:=(apply bJ.mk;decide)) only[go_sem,Nat.reduceAdd,Nat.reduceLT,Nat.reduceMul,Nat.reduceLeDiff,Int.reduceToNat,Int.reduceLT,Int.reduceLE,Tryz.results88,af qd,dV,eT.eq_2,df,cF4]) (Drops.on (os:=[none,some (.cells [.val (.sl (List.map (eL eI) ([]:List (List Int)))),.val (.sl (List.map eB ([]:List Bool)))])]) (os':=[]) hwf (Nat.le_refl _) (by simp (disch:=(apply bJ.mk;decide)) only[go_sem,Nat.reduceAdd,Nat.reduceLT,Nat.reduceMul,Nat.reduceLeDiff,Int.reduceToNat,Int.reduceLT,Int.reduceLE,cF4])) ⟨rfl,aK hwf⟩))
 ·refine aL ?_
  refine w_n ?_
  iterate 4 refine A_s ?_
  refine aj ?_
  refine sO (s1:=⟨[(1,.cv (.val (.sl (List.map (eK .u64) masks)))),(2,.cv (.val (.bool free))),(3,.cv (.val (.int .i64 limit))),(4,.cv (.val (.ptr (some (h.n+0,0))))),(8,.cv (.val (.ptr (some (h.n+1,0))))),(10,.cv (.val (.ptr (some (h.n+2,0))))),(11,.cv (.val (.ptr (some (h.n+3,0))))),(13,.cv (.val (.fn 157 [] [.ptr (some (h.n+5,0)),.ptr (some (h.n+3,0))])))],h.on [some (.cells [.val (.bool a_.Null),.val (.sl (List.map eI a_.Sets)),.val (.sl (List.map eI a_.First)),.val (.sl (List.map eI a_.Last)),.val (.sl (List.map (eL eI) a_.Follow))]),some (.cells [.nil,.nil]),some (.cells [.nil,.nil]),some (.cells [.row 26 (List.map (eL eI) [])]),some (.map 9 (eZ eS eI [])),some (.cells [.val (.map (some (h.n+4)))])]⟩) (ai hwf) ?_
  refine bE ?_
  refine aw 1 ?_
  obtain ⟨r,eF5,hr⟩:=hr.bind
  refine be (out:=?o_eF5) (hp:=?p_eF5) ?c_eF5 ?d_eF5 ?_
  case c_eF5=>exact kB  eF5
  case d_eF5=>rfl
  obtain ⟨r1,eF6,hr⟩:=hr.bind
  refine be (out:=?o_eF6) (hp:=?p_eF6) ?c_eF6 ?d_eF6 ?_
  case c_eF6=>(refine jt r [] [] (h.n+5) (h.n+4) (h.n+3) ?_ ?_ ?_ ?_ ?_ ?_ eF6;(simp (disch:=(apply bJ.mk;decide)) only[go_sem,Nat.reduceAdd,Nat.reduceLT,Nat.reduceMul,Nat.reduceLeDiff,Int.reduceToNat,Int.reduceLT,Int.reduceLE]);(simp (disch:=(apply bJ.mk;decide)) only[go_sem,Nat.reduceAdd,Nat.reduceLT,Nat.reduceMul,Nat.reduceLeDiff,Int.reduceToNat,Int.reduceLT,Int.reduceLE]);(simp (disch:=(apply bJ.mk;decide)) only[go_sem,Nat.reduceAdd,Nat.reduceLT,Nat.reduceMul,Nat.reduceLeDiff,Int.reduceToNat,Int.reduceLT,Int.reduceLE]);(first | omega | assumption | exact Ne.symm (by assumption));(first | omega | assumption | exact Ne.symm (by assumption));(first | omega | assumption | exact Ne.symm (by assumption)))
  case d_eF6=>rfl
  refine de ?_
  refine w_n ?_
  refine aj ?_
  refine A_s ?_
  refine w_K (D:=D) (fun xX:(List (List Int)×List Bool)=>⟨[(8,.cv (.val (.ptr (some (h.n+1,0))))),(10,.cv (.val (.ptr (some (h.n+2,0)))))],h.on [none,some (.cells [.nil,.nil]),some (.cells [.row 26 (List.map (eL eI) xX.1),.row 4 (List.map eB xX.2)])]⟩) (fun xX:(List (List Int)×List Bool)=>aZ.k1 xX.1 xX.2) (fun xX s' hr ht=>?_) ?_
  ·obtain ⟨Next,Final⟩:=xX
   dsimp only[aZ.k1]at hr ht
   refine (eO ht ?_)
   refine aj ?_
   refine sO (.fix _ _ (.cell (h.n+2) 0) 26 _ (by simp (disch:=(apply bJ.mk;decide)) only[go_sem,Nat.reduceAdd,Nat.reduceLT,Nat.reduceMul,Nat.reduceLeDiff,Int.reduceToNat,Int.reduceLT,Int.reduceLE,cF4];rfl) (.refl _)) ?_
   refine sO (.fix _ _ (.cell (h.n+2) 1) 4 _ (by simp (disch:=(apply bJ.mk;decide)) only[go_sem,Nat.reduceAdd,Nat.reduceLT,Nat.reduceMul,Nat.reduceLeDiff,Int.reduceToNat,Int.reduceLT,Int.reduceLE,cF4];rfl) (.refl _)) ?_
   refine ah ?_
   refine w_n ?_
   refine bu ?_
   obtain rfl:=hD _ hr
   exact (fq (ai (os':=[none,some (.cells [.val (.sl (List.map (eL eI) (fa.mk Next Final).Next)),.val (.sl (List.map eB (fa.mk Next Final).Final))])]) (sl:=[(8,.cv (.val (.ptr (some (h.n+1,0))))),(9,.cv (.val (.int .i64 (0:Int))))]) hwf) (by simp (disch:=(apply bJ.mk;decide)) only[go_sem,Nat.reduceAdd,Nat.reduceLT,Nat.reduceMul,Nat.reduceLeDiff,Int.reduceToNat,Int.reduceLT,Int.reduceLE,Tryz.results88,af qd,dV,eT.eq_2,df,cF4]) (Drops.on (os:=[none,some (.cells [.val (.sl (List.map (eL eI) (fa.mk Next Final).Next)),.val (.sl (List.map eB (fa.mk Next Final).Final))])]) (os':=[]) hwf (Nat.le_refl _) (by simp (disch:=(apply bJ.mk;decide)) only[go_sem,Nat.reduceAdd,Nat.reduceLT,Nat.reduceMul,Nat.reduceLeDiff,Int.reduceToNat,Int.reduceLT,Int.reduceLE,cF4])) ⟨rfl,aK hwf⟩)
  ·refine aI ?_
   refine cI (fun xX:(Int×List (List Int)×List Bool×List (List Int)×List (Str×Int))=>⟨[(1,.cv (.val (.sl (List.map (eK .u64) masks)))),(2,.cv (.val (.bool free))),(3,.cv (.val (.int .i64 limit))),(4,.cv (.val (.ptr (some (h.n+0,0))))),(8,.cv (.val (.ptr (some (h.n+1,0))))),(10,.cv (.val (.ptr (some (h.n+2,0))))),(11,.cv (.val (.ptr (some (h.n+3,0))))),(13,.cv (.val (.fn 157 [] [.ptr (some (h.n+5,0)),.ptr (some (h.n+3,0))]))),(14,.cv (.val (.int .i64 xX.1)))],h.on [some (.cells [.val (.bool a_.Null),.val (.sl (List.map eI a_.Sets)),.val (.sl (List.map eI a_.First)),.val (.sl (List.map eI a_.Last)),.val (.sl (List.map (eL eI) a_.Follow))]),some (.cells [.nil,.nil]),some (.cells [.row 26 (List.map (eL eI) xX.2.1),.row 4 (List.map eB xX.2.2.1)]),some (.cells [.row 26 (List.map (eL eI) xX.2.2.2.1)]),some (.map 9 (eZ eS eI xX.2.2.2.2)),some (.cells [.val (.map (some (h.n+4)))])]⟩) hr (ai hwf) (fun W1 xX hr=>?_)
   obtain ⟨s,Next1,Final1,v1,m⟩:=xX
   dsimp only[aZ.b1]at hr
   refine aj ?_
   refine A_s ?_
   refine au hr (fun cF7 hr=>?_) (fun cF7 hr=>?_)
   ·refine aL ?_
    refine w_n ?_
    refine aj ?_
    refine w_K (D:=(Aft W1 D)) (fun xX:(List (List Int)×List Bool×List (List Int)×List (Str×Int))=>⟨[(1,.cv (.val (.sl (List.map (eK .u64) masks)))),(2,.cv (.val (.bool free))),(3,.cv (.val (.int .i64 limit))),(4,.cv (.val (.ptr (some (h.n+0,0))))),(8,.cv (.val (.ptr (some (h.n+1,0))))),(10,.cv (.val (.ptr (some (h.n+2,0))))),(11,.cv (.val (.ptr (some (h.n+3,0))))),(13,.cv (.val (.fn 157 [] [.ptr (some (h.n+5,0)),.ptr (some (h.n+3,0))]))),(14,.cv (.val (.int .i64 s)))],h.on [some (.cells [.val (.bool a_.Null),.val (.sl (List.map eI a_.Sets)),.val (.sl (List.map eI a_.First)),.val (.sl (List.map eI a_.Last)),.val (.sl (List.map (eL eI) a_.Follow))]),some (.cells [.nil,.nil]),some (.cells [.row 26 (List.map (eL eI) xX.1),.row 4 (List.map eB xX.2.1)]),some (.cells [.row 26 (List.map (eL eI) xX.2.2.1)]),some (.map 9 (eZ eS eI xX.2.2.2)),some (.cells [.val (.map (some (h.n+4)))])]⟩) (fun xX:(List (List Int)×List Bool×List (List Int)×List (Str×Int))=>aZ.k2 s xX.1 xX.2.1 xX.2.2.1 xX.2.2.2) (fun xX s' hr ht=>?_) ?_
    ·obtain ⟨Next2,Final2,v2,m1⟩:=xX
     dsimp only[aZ.k2]at hr ht
     refine (eO ht ?_)
     refine ah ?_
     exact (w_k ⟨((IntKind.i64.wrap (s+(1:Int))),Next2,Final2,v2,m1),hr,(ai hwf)⟩)
    ·refine aI ?_
     refine A_s ?_
     refine aj ?_
     refine A_s ?_
     refine w_K (D:=(Aft W1 D)) (fun xX:(List Int×List (List Int)×List (Str×Int))=>⟨[(1,.cv (.val (.sl (List.map (eK .u64) masks)))),(2,.cv (.val (.bool free))),(3,.cv (.val (.int .i64 limit))),(4,.cv (.val (.ptr (some (h.n+0,0))))),(8,.cv (.val (.ptr (some (h.n+1,0))))),(10,.cv (.val (.ptr (some (h.n+2,0))))),(11,.cv (.val (.ptr (some (h.n+3,0))))),(13,.cv (.val (.fn 157 [] [.ptr (some (h.n+5,0)),.ptr (some (h.n+3,0))]))),(14,.cv (.val (.int .i64 s))),(15,.cv (.row 3 (List.map eI xX.1)))],h.on [some (.cells [.val (.bool a_.Null),.val (.sl (List.map eI a_.Sets)),.val (.sl (List.map eI a_.First)),.val (.sl (List.map eI a_.Last)),.val (.sl (List.map (eL eI) a_.Follow))]),some (.cells [.nil,.nil]),some (.cells [.row 26 (List.map (eL eI) Next1),.row 4 (List.map eB Final1)]),some (.cells [.row 26 (List.map (eL eI) xX.2.1)]),some (.map 9 (eZ eS eI xX.2.2)),some (.cells [.val (.map (some (h.n+4)))])]⟩) (fun xX:(List Int×List (List Int)×List (Str×Int))=>aZ.k3 a_ s Next1 Final1 xX.1 xX.2.1 xX.2.2) (fun xX s' hr ht=>?_) ?_
     ·obtain ⟨row,v3,m2⟩:=xX
      dsimp only[aZ.k3]at hr ht
      refine (eO ht ?_)
      refine sO (.fix _ _ (.slot 15) 3 _ (by simp (disch:=(apply bJ.mk;decide)) only[go_sem,Nat.reduceAdd,Nat.reduceLT,Nat.reduceMul,Nat.reduceLeDiff,Int.reduceToNat,Int.reduceLT,Int.reduceLE,cF4,cF7];rfl) (.refl _)) ?_
      refine cW [0,1,2,3,5,6,7,8,9,10,11,4,15,12,13,14,16,17,18] (by rfl) ?_
      obtain ⟨xs,nF8,eF9,gF10,hr⟩:=hr.idx
      obtain ⟨nF11,hr⟩:=hr.room
      refine bV [0,1,2,3,5,6,7,8,9,10,11] [11,10,9,8,7,6,5,3,2,1,0] ?_
      refine dp [11,10,9,8,7,6,5] ?_
      refine bV [15] [15,11,10,9,8,7,6,5] ?_
      obtain ⟨r2,eF12,hr⟩:=hr.bind
      refine arK (out:=?o_SeF12) rfl (by simp (disch:=(apply bJ.mk;decide)) only[go_sem,Nat.reduceAdd,Nat.reduceLT,Nat.reduceMul,Nat.reduceLeDiff,Int.reduceToNat,Int.reduceLT,Int.reduceLE,Option.getD_some,nF8,eF9,gF10,nF11]) rfl (by simp (disch:=(apply bJ.mk;decide)) only[go_sem,Nat.reduceAdd,Nat.reduceLT,Nat.reduceMul,Nat.reduceLeDiff,Int.reduceToNat,Int.reduceLT,Int.reduceLE,Option.getD_some,nF8,eF9,gF10,nF11];rfl) (by simp (disch:=(apply bJ.mk;decide)) only[go_sem,Nat.reduceAdd,Nat.reduceLT,Nat.reduceMul,Nat.reduceLeDiff,Int.reduceToNat,Int.reduceLT,Int.reduceLE,Option.getD_some,nF8,eF9,gF10,nF11];rfl) (by rfl) (by simp (disch:=(apply bJ.mk;decide)) only[go_sem,Nat.reduceAdd,Nat.reduceLT,Nat.reduceMul,Nat.reduceLeDiff,Int.reduceToNat,Int.reduceLT,Int.reduceLE,Option.getD_some,nF8,eF9,gF10,nF11]) ?c_SeF12 ?d_SeF12 ?_ (pend':=[15,6,5])
      case c_SeF12=>exact su a_ xs eF12
      case d_SeF12=>rfl
      obtain ⟨nF13,hr⟩:=hr.room
      refine bV [13] [13,15,6,5] ?_
      refine dp [15] ?_
      refine dp [] ?_
      refine bV [17] [17] ?_
      refine dp [] ?_
      refine dw ?_
      exact (eY (w_k ⟨((Next1++([row])),(Final1++([r2])),v3,m2),hr,(ai hwf)⟩))
     ·refine aI ?_
      refine cI (fun xX:(List Int×Int×List (List Int)×List (Str×Int))=>⟨[(1,.cv (.val (.sl (List.map (eK .u64) masks)))),(2,.cv (.val (.bool free))),(3,.cv (.val (.int .i64 limit))),(4,.cv (.val (.ptr (some (h.n+0,0))))),(8,.cv (.val (.ptr (some (h.n+1,0))))),(10,.cv (.val (.ptr (some (h.n+2,0))))),(11,.cv (.val (.ptr (some (h.n+3,0))))),(13,.cv (.val (.fn 157 [] [.ptr (some (h.n+5,0)),.ptr (some (h.n+3,0))]))),(14,.cv (.val (.int .i64 s))),(15,.cv (.row 3 (List.map eI xX.1))),(47,.cv (.val (.sl (List.map (eK .u64) masks)))),(48,.cv (.val (.int .i64 (masks.length:Int)))),(49,.cv (.val (.int .i64 xX.2.1)))],h.on [some (.cells [.val (.bool a_.Null),.val (.sl (List.map eI a_.Sets)),.val (.sl (List.map eI a_.First)),.val (.sl (List.map eI a_.Last)),.val (.sl (List.map (eL eI) a_.Follow))]),some (.cells [.nil,.nil]),some (.cells [.row 26 (List.map (eL eI) Next1),.row 4 (List.map eB Final1)]),some (.cells [.row 26 (List.map (eL eI) xX.2.2.1)]),some (.map 9 (eZ eS eI xX.2.2.2)),some (.cells [.val (.map (some (h.n+4)))])]⟩) hr (ai hwf) (fun W2 xX hr=>?_)
      obtain ⟨row1,v4,v5,m3⟩:=xX
      dsimp only[aZ.b2]at hr
      refine A_s ?_
      refine aj ?_
      refine au hr (fun cF14 hr=>?_) (fun cF14 hr=>?_)
      ·refine aL ?_
       refine w_n ?_
       refine aj ?_
       refine aI ?_
       refine aj ?_
       obtain ⟨n,nF15,eF16,gF17,hr⟩:=hr.idx
       refine ah ?_
       refine w_n ?_
       refine aj ?_
       refine cW [0,1,2,3,4,5,6,7] (by rfl) ?_
       obtain ⟨xs1,nF18,eF19,gF20,hr⟩:=hr.idx
       refine bV [0,1,2,3,4,5] [5,4,3,2,1,0] ?_
       obtain ⟨r3,eF21,hr⟩:=hr.bind
       refine dI [] (out:=?o_eF21) (hp:=?p_eF21) ?c_eF21 ?d_eF21 ?_
       case c_eF21=>exact qM a_ xs1 n eF21
       case d_eF21=>rfl
       refine dp [] ?_
       refine dw ?_
       refine w_n ?_
       refine aj ?_
       refine A_s ?_
       refine w_K (D:=(Aft W2 (Aft W1 D))) (fun xX:List Int=>⟨[(1,.cv (.val (.sl (List.map (eK .u64) masks)))),(2,.cv (.val (.bool free))),(3,.cv (.val (.int .i64 limit))),(4,.cv (.val (.ptr (some (h.n+0,0))))),(8,.cv (.val (.ptr (some (h.n+1,0))))),(10,.cv (.val (.ptr (some (h.n+2,0))))),(11,.cv (.val (.ptr (some (h.n+3,0))))),(13,.cv (.val (.fn 157 [] [.ptr (some (h.n+5,0)),.ptr (some (h.n+3,0))]))),(14,.cv (.val (.int .i64 s))),(15,.cv (.row 3 (List.map eI row1))),(18,.cv (.val (.sl (List.map eI xX)))),(47,.cv (.val (.sl (List.map (eK .u64) masks)))),(48,.cv (.val (.int .i64 (masks.length:Int)))),(49,.cv (.val (.int .i64 v4)))],h.on [some (.cells [.val (.bool a_.Null),.val (.sl (List.map eI a_.Sets)),.val (.sl (List.map eI a_.First)),.val (.sl (List.map eI a_.Last)),.val (.sl (List.map (eL eI) a_.Follow))]),some (.cells [.nil,.nil]),some (.cells [.row 26 (List.map (eL eI) Next1),.row 4 (List.map eB Final1)]),some (.cells [.row 26 (List.map (eL eI) v5)]),some (.map 9 (eZ eS eI m3)),some (.cells [.val (.map (some (h.n+4)))])]⟩) (fun xX:List Int=>aZ.k4 limit row1 v4 v5 m3 xX) (fun xX s' hr ht=>?_) ?_
       ·obtain ⟨at_,rfl⟩:∃ z,z=xX:=⟨xX,rfl⟩
        dsimp only[aZ.k4]at hr ht
        refine (eO ht ?_)
        refine aj ?_
        refine bE ?_
        refine aw 3 ?_
        obtain ⟨r4,eF22,hr⟩:=hr.bind
        refine be (out:=?o_eF22) (hp:=?p_eF22) ?c_eF22 ?d_eF22 ?_
        case c_eF22=>(refine jt at_ m3 v5 (h.n+5) (h.n+4) (h.n+3) ?_ ?_ ?_ ?_ ?_ ?_ eF22;(simp (disch:=(apply bJ.mk;decide)) only[go_sem,Nat.reduceAdd,Nat.reduceLT,Nat.reduceMul,Nat.reduceLeDiff,Int.reduceToNat,Int.reduceLT,Int.reduceLE]);(simp (disch:=(apply bJ.mk;decide)) only[go_sem,Nat.reduceAdd,Nat.reduceLT,Nat.reduceMul,Nat.reduceLeDiff,Int.reduceToNat,Int.reduceLT,Int.reduceLE]);(simp (disch:=(apply bJ.mk;decide)) only[go_sem,Nat.reduceAdd,Nat.reduceLT,Nat.reduceMul,Nat.reduceLeDiff,Int.reduceToNat,Int.reduceLT,Int.reduceLE]);(first | omega | assumption | exact Ne.symm (by assumption));(first | omega | assumption | exact Ne.symm (by assumption));(first | omega | assumption | exact Ne.symm (by assumption)))
        case d_eF22=>rfl
        obtain ⟨nF23,hr⟩:=hr.room
        refine ae ?_
        refine w_n ?_
        refine A_s ?_
        refine au hr (fun cF24 hr=>?_) (fun cF24 hr=>?_)
        ·refine aj ?_
         refine ah ?_
         refine w_n ?_
         refine bu ?_
         obtain rfl:=hD _ hr
         exact (fQ (cw (cw (fQ (cw (cw (fQ (cw (cw (cw (fQ (cw (cw (fq (ai (os':=[none,some (.cells [.val (.sl (List.map (eL eI) ([]:List (List Int)))),.val (.sl (List.map eB ([]:List Bool)))])]) (sl:=[(8,.cv (.val (.ptr (some (h.n+1,0))))),(9,.cv (.val (.int .i64 (8:Int))))]) hwf) (by simp (disch:=(apply bJ.mk;decide)) only[go_sem,Nat.reduceAdd,Nat.reduceLT,Nat.reduceMul,Nat.reduceLeDiff,Int.reduceToNat,Int.reduceLT,Int.reduceLE,Tryz.results88,af qd,dV,eT.eq_2,df,cF4,cF7,cF14,cF24]) (Drops.on (os:=[none,some (.cells [.val (.sl (List.map (eL eI) ([]:List (List Int)))),.val (.sl (List.map eB ([]:List Bool)))])]) (os':=[]) hwf (Nat.le_refl _) (by simp (disch:=(apply bJ.mk;decide)) only[go_sem,Nat.reduceAdd,Nat.reduceLT,Nat.reduceMul,Nat.reduceLeDiff,Int.reduceToNat,Int.reduceLT,Int.reduceLE,cF4,cF7,cF14,cF24])) ⟨rfl,aK hwf⟩))))))))))))))
        ·refine aL ?_
         refine (eY (w_n ?_))
         refine ah ?_
         exact (w_k ⟨((row1++([r4.1])),(IntKind.i64.wrap (v4+(1:Int))),r4.2.2,r4.2.1),hr,(ai hwf)⟩)
       ·refine au hr (fun cF25 hr=>?_) (fun cF25 hr=>?_)
        ·refine bE ?_
         obtain ⟨r5,eF26,hr⟩:=hr.bind
         refine be (out:=?o_eF26) (hp:=?p_eF26) ?c_eF26 ?d_eF26 ?_
         case c_eF26=>exact kB  eF26
         case d_eF26=>rfl
         refine aw 2 ?_
         obtain ⟨r6,eF27,hr⟩:=hr.bind
         refine be (out:=?o_eF27) (hp:=?p_eF27) ?c_eF27 ?d_eF27 ?_
         case c_eF27=>exact cp.fixd (jI ([r5,r3]) eF27)
         case d_eF27=>rfl
         refine ae ?_
         exact (w_k ⟨r6,hr,(ai hwf)⟩)
        ·refine aL ?_
         exact (w_k ⟨r3,hr,(ai hwf)⟩)
      ·refine cG ?_
       exact (dG (dG (iy (w_k ⟨(row1,v5,m3),(hr).map,(ai hwf)⟩))))
   ·refine cG ?_
    exact (dG (dG (iy (w_k ⟨(Next1,Final1),(hr).map,(ai hwf)⟩))))
theorem nX (s:Int) (p1:Int) (l1:Nat) {h:ax} (ha1:h.at_ l1=some (.cells [.val (.int .i64 p1)])) {a:Bool} (e:eJ s p1=some a):
  cp CT 189 [.cv (.val (.int .i64 s)),.cv (.val (.ptr (some (l1,0))))] h fun o h'=>o=[.cv (.val (.bool a))]∧h'=h:=by
 refine bv Tryz.func189 fun hwf hu=>?_
 have hl1:=(hwf _ _ ha1).1
 have kl1:=lQ hl1
 obtain ⟨D,hD,hr⟩:=Holds.one e
 dsimp only[eJ]at hr
 change aR _ _ _ _ _ ⟨[(0,.cv (.val (.int .i64 s))),(1,.cv (.val (.ptr (some (l1,0)))))],h.on []⟩
 refine A_s ?_
 refine cq (sj:=⟨[(3,.cv (.val (.bool ((decide (s < (0:Int)))||(decide (s≥p1))))))],h.on []⟩) (bE ?_) ?_
 ·refine aw 3 ?_
  rcases Bool.eq_false_or_eq_true (decide (s < (0:Int)))with cF1 | cF1
  ·refine ae ?_
   exact w_k (ai hwf)
  ·refine ae ?_
   exact w_k (ai hwf)
 refine bu ?_
 obtain rfl:=hD _ hr
 exact (ba (ai (os':=[]) (sl:=[(3,.cv (.val (.bool ((decide (s < (0:Int)))||(decide (s≥p1))))))]) hwf) ⟨rfl,aK hwf⟩)
theorem nY (row:List Int) (p1:Int) (p2:Int→Option Bool) (l1:Nat) (fid_p2:FuncId) (caps_p2:List ao) (l2:Nat) {h:ax} (h_p2:∀ os x0 r,p2 x0=some r→cp CT fid_p2 ([.cv (.val (.int .i64 x0))]++jc caps_p2) (h.on os) fun o h'=>o=[.cv (.val (.bool r))]∧h'=h.on os) (d_p2:∀ i,CT.how fid_p2 i= .data) (ha1:h.at_ l1=some (.cells [.val (.int .i64 p1)])) (ha2:h.at_ l2=some (.cells [.val (.fn fid_p2 [] caps_p2)])) (hn1_2:l1≠l2) {a:Bool} (e:fl row p1 p2=some a):
  cp CT 190 [.cv (.val (.sl (List.map eI row))),.cv (.val (.ptr (some (l1,0)))),.cv (.val (.ptr (some (l2,0))))] h fun o h'=>o=[.cv (.val (.bool a))]∧h'=h:=by
 refine bv Tryz.func190 fun hwf hu=>?_
 have u_p2:bG h.n caps_p2:=(hwf _ _ ha2).2.1.2
 have vu_p2:=fun k=>fk (k:=k) u_p2
 have hl1:=(hwf _ _ ha1).1
 have kl1:=lQ hl1
 have hl2:=(hwf _ _ ha2).1
 have kl2:=lQ hl2
 obtain ⟨D,hD,hr⟩:=Holds.one e
 dsimp only[fl]at hr
 change aR _ _ _ _ _ ⟨[(0,.cv (.val (.sl (List.map eI row)))),(1,.cv (.val (.ptr (some (l1,0))))),(2,.cv (.val (.ptr (some (l2,0)))))],h.on []⟩
 refine A_s ?_
 obtain ⟨v,vF3,hr⟩:=hr.bind
 refine cq (sj:=⟨[(4,.cv (.val (.bool v)))],h.on []⟩) (bE ?_) ?_
 ·have hr:=Holds.intro (D:=fun z=>z=v) vF3 rfl
  refine aw 5 ?_
  rcases hr.ite with ⟨cF1,hr⟩ | ⟨cF1,hr⟩
  ·refine aw 2 ?_
   refine iu ?_
   refine ae ?_
   obtain rfl:_=v:=hr
   exact w_k (ai hwf)
  ·refine aw 2 ?_
   obtain ⟨r,eF2,hr⟩:=hr.bind
   refine be (out:=?o_eF2) (hp:=?p_eF2) ?c_eF2 ?d_eF2 ?_
   case c_eF2=>(refine dE row p2 _ _ ?_ ?_ eF2;(exact (fun os x0 r e=>by rw[acL];exact h_p2 _ x0 r e));(exact d_p2))
   case d_eF2=>rfl
   refine ae ?_
   obtain rfl:_=v:=hr
   exact w_k (ai hwf)
 refine bu ?_
 obtain rfl:=hD _ hr
 exact (ba (ai (os':=[]) (sl:=[(4,.cv (.val (.bool v)))]) hwf) ⟨rfl,aK hwf⟩)
theorem ik (s:List (List Int)) (f:(List Int)→Option Bool) (fid_f:FuncId) (caps_f:List ao) {h:ax} (h_f:∀ os x0 r,f x0=some r→cp CT fid_f ([.cv (.val (.sl (List.map eI x0)))]++jc caps_f) (h.on os) fun o h'=>o=[.cv (.val (.bool r))]∧h'=h.on os) (d_f:∀ i,CT.how fid_f i= .data) {a:Int} (e:aT s f=some a):
  cp CT 241 [.cv (.val (.sl (List.map (eL eI) s))),.cv (.val (.fn fid_f [] caps_f))] h fun o h'=>o=[.cv (.val (.int .i64 a))]∧h'=h:=by
 refine bv Tryz.func241 fun hwf hu=>?_
 have u_f:bG h.n caps_f:=(hu (.cv (.val (.fn fid_f [] caps_f))) (by simp)).2
 have vu_f:=fun k=>fk (k:=k) u_f
 obtain ⟨D,hD,hr⟩:=Holds.one e
 dsimp only[aT]at hr
 change aR _ _ _ _ _ ⟨[(0,.cv (.val (.sl (List.map (eL eI) s)))),(1,.cv (.val (.fn fid_f [] caps_f)))],h.on []⟩
 refine A_s ?_
 refine aj ?_
 refine A_s ?_
 refine w_K (D:=D) (fun xX:Unit=>⟨[],h.on []⟩) (fun xX:Unit=>aT.k1) (fun xX s' hr ht=>?_) ?_
 ·dsimp only[aT.k1]at hr ht
  refine (eO ht ?_)
  refine A_s ?_
  refine bu ?_
  obtain rfl:=hD _ hr
  exact (ba (ai (os':=[]) (sl:=[(4,.cv (.val (.int .i64 (-1:Int))))]) hwf) ⟨rfl,aK hwf⟩)
 ·refine aI ?_
  refine cI (fun xX:Int=>⟨[(0,.cv (.val (.sl (List.map (eL eI) s)))),(1,.cv (.val (.fn fid_f [] caps_f))),(7,.cv (.val (.int .i64 (s.length:Int)))),(8,.cv (.val (.int .i64 xX)))],h.on []⟩) hr (ai hwf) (fun W1 xX hr=>?_)
  obtain ⟨v,rfl⟩:∃ z,z=xX:=⟨xX,rfl⟩
  dsimp only[aT.b1]at hr
  refine A_s ?_
  refine aj ?_
  refine au hr (fun cF1 hr=>?_) (fun cF1 hr=>?_)
  ·refine aL ?_
   refine w_n ?_
   refine aj ?_
   refine aI ?_
   refine A_s ?_
   refine aj ?_
   refine bE ?_
   obtain ⟨xs,nF2,eF3,gF4,hr⟩:=hr.idx
   refine aw 5 ?_
   obtain ⟨r,eF5,hr⟩:=hr.bind
   refine be (out:=?o_eF5) (hp:=?p_eF5) ?c_eF5 ?d_eF5 ?_
   case c_eF5=>exact h_f _ _ _ eF5
   case d_eF5=>rfl
   refine de ?_
   refine w_n ?_
   refine au hr (fun cF6 hr=>?_) (fun cF6 hr=>?_)
   ·refine aj ?_
    refine ah ?_
    refine w_n ?_
    refine bu ?_
    obtain rfl:=hD _ hr
    exact (fQ (cw (cw (fQ (cw (cw (ba (ai (os':=[]) (sl:=[(4,.cv (.val (.int .i64 v)))]) hwf) ⟨rfl,aK hwf⟩)))))))
   ·refine aL ?_
    refine (eY (w_n ?_))
    refine ah ?_
    exact (w_k ⟨(IntKind.i64.wrap (v+(1:Int))),hr,(ai hwf)⟩)
  ·refine cG ?_
   exact (dG (dG (iy (w_k ⟨(),(hr).map,(ai hwf)⟩))))
theorem gi (s:List (List Int)) (f:(List Int)→Option Bool) (fid_f:FuncId) (caps_f:List ao) {h:ax} (h_f:∀ os x0 r,f x0=some r→cp CT fid_f ([.cv (.val (.sl (List.map eI x0)))]++jc caps_f) (h.on os) fun o h'=>o=[.cv (.val (.bool r))]∧h'=h.on os) (d_f:∀ i,CT.how fid_f i= .data) {a:Bool} (e:cJ s f=some a):
  cp CT 191 [.cv (.val (.sl (List.map (eL eI) s))),.cv (.val (.fn fid_f [] caps_f))] h fun o h'=>o=[.cv (.val (.bool a))]∧h'=h:=by
 refine bv Tryz.func191 fun hwf hu=>?_
 have u_f:bG h.n caps_f:=(hu (.cv (.val (.fn fid_f [] caps_f))) (by simp)).2
 have vu_f:=fun k=>fk (k:=k) u_f
 obtain ⟨D,hD,hr⟩:=Holds.one e
 dsimp only[cJ]at hr
 change aR _ _ _ _ _ ⟨[(0,.cv (.val (.sl (List.map (eL eI) s)))),(1,.cv (.val (.fn fid_f [] caps_f)))],h.on []⟩
 refine A_s ?_
 refine aj ?_
 refine bE ?_
 refine aw 2 ?_
 obtain ⟨r,eF1,hr⟩:=hr.bind
 refine be (out:=?o_eF1) (hp:=?p_eF1) ?c_eF1 ?d_eF1 ?_
 case c_eF1=>(refine ik s f _ _ ?_ ?_ eF1;(exact (fun os x0 r e=>by rw[acL];exact h_f _ x0 r e));(exact d_f))
 case d_eF1=>rfl
 refine ae ?_
 refine w_n ?_
 refine bu ?_
 obtain rfl:=hD _ hr
 exact (ba (ai (os':=[]) (sl:=[(4,.cv (.val (.bool (decide (r≥(0:Int))))))]) hwf) ⟨rfl,aK hwf⟩)
theorem pK (d:fa) {h:ax} {a:Bool} (e:iM d=some a):
  cp CT 123 [.cv (.val (.agg [.sl (List.map (eL eI) d.Next),.sl (List.map eB d.Final)]))] h fun o h'=>o=[.cv (.val (.bool a))]∧h'=h:=by
 refine bv Tryz.func123 fun hwf hu=>?_
 obtain ⟨D,hD,hr⟩:=Holds.one e
 dsimp only[iM]at hr
 change aR _ _ _ _ _ ⟨[(0,.cv (.val (.agg [.sl (List.map (eL eI) d.Next),.sl (List.map eB d.Final)])))],h.on []⟩
 iterate 2 refine A_s ?_
 refine aj ?_
 refine cq (sj:=⟨[(1,.cv (.val (.ptr (some (h.n+0,0))))),(3,.cv (.val (.ptr (some (h.n+1,0))))),(22,.cv (.val (.bool ((decide ((d.Next.length:Int) < (1:Int)))||((decide ((d.Next.length:Int) > (5000:Int)))||((d.Final.length:Int) != (d.Next.length:Int)))))))],h.on [some (.cells [.val (.sl (List.map (eL eI) d.Next)),.val (.sl (List.map eB d.Final))]),some (.cells [.val (.int .i64 (d.Next.length:Int))])]⟩) (bE ?_) ?_
 ·refine aw 3 ?_
  rcases Bool.eq_false_or_eq_true (decide ((d.Next.length:Int) < (1:Int)))with cF1 | cF1
  ·refine ae ?_
   exact w_k (ai hwf)
  ·refine aw 4 ?_
   rcases Bool.eq_false_or_eq_true (decide ((d.Next.length:Int) > (5000:Int)))with cF2 | cF2
   ·refine ae ?_
    exact w_k (ai hwf)
   ·refine ae ?_
    exact w_k (ai hwf)
 refine au hr (fun cF3 hr=>?_) (fun cF3 hr=>?_)
 ·refine aj ?_
  refine ah ?_
  refine w_n ?_
  refine bu ?_
  obtain rfl:=hD _ hr
  exact (cw (ba (ai (os':=[]) (sl:=[(2,.cv (.val (.bool false)))]) hwf) ⟨rfl,aK hwf⟩))
 ·refine aL ?_
  refine w_n ?_
  refine aj ?_
  obtain ⟨xs,eF4,gF5,hr⟩:=hr.idxK
  refine ah ?_
  refine w_n ?_
  iterate 2 refine A_s ?_
  obtain ⟨v1,vF9,hr⟩:=hr.bind
  refine cq (sj:=⟨[(2,.cv (.val (.bool v1)))],h.on []⟩) (bE ?_) ?_
  ·have hr:=Holds.intro (D:=fun z=>z=v1) vF9 rfl
   refine aw 3 ?_
   rcases hr.ite with ⟨cF6,hr⟩ | ⟨cF6,hr⟩
   ·refine aw 4 ?_
    rcases hr.ite with ⟨cF7,hr⟩ | ⟨cF7,hr⟩
    ·refine aw 3 ?_
     obtain ⟨r,eF8,hr⟩:=hr.bind
     refine be (out:=?o_eF8) (hp:=?p_eF8) ?c_eF8 ?d_eF8 ?_
     case c_eF8=>(refine gi d.Next (fun x0=>fl x0 (xs.length:Int) (fun x0=>eJ x0 (d.Next.length:Int))) _ _ ?_ ?_ eF8;(exact (fun os x0 r e=>nY x0 (xs.length:Int) (fun x0=>eJ x0 (d.Next.length:Int)) (h.n+2) 189 ([.ptr (some (h.n+1,0))]) (h.n+3) (by exact (fun os x0 r e=>nX x0 (d.Next.length:Int) (h.n+1) cE e)) (by exact (fun i=>by simp[CT])) cE cE (by first | omega | assumption | exact Ne.symm (by assumption)) e));(exact (fun i=>by simp[CT])))
     case d_eF8=>rfl
     refine ae ?_
     obtain rfl:_=v1:=hr
     exact w_k (ai hwf)
    ·refine aw 3 ?_
     refine iu ?_
     refine ae ?_
     obtain rfl:_=v1:=hr
     exact w_k (ai hwf)
   ·refine aw 7 ?_
    refine iu ?_
    refine ae ?_
    obtain rfl:_=v1:=hr
    exact w_k (ai hwf)
  refine bu ?_
  obtain rfl:=hD _ hr
  exact (ba (ai (os':=[]) (sl:=[(2,.cv (.val (.bool v1)))]) hwf) ⟨rfl,aK hwf⟩)
theorem tG (kind:List Int) (i:Int) (row:List Int) {h:ax} {a:Str} (e:ee kind i row=some a):
  cp CT 228 [.cv (.val (.sl (List.map eI kind))),.cv (.val (.int .i64 i)),.cv (.val (.sl (List.map eI row)))] h fun o h'=>o=[.cv (.val (.str (bs a)))]∧h'=h:=by
 refine bv Tryz.func228 fun hwf hu=>?_
 obtain ⟨D,hD,hr⟩:=Holds.one e
 dsimp only[ee]at hr
 change aR _ _ _ _ _ ⟨[(0,.cv (.val (.sl (List.map eI kind)))),(1,.cv (.val (.int .i64 i))),(2,.cv (.val (.sl (List.map eI row))))],h.on []⟩
 refine A_s ?_
 refine aj ?_
 refine cW [0,1,2,3,4,5,6,7,8,9,10,11,12] (by rfl) ?_
 obtain ⟨n,nF1,eF2,gF3,hr⟩:=hr.idx
 refine aqi (l:=[0,1,2,3,4,5,6,7,8,9,10,11]) (pend':=[11,10,9,8,7,6,5,4,3,2,1,0]) pw rfl ?_
 refine awl (pend':=[]) rfl cE pw (by rfl) ?_
 refine aqQ cE ?_
 refine w_n ?_
 refine aj ?_
 refine A_s ?_
 refine w_K (D:=D) (fun xX:List UInt8=>⟨[(7,.cv (.row 5 (List.map eU xX)))],h.on []⟩) (fun xX:List UInt8=>ee.k1 xX) (fun xX s' hr ht=>?_) ?_
 ·obtain ⟨b,rfl⟩:∃ z,z=xX:=⟨xX,rfl⟩
  dsimp only[ee.k1]at hr ht
  refine (eO ht ?_)
  refine A_s ?_
  refine bu ?_
  obtain rfl:=hD _ hr
  exact (ba (ai (os':=[]) (sl:=[(6,.cv (.val (.str (bs b))))]) hwf) ⟨rfl,aK hwf⟩)
 ·refine aI ?_
  refine cI (fun xX:(List UInt8×Int)=>⟨[(0,.cv (.val (.sl (List.map eI kind)))),(7,.cv (.row 5 (List.map eU xX.1))),(22,.cv (.val (.sl (List.map eI row)))),(23,.cv (.val (.int .i64 (row.length:Int)))),(24,.cv (.val (.int .i64 xX.2)))],h.on []⟩) hr (ai hwf) (fun W1 xX hr=>?_)
  obtain ⟨b1,v⟩:=xX
  dsimp only[ee.b1]at hr
  refine A_s ?_
  refine aj ?_
  refine au hr (fun cF4 hr=>?_) (fun cF4 hr=>?_)
  ·refine aL ?_
   refine w_n ?_
   refine aj ?_
   refine aI ?_
   refine aj ?_
   obtain ⟨n1,nF5,eF6,gF7,hr⟩:=hr.idx
   refine ah ?_
   refine w_n ?_
   refine cW [0,1,2,3,4,5,6,7,8,9,10,11,12,13,14] (by rfl) ?_
   obtain ⟨n2,nF8,eF9,gF10,hr⟩:=hr.idx
   obtain ⟨nF11,hr⟩:=hr.room
   refine aqi (l:=[0,1,2,3,4,5,6,7,8,9,10,11,12]) (pend':=[12,11,10,9,8,7,6,5,4,3,2,1,0]) pw rfl ?_
   refine awl (pend':=[]) rfl cE pw (by rfl) ?_
   refine awl (pend':=[]) rfl cE pw (by rfl) ?_
   refine aqQ cE ?_
   refine (eY (w_n ?_))
   refine ah ?_
   exact (w_k ⟨((b1++([(u8 (IntKind.u8.wrap (shR .i64 n2 (8:Int)))),(u8 (IntKind.u8.wrap n2))])),(IntKind.i64.wrap (v+(1:Int)))),hr,(ai hwf)⟩)
  ·refine cG ?_
   exact (dG (dG (iy (w_k ⟨b1,(hr).map,(ai hwf)⟩))))
theorem oS (d:fa) {h:ax} {a:List Int} (e:aB d=some a):
  cp CT 163 [.cv (.val (.agg [.sl (List.map (eL eI) d.Next),.sl (List.map eB d.Final)]))] h fun o h'=>o=[.cv (.val (.sl (List.map eI a)))]∧h'=h:=by
 refine bv Tryz.func163 fun hwf hu=>?_
 obtain ⟨D,hD,hr⟩:=Holds.one e
 dsimp only[aB]at hr
 change aR _ _ _ _ _ ⟨[(0,.cv (.val (.agg [.sl (List.map (eL eI) d.Next),.sl (List.map eB d.Final)])))],h.on []⟩
 refine A_s ?_
 refine aj ?_
 obtain ⟨nF1,nF2,hr⟩:=hr.mk
 refine ah ?_
 refine w_n ?_
 refine aj ?_
 refine A_s ?_
 refine w_K (D:=D) (fun xX:List Int=>⟨[(1,.cv (.val (.ptr (some (h.n+0,0))))),(3,.cv (.row 3 (List.map eI xX)))],h.on [some (.cells [.val (.sl (List.map (eL eI) d.Next)),.val (.sl (List.map eB d.Final))])]⟩) (fun xX:List Int=>aB.k1 d xX) (fun xX s' hr ht=>?_) ?_
 ·obtain ⟨kind,rfl⟩:∃ z,z=xX:=⟨xX,rfl⟩
  dsimp only[aB.k1]at hr ht
  refine (eO ht ?_)
  refine A_s ?_
  refine aI ?_
  refine cI (fun xX:(List Int×Int)=>⟨[(1,.cv (.val (.ptr (some (h.n+0,0))))),(3,.cv (.row 3 (List.map eI xX.1))),(5,.cv (.val (.int .i64 xX.2)))],h.on [some (.cells [.val (.sl (List.map (eL eI) d.Next)),.val (.sl (List.map eB d.Final))])]⟩) hr (ai hwf) (fun W1 xX hr=>?_)
  obtain ⟨kind1,many⟩:=xX
  dsimp only[aB.b1]at hr
  refine w_K (D:=(Aft W1 D)) (fun xX:(List Int×Int)=>⟨[(1,.cv (.val (.ptr (some (h.n+0,0))))),(3,.cv (.row 3 (List.map eI xX.1))),(5,.cv (.val (.int .i64 xX.2)))],h.on [some (.cells [.val (.sl (List.map (eL eI) d.Next)),.val (.sl (List.map eB d.Final))])]⟩) (fun xX:(List Int×Int)=>aB.k2 xX.1 xX.2) (fun xX s' hr ht=>?_) ?_
  ·obtain ⟨kind2,many1⟩:=xX
   dsimp only[aB.k2]at hr ht
   exact (w_k ⟨(kind2,many1),hr,(To.trans ht (ai hwf))⟩)
  ·refine aI ?_
   refine A_s ?_
   refine aj ?_
   obtain ⟨nF3,nF4,hr⟩:=hr.mk
   refine ah ?_
   refine w_n ?_
   refine aj ?_
   refine A_s ?_
   refine w_K (D:=(Aft W1 D)) (fun xX:(List Int×List (Str×Int))=>⟨[(1,.cv (.val (.ptr (some (h.n+0,0))))),(5,.cv (.val (.int .i64 many))),(6,.cv (.val (.map (some (h.n+1))))),(7,.cv (.row 3 (List.map eI xX.1)))],h.on [some (.cells [.val (.sl (List.map (eL eI) d.Next)),.val (.sl (List.map eB d.Final))]),some (.map 9 (eZ eS eI xX.2))]⟩) (fun xX:(List Int×List (Str×Int))=>aB.k3 many xX.1 xX.2) (fun xX s' hr ht=>?_) ?_
   ·obtain ⟨next,m⟩:=xX
    dsimp only[aB.k3]at hr ht
    refine (eO ht ?_)
    refine aj ?_
    iterate 2 refine A_s ?_
    refine au hr (fun cF5 hr=>?_) (fun cF5 hr=>?_)
    ·refine aj ?_
     refine ah ?_
     refine w_n ?_
     refine bu ?_
     obtain rfl:=hD _ hr
     exact (cw (fQ (cw (cw (fQ (ba (.fix _ _ (.slot 2) 3 _ pw (ai (os':=[]) (sl:=[(2,.cv (.val (.sl (List.map eI next))))]) hwf)) ⟨rfl,aK hwf⟩))))))
    ·refine aL ?_
     refine w_n ?_
     refine ah ?_
     exact (eY (w_k ⟨(next,(m.length:Int)),hr,(ai hwf)⟩))
   ·refine aI ?_
    refine cI (fun xX:(List Int×List Int×Int×List (Str×Int))=>⟨[(1,.cv (.val (.ptr (some (h.n+0,0))))),(3,.cv (.val (.sl (List.map eI xX.1)))),(5,.cv (.val (.int .i64 many))),(6,.cv (.val (.map (some (h.n+1))))),(7,.cv (.row 3 (List.map eI xX.2.1))),(35,.cv (.val (.int .i64 (kind1.length:Int)))),(36,.cv (.val (.int .i64 xX.2.2.1)))],h.on [some (.cells [.val (.sl (List.map (eL eI) d.Next)),.val (.sl (List.map eB d.Final))]),some (.map 9 (eZ eS eI xX.2.2.2))]⟩) hr (.fix _ _ (.slot 3) 3 _ pw (ai hwf)) (fun W2 xX hr=>?_)
    obtain ⟨kind3,next1,v,m1⟩:=xX
    dsimp only[aB.b2]at hr
    refine A_s ?_
    refine aj ?_
    refine au hr (fun cF6 hr=>?_) (fun cF6 hr=>?_)
    ·refine aL ?_
     refine w_n ?_
     refine aj ?_
     refine aI ?_
     refine A_s ?_
     refine aj ?_
     refine bE ?_
     obtain ⟨xs,nF7,eF8,gF9,hr⟩:=hr.idx
     refine aw 7 ?_
     obtain ⟨r,eF10,hr⟩:=hr.bind
     refine be (out:=?o_eF10) (hp:=?p_eF10) ?c_eF10 ?d_eF10 ?_
     case c_eF10=>exact tG kind3 v xs eF10
     case d_eF10=>rfl
     refine ae ?_
     refine w_n ?_
     refine A_s ?_
     refine aj ?_
     refine A_s ?_
     refine w_K (D:=(Aft W2 (Aft W1 D))) (fun xX:(Int×List (Str×Int))=>⟨[(1,.cv (.val (.ptr (some (h.n+0,0))))),(3,.cv (.val (.sl (List.map eI kind3)))),(5,.cv (.val (.int .i64 many))),(6,.cv (.val (.map (some (h.n+1))))),(7,.cv (.row 3 (List.map eI next1))),(8,.cv (.val (.int .i64 v))),(10,.cv (.val (.int .i64 xX.1))),(35,.cv (.val (.int .i64 (kind1.length:Int)))),(36,.cv (.val (.int .i64 v)))],h.on [some (.cells [.val (.sl (List.map (eL eI) d.Next)),.val (.sl (List.map eB d.Final))]),some (.map 9 (eZ eS eI xX.2))]⟩) (fun xX:(Int×List (Str×Int))=>aB.k4 kind3 next1 v xX.1 xX.2) (fun xX s' hr ht=>?_) ?_
     ·obtain ⟨n,m2⟩:=xX
      dsimp only[aB.k4]at hr ht
      refine (eO ht ?_)
      obtain ⟨n1,nF11,eF12,gF13,hr⟩:=hr.idx
      refine ah ?_
      refine (eY (w_n ?_))
      refine ah ?_
      exact (w_k ⟨(kind3,(List.set next1 (Int.toNat v) n),(IntKind.i64.wrap (v+(1:Int))),m2),hr,(ai hwf)⟩)
     ·refine au hr (fun cF14 hr=>?_) (fun cF14 hr=>?_)
      ·refine aj ?_
       refine ah ?_
       refine w_n ?_
       refine ah ?_
       exact (w_k ⟨((m1.length:Int),(iW r (m1.length:Int) m1)),hr,(ai hwf)⟩)
      ·refine aL ?_
       exact (w_k ⟨(((nh r m1).getD (0:Int)),m1),hr,(ai hwf)⟩)
    ·refine cG ?_
     exact (dG (dG (iy (w_k ⟨(next1,m1),(hr).map,(ai hwf)⟩))))
 ·refine aI ?_
  refine cI (fun xX:(List Int×Int)=>⟨[(1,.cv (.val (.ptr (some (h.n+0,0))))),(3,.cv (.row 3 (List.map eI xX.1))),(17,.cv (.val (.int .i64 ((List.replicate (Int.toNat (d.Next.length:Int)) (0:Int)).length:Int)))),(18,.cv (.val (.int .i64 xX.2)))],h.on [some (.cells [.val (.sl (List.map (eL eI) d.Next)),.val (.sl (List.map eB d.Final))])]⟩) hr (ai hwf) (fun W3 xX hr=>?_)
  obtain ⟨kind4,v1⟩:=xX
  dsimp only[aB.b3]at hr
  refine A_s ?_
  refine aj ?_
  refine au hr (fun cF15 hr=>?_) (fun cF15 hr=>?_)
  ·refine aL ?_
   refine w_n ?_
   refine aj ?_
   refine w_K (D:=(Aft W3 D)) (fun xX:List Int=>⟨[(1,.cv (.val (.ptr (some (h.n+0,0))))),(3,.cv (.row 3 (List.map eI xX))),(17,.cv (.val (.int .i64 ((List.replicate (Int.toNat (d.Next.length:Int)) (0:Int)).length:Int)))),(18,.cv (.val (.int .i64 v1)))],h.on [some (.cells [.val (.sl (List.map (eL eI) d.Next)),.val (.sl (List.map eB d.Final))])]⟩) (fun xX:List Int=>aB.k5 v1 xX) (fun xX s' hr ht=>?_) ?_
   ·obtain ⟨kind5,rfl⟩:∃ z,z=xX:=⟨xX,rfl⟩
    dsimp only[aB.k5]at hr ht
    refine (eO ht ?_)
    refine ah ?_
    exact (w_k ⟨(kind5,(IntKind.i64.wrap (v1+(1:Int)))),hr,(ai hwf)⟩)
   ·refine aI ?_
    refine A_s ?_
    refine aj ?_
    obtain ⟨b,nF16,eF17,gF18,hr⟩:=hr.idx
    refine ah ?_
    refine w_n ?_
    refine au hr (fun cF19 hr=>?_) (fun cF19 hr=>?_)
    ·obtain ⟨n2,nF20,eF21,gF22,hr⟩:=hr.idx
     refine ah ?_
     exact (eY (w_k ⟨(List.set kind4 (Int.toNat v1) (1:Int)),hr,(ai hwf)⟩))
    ·refine aL ?_
     exact (eY (w_k ⟨kind4,hr,(ai hwf)⟩))
  ·refine cG ?_
   exact (dG (dG (iy (w_k ⟨kind4,(hr).map,(ai hwf)⟩))))
theorem jW (s:Int) (p1:List (Int×Int)) (p2:List Int) (p3:List Int) (l1:Nat) (l1m0:Nat) (l2:Nat) (l3:Nat) {h:ax} (ha1:h.at_ l1=some (.cells [.val (.map (some (l1m0)))])) (ha1m0:h.at_ l1m0=some (.map 3 (eZ eI eI p1))) (ha2:h.at_ l2=some (.cells [.val (.sl (List.map eI p2))])) (ha3:h.at_ l3=some (.cells [.row 3 (List.map eI p3)])) (hn1_1m0:l1≠l1m0) (hn1_2:l1≠l2) (hn1_3:l1≠l3) (hn1m0_2:l1m0≠l2) (hn1m0_3:l1m0≠l3) (hn2_3:l2≠l3) {a:(Int×List (Int×Int)×List Int)} (e:dd s p1 p2 p3=some a):
  cp CT 164 [.cv (.val (.int .i64 s)),.cv (.val (.ptr (some (l1,0)))),.cv (.val (.ptr (some (l2,0)))),.cv (.val (.ptr (some (l3,0))))] h fun o h'=>o=[.cv (.val (.int .i64 a.1))]∧h'=((h.upd l1m0 (.map 3 (eZ eI eI a.2.1))).upd l3 (.cells [.row 3 (List.map eI a.2.2)])):=by
 refine bv Tryz.func164 fun hwf hu=>?_
 have hl1:=(hwf _ _ ha1).1
 have kl1:=lQ hl1
 have hl1m0:=(hwf _ _ ha1m0).1
 have kl1m0:=lQ hl1m0
 have hl2:=(hwf _ _ ha2).1
 have kl2:=lQ hl2
 have hl3:=(hwf _ _ ha3).1
 have kl3:=lQ hl3
 have ku1:=abz hl1 ha1
 have ku1m0:=abz hl1m0 ha1m0
 have ku2:=abz hl2 ha2
 have ku3:=abz hl3 ha3
 have kp1_1m0:=ajm hn1_1m0
 have kp1_2:=ajm hn1_2
 have kp1_3:=ajm hn1_3
 have kp1m0_2:=ajm hn1m0_2
 have kp1m0_3:=ajm hn1m0_3
 have kp2_3:=ajm hn2_3
 have kk1_1m0:=axQ hn1_1m0 ha1m0
 obtain ⟨D,hD,hr⟩:=Holds.one e
 dsimp only[dd]at hr
 change aR _ _ _ _ _ ⟨[(0,.cv (.val (.int .i64 s))),(1,.cv (.val (.ptr (some (l1,0))))),(2,.cv (.val (.ptr (some (l2,0))))),(3,.cv (.val (.ptr (some (l3,0)))))],h.on []⟩
 refine A_s ?_
 refine aj ?_
 refine cW [0,1,2,3,4,5,6,7,8,9,10] (by rfl) ?_
 obtain ⟨n,nF1,eF2,gF3,hr⟩:=hr.idx
 refine bV [0,1,2,3,4,5,6,7,8] [8,7,6,5,4,3,2,1,0] ?_
 refine dp [8] ?_
 refine dp [] ?_
 refine dw ?_
 refine w_n ?_
 refine aj ?_
 refine A_s ?_
 refine w_K (D:=D) (fun xX:(Int×List (Int×Int)×List Int)=>⟨[(6,.cv (.val (.int .i64 xX.1)))],((h.upd l1m0 (.map 3 (eZ eI eI xX.2.1))).upd l3 (.cells [.row 3 (List.map eI xX.2.2)])).on []⟩) (fun xX:(Int×List (Int×Int)×List Int)=>dd.k1 xX.1 xX.2.1 xX.2.2) (fun xX s' hr ht=>?_) ?_
 ·obtain ⟨n1,m,v⟩:=xX
  dsimp only[dd.k1]at hr ht
  refine (eO ht ?_)
  refine A_s ?_
  refine bu ?_
  obtain rfl:=hD _ hr
  exact (ba (ai (os':=[]) (sl:=[(5,.cv (.val (.int .i64 n1)))]) (h:=((h.upd l1m0 (.map 3 (eZ eI eI m))).upd l3 (.cells [.row 3 (List.map eI v)]))) (eW (eW hwf hl1m0) hl3)) ⟨rfl,aK (eW (eW hwf hl1m0) hl3)⟩)
 ·refine au hr (fun cF4 hr=>?_) (fun cF4 hr=>?_)
  ·refine aj ?_
   refine ah ?_
   refine w_n ?_
   refine cW [0,1,2,3,4,5,6,7,8,9,10,11,12,13] (by rfl) ?_
   obtain ⟨nF5,hr⟩:=hr.room
   refine bV [0,1,2,3,4,5,6,7,8] [8,7,6,5,4,3,2,1,0] ?_
   refine dp [5,4,3,2,1,0] ?_
   refine dp [5] ?_
   refine bV [11] [11,5] ?_
   refine dp [] ?_
   refine dp [] ?_
   refine dw ?_
   exact (w_k ⟨((p3.length:Int),(iW n (p3.length:Int) p1),(p3++([s]))),hr,(ai (eW (eW hwf hl1m0) hl3))⟩)
  ·refine aL ?_
   exact (w_k ⟨(((nh n p1).getD (0:Int)),p1,p3),hr,(ai (eW (eW hwf hl1m0) hl3))⟩)
end Go.Val

/- A value semantics of the model's programs, sound against it, and functions read off the given program with the proofs that it runs so; no condition. -/
import Derived.Test.YtmfelmglmhjggaaGreatOwnC
import Derived.Test.YtmfelmglmhjggaaGreatOwnD
import Derived.Test.YtmfelmglmhjggaaGreatOwnE
import Derived.Sort.AssemblyPlain
set_option linter.all false
set_option linter.unnecessarySimpa false
set_option linter.unusedVariables false
set_option linter.unusedSimpArgs false
namespace Go.Val
set_option maxRecDepth 20000
open Go.Proofs
theorem gn (n:aE) (masks:List Int) (limit:Int) {h:Heap} {a:(TDfa×Int)} (e:dv n masks limit=some a):
  Runs CT 36 [.cv (.val (.agg [.int .i64 n.Kind,.int .i64 n.Set,.sl (List.map bL n.Kids)])),.cv (.val (.sl (List.map (eK .u64) masks))),.cv (.val (.int .i64 limit))] h fun o h'=>o=[.cv (.val (.agg [.sl (List.map (eL eI) a.1.Next),.sl (List.map eB a.1.Final)])),.cv (.val (.int .i64 a.2))]∧h'=h:=by
 refine bf Tryz.func36 fun hwf hu=>?_
 obtain ⟨D,hD,hr⟩:=Holds.one e
 dsimp only[dv]at hr
 change aK _ _ _ _ _ ⟨[(0,.cv (.val (.agg [.int .i64 n.Kind,.int .i64 n.Set,.sl (List.map bL n.Kids)]))),(1,.cv (.val (.sl (List.map (eK .u64) masks)))),(2,.cv (.val (.int .i64 limit)))],h.on []⟩
 refine A_s ?_
 refine an ?_
 refine bC ?_
 refine au 1 ?_
 obtain ⟨r,eF1,hr⟩:=hr.bind
 refine be (out:=?o_eF1) (hp:=?p_eF1) ?c_eF1 ?d_eF1 ?_
 case c_eF1=>exact oe n eF1
 case d_eF1=>rfl
 refine af ?_
 refine w_n ?_
 refine an ?_
 refine A_s ?_
 refine ar hr (fun cF2 hr=>?_) (fun cF2 hr=>?_)
 ·refine an ?_
  refine ah ?_
  refine w_n ?_
  refine bn ?_
  obtain rfl:=hD _ hr
  exact (w_tr (eQ (ai (os':=[none,some (.cells [.val (.sl (List.map (eL eI) ([]:List (List Int)))),.val (.sl (List.map eB ([]:List Bool)))])]) (sl:=[(6,.cv (.val (.ptr (some (h.n+1,0))))),(7,.cv (.val (.int .i64 r.2)))]) hwf) (by simp (disch:=(apply bu.mk;decide)) only[go_sem,Nat.reduceAdd,Nat.reduceLT,Nat.reduceMul,Nat.reduceLeDiff,Int.reduceToNat,Int.reduceLT,Int.reduceLE,Tryz.results36,ae nR,dH,ej.eq_2,cR,cF2]) (Drops.on (os:=[none,some (.cells [.val (.sl (List.map (eL eI) ([]:List (List Int)))),.val (.sl (List.map eB ([]:List Bool)))])]) (os':=[]) hwf (Nat.le_refl _) (by simp (disch:=(apply bu.mk;decide)) only[go_sem,Nat.reduceAdd,Nat.reduceLT,Nat.reduceMul,Nat.reduceLeDiff,Int.reduceToNat,Int.reduceLT,Int.reduceLE,cF2])) ⟨rfl,aN hwf⟩))
 ·refine aP ?_
  refine w_n ?_
  refine an ?_
  refine bC ?_
  refine au 3 ?_
  obtain ⟨r1,eF3,hr⟩:=hr.bind
  refine be (out:=?o_eF3) (hp:=?p_eF3) ?c_eF3 ?d_eF3 ?_
  case c_eF3=>exact nT r.1 masks true limit eF3
  case d_eF3=>rfl
  refine af ?_
  refine w_n ?_
  refine an ?_
  refine A_s ?_
  refine ar hr (fun cF4 hr=>?_) (fun cF4 hr=>?_)
  ·refine an ?_
   refine ah ?_
   refine w_n ?_
   refine bn ?_
   obtain rfl:=hD _ hr
   exact (w_tr (eQ (ai (os':=[none,some (.cells [.val (.sl (List.map (eL eI) ([]:List (List Int)))),.val (.sl (List.map eB ([]:List Bool)))])]) (sl:=[(6,.cv (.val (.ptr (some (h.n+1,0))))),(7,.cv (.val (.int .i64 r1.2)))]) hwf) (by simp (disch:=(apply bu.mk;decide)) only[go_sem,Nat.reduceAdd,Nat.reduceLT,Nat.reduceMul,Nat.reduceLeDiff,Int.reduceToNat,Int.reduceLT,Int.reduceLE,Tryz.results36,ae nR,dH,ej.eq_2,cR,cF2,cF4]) (Drops.on (os:=[none,some (.cells [.val (.sl (List.map (eL eI) ([]:List (List Int)))),.val (.sl (List.map eB ([]:List Bool)))])]) (os':=[]) hwf (Nat.le_refl _) (by simp (disch:=(apply bu.mk;decide)) only[go_sem,Nat.reduceAdd,Nat.reduceLT,Nat.reduceMul,Nat.reduceLeDiff,Int.reduceToNat,Int.reduceLT,Int.reduceLE,cF2,cF4])) ⟨rfl,aN hwf⟩))
  ·refine aP ?_
   refine w_n ?_
   refine an ?_
   refine bC ?_
   refine au 1 ?_
   obtain ⟨r2,eF5,hr⟩:=hr.bind
   refine be (out:=?o_eF5) (hp:=?p_eF5) ?c_eF5 ?d_eF5 ?_
   case c_eF5=>exact pq r1.1 eF5
   case d_eF5=>rfl
   refine af ?_
   refine w_n ?_
   refine bn ?_
   obtain rfl:=hD _ hr
   exact (eQ (ai (os':=[none,some (.cells [.val (.sl (List.map (eL eI) r2.1.Next)),.val (.sl (List.map eB r2.1.Final))])]) (sl:=[(6,.cv (.val (.ptr (some (h.n+1,0))))),(7,.cv (.val (.int .i64 r2.2)))]) hwf) (by simp (disch:=(apply bu.mk;decide)) only[go_sem,Nat.reduceAdd,Nat.reduceLT,Nat.reduceMul,Nat.reduceLeDiff,Int.reduceToNat,Int.reduceLT,Int.reduceLE,Tryz.results36,ae nR,dH,ej.eq_2,cR,cF2,cF4]) (Drops.on (os:=[none,some (.cells [.val (.sl (List.map (eL eI) r2.1.Next)),.val (.sl (List.map eB r2.1.Final))])]) (os':=[]) hwf (Nat.le_refl _) (by simp (disch:=(apply bu.mk;decide)) only[go_sem,Nat.reduceAdd,Nat.reduceLT,Nat.reduceMul,Nat.reduceLeDiff,Int.reduceToNat,Int.reduceLT,Int.reduceLE,cF2,cF4])) ⟨rfl,aN hwf⟩)
end Go.Val
namespace Go.Val
set_option maxRecDepth 20000
open Go.Proofs
theorem jK (t:bj) (r:Int) (l0:Nat) {h:Heap} (ha0:h.at_ l0=some (.cells (bQ eU t.like++([.val (.sl (List.map (eA eU) t.first))]:List CV)))) {a:UInt8} (e:fm t r=some a):
  Runs CT 153 [.cv (.val (.ptr (some (l0,0)))),.cv (.val (.int .i64 r))] h fun o h'=>o=[.cv (.val (.int .u8 (a.toNat:Int)))]∧h'=h:=by
 refine bf Tryz.func153 fun hwf hu=>?_
 have hl0:=(hwf _ _ ha0).1
 have kl0:=locF hl0
 obtain ⟨D,hD,hr⟩:=Holds.one e
 dsimp only[fm]at hr
 change aK _ _ _ _ _ ⟨[(0,.cv (.val (.ptr (some (l0,0))))),(1,.cv (.val (.int .i64 r)))],h.on []⟩
 refine A_s ?_
 refine an ?_
 refine cn (sj:=⟨[(0,.cv (.val (.ptr (some (l0,0))))),(1,.cv (.val (.int .i64 r))),(10,.cv (.val (.bool ((decide (r < (0:Int)))||(decide (r > (1114111:Int)))))))],h.on []⟩) (bC ?_) ?_
 ·refine au 3 ?_
  rcases Bool.eq_false_or_eq_true (decide (r < (0:Int)))with cF1 | cF1
  ·refine af ?_
   exact w_k (ai hwf)
  ·refine af ?_
   exact w_k (ai hwf)
 refine ar hr (fun cF2 hr=>?_) (fun cF2 hr=>?_)
 ·refine an ?_
  refine ah ?_
  refine w_n ?_
  refine bn ?_
  obtain rfl:=hD _ hr
  exact (w_tr (aY (ai (os':=[]) (sl:=[(4,.cv (.val (.int .u8 (0:Int))))]) hwf) ⟨rfl,aN hwf⟩))
 ·refine aP ?_
  refine w_n ?_
  refine an ?_
  refine cI [0,1,2,3,4,5,6,7,8,9,10,11,12,13,14,15,16] (by rfl) ?_
  obtain ⟨n,nF3,eF4,gF5,hr⟩:=hr.idx
  have qF6:(Int.toNat (IntKind.i64.wrap (Int.tdiv r (256:Int))) < 4352)=True:=eq_true (nJ eF4)
  have qF7:=sZ (e:=eU) (cs:=([.val (.sl (List.map (eA eU) t.first))]:List CV)) eF4
  obtain ⟨y,nF8,eF9,gF10,hr⟩:=hr.idx
  obtain ⟨n1,nF11,eF12,gF13,hr⟩:=hr.idx
  have qF14:(Int.toNat (Int.tmod r (256:Int)) < 256)=True:=eq_true (nJ eF12)
  have qF15:=anJ (e:=eU) eF12
  refine amV (l:=[0,1,2,3,4,5,6,7,8,9,10,11,12,13,14,15]) (pend':=[15,14,13,12,11,10,9,8,7,6,5,4,3,2,1,0]) (by simp (disch:=(apply bu.mk;decide)) only[go_sem,Nat.reduceAdd,Nat.reduceLT,Nat.reduceMul,Nat.reduceLeDiff,Int.reduceToNat,Int.reduceLT,Int.reduceLE,ha0,dS hl0,el hl0,ig hl0,(eq_false (by decide:¬ ((256:Int)=0))),nF3,eF4,gF5,qF6,Nat.mul_one,Nat.zero_add,qF7,nF8,eF9,gF10,nF11,eF12,gF13,qF14,qF15];rfl) rfl ?_
  refine p_op (pend':=[]) rfl (by simp (disch:=(apply bu.mk;decide)) only[go_sem,Nat.reduceAdd,Nat.reduceLT,Nat.reduceMul,Nat.reduceLeDiff,Int.reduceToNat,Int.reduceLT,Int.reduceLE,ha0,dS hl0,el hl0,ig hl0,(eq_false (by decide:¬ ((256:Int)=0))),nF3,eF4,gF5,qF6,Nat.mul_one,Nat.zero_add,qF7,nF8,eF9,gF10,nF11,eF12,gF13,qF14,qF15]) (by simp (disch:=(apply bu.mk;decide)) only[go_sem,Nat.reduceAdd,Nat.reduceLT,Nat.reduceMul,Nat.reduceLeDiff,Int.reduceToNat,Int.reduceLT,Int.reduceLE,ha0,dS hl0,el hl0,ig hl0,(eq_false (by decide:¬ ((256:Int)=0))),nF3,eF4,gF5,qF6,Nat.mul_one,Nat.zero_add,qF7,nF8,eF9,gF10,nF11,eF12,gF13,qF14,qF15];rfl) (by rfl) ?_
  refine anz (by simp (disch:=(apply bu.mk;decide)) only[go_sem,Nat.reduceAdd,Nat.reduceLT,Nat.reduceMul,Nat.reduceLeDiff,Int.reduceToNat,Int.reduceLT,Int.reduceLE,ha0,dS hl0,el hl0,ig hl0,(eq_false (by decide:¬ ((256:Int)=0))),nF3,eF4,gF5,qF6,Nat.mul_one,Nat.zero_add,qF7,(eq_false (by decide:¬ ((256:Int)=0))),nF8,eF9,gF10,nF11,eF12,gF13,qF14,Nat.mul_one,Nat.zero_add,qF15]) ?_
  refine w_n ?_
  refine bn ?_
  obtain rfl:=hD _ hr
  exact (aY (ai (os':=[]) (sl:=[(4,.cv (.val (.int .u8 (n1.toNat:Int))))]) hwf) ⟨rfl,aN hwf⟩)
end Go.Val
namespace Go.Val
set_option maxRecDepth 20000
open Go.Proofs
theorem jo (a_:aB) (r:Int) (l0:Nat) (l0p0:Nat) {h:Heap} (ha0:h.at_ l0=some (.cells [.val (.ptr (some (l0p0,0))),.val (.sl (List.map (eK .u64) a_.masks)),.val (.sl (List.map eI a_.least))])) (ha0p0:h.at_ l0p0=some (.cells (bQ eU a_.trie.like++([.val (.sl (List.map (eA eU) a_.trie.first))]:List CV)))) (hn0_0p0:l0≠l0p0) {a:Int} (e:dF a_ r=some a):
  Runs CT 85 [.cv (.val (.ptr (some (l0,0)))),.cv (.val (.int .i64 r))] h fun o h'=>o=[.cv (.val (.int .i64 a))]∧h'=h:=by
 refine bf Tryz.func85 fun hwf hu=>?_
 have hl0:=(hwf _ _ ha0).1
 have kl0:=locF hl0
 have hl0p0:=(hwf _ _ ha0p0).1
 have kl0p0:=locF hl0p0
 obtain ⟨D,hD,hr⟩:=Holds.one e
 dsimp only[dF]at hr
 change aK _ _ _ _ _ ⟨[(0,.cv (.val (.ptr (some (l0,0))))),(1,.cv (.val (.int .i64 r)))],h.on []⟩
 refine A_s ?_
 refine an ?_
 refine cn (sj:=⟨[(0,.cv (.val (.ptr (some (l0,0))))),(1,.cv (.val (.int .i64 r))),(10,.cv (.val (.bool ((decide (r < (0:Int)))||(decide (r > (1114111:Int)))))))],h.on []⟩) (bC ?_) ?_
 ·refine au 3 ?_
  rcases Bool.eq_false_or_eq_true (decide (r < (0:Int)))with cF1 | cF1
  ·refine af ?_
   exact w_k (ai hwf)
  ·refine af ?_
   exact w_k (ai hwf)
 refine ar hr (fun cF2 hr=>?_) (fun cF2 hr=>?_)
 ·refine an ?_
  refine ah ?_
  refine w_n ?_
  refine bn ?_
  obtain rfl:=hD _ hr
  exact (w_tr (aY (ai (os':=[]) (sl:=[(4,.cv (.val (.int .i64 (-1:Int))))]) hwf) ⟨rfl,aN hwf⟩))
 ·refine aP ?_
  refine w_n ?_
  refine an ?_
  refine bC ?_
  refine au 5 ?_
  obtain ⟨r1,eF3,hr⟩:=hr.bind
  refine be (out:=?o_eF3) (hp:=?p_eF3) ?c_eF3 ?d_eF3 ?_
  case c_eF3=>(refine jK a_.trie r (l0p0) ?_ eF3;exact cC)
  case d_eF3=>rfl
  refine af ?_
  refine w_n ?_
  refine bn ?_
  obtain rfl:=hD _ hr
  exact (aY (ai (os':=[]) (sl:=[(4,.cv (.val (.int .i64 (IntKind.i64.wrap (r1.toNat:Int)))))]) hwf) ⟨rfl,aN hwf⟩)
end Go.Val
namespace Go.Val
set_option maxRecDepth 20000
open Go.Proofs
theorem jc (a_:aB) (sets:List (List ak)) (l0:Nat) (l0p0:Nat) {h:Heap} (ha0:h.at_ l0=some (.cells [.val (.ptr (some (l0p0,0))),.val (.sl (List.map (eK .u64) a_.masks)),.val (.sl (List.map eI a_.least))])) (ha0p0:h.at_ l0p0=some (.cells (bQ eU a_.trie.like++([.val (.sl (List.map (eA eU) a_.trie.first))]:List CV)))) (hn0_0p0:l0≠l0p0) {a:Option bj} (e:av a_ sets=some a):
  Runs CT 33 [.cv (.val (.ptr (some (l0,0)))),.cv (.val (.sl (List.map (eL bb) sets)))] h fun o h'=>match a with | none=>o=[.cv (.val (.ptr none))]∧h'=h | some y=>o=[.cv (.val (.ptr (some (h.n+0,0))))]∧h'=h.on [some (.cells (bQ eU y.like++([.val (.sl (List.map (eA eU) y.first))]:List CV)))]:=by
 refine bf Tryz.func33 fun hwf hu=>?_
 have hl0:=(hwf _ _ ha0).1
 have kl0:=locF hl0
 have hl0p0:=(hwf _ _ ha0p0).1
 have kl0p0:=locF hl0p0
 obtain ⟨D,hD,hr⟩:=Holds.one e
 dsimp only[av]at hr
 change aK _ _ _ _ _ ⟨[(0,.cv (.val (.ptr (some (l0,0))))),(1,.cv (.val (.sl (List.map (eL bb) sets))))],h.on []⟩
 iterate 2 refine A_s ?_
 refine an ?_
 refine A_s ?_
 refine w_K (D:=D) (fun xX:List Int=>⟨[(0,.cv (.val (.ptr (some (l0,0))))),(5,.cv (.row 3 (List.map eI xX)))],h.on []⟩) (fun xX:List Int=>av.k1 a_ xX) (fun xX s' hr ht=>?_) ?_
 ·obtain ⟨edges,rfl⟩:∃ z,z=xX:=⟨xX,rfl⟩
  dsimp only[av.k1]at hr ht
  refine (w_nT ht ?_)
  refine an ?_
  refine bC ?_
  refine au 1 ?_
  obtain ⟨l,eF1,hr⟩:=hr.bind
  refine alf (g:=83) (ds:=[]) (k:=3) rfl (by simp (disch:=(apply bu.mk;decide)) only[go_sem,Nat.reduceAdd,Nat.reduceLT,Nat.reduceMul,Nat.reduceLeDiff,Int.reduceToNat,Int.reduceLT,Int.reduceLE,ha0,dS hl0,el hl0,ig hl0,ha0p0,dS hl0p0,el hl0p0,ig hl0p0,Option.getD_some] <;> rfl) rfl (by simp (disch:=(apply bu.mk;decide)) only[go_sem,Nat.reduceAdd,Nat.reduceLT,Nat.reduceMul,Nat.reduceLeDiff,Int.reduceToNat,Int.reduceLT,Int.reduceLE,ha0,dS hl0,el hl0,ig hl0,ha0p0,dS hl0p0,el hl0p0,ig hl0p0,Option.getD_some] <;> rfl) (by simp (disch:=(apply bu.mk;decide)) only[go_sem,Nat.reduceAdd,Nat.reduceLT,Nat.reduceMul,Nat.reduceLeDiff,Int.reduceToNat,Int.reduceLT,Int.reduceLE,ha0,dS hl0,el hl0,ig hl0,ha0p0,dS hl0p0,el hl0p0,ig hl0p0,Option.getD_some] <;> rfl) (by simp (disch:=(apply bu.mk;decide)) only[go_sem,Nat.reduceAdd,Nat.reduceLT,Nat.reduceMul,Nat.reduceLeDiff,Int.reduceToNat,Int.reduceLT,Int.reduceLE,ha0,dS hl0,el hl0,ig hl0,ha0p0,dS hl0p0,el hl0p0,ig hl0p0,Option.getD_some] <;> rfl) (by rfl) (vu eF1) ?_
  refine dd ?_
  refine w_n ?_
  refine A_s ?_
  refine an ?_
  refine an ?_
  refine bC ?_
  refine au 1 ?_
  obtain ⟨r,eF2,hr⟩:=hr.bind
  refine be (out:=?o_eF2) (hp:=?p_eF2) ?c_eF2 ?d_eF2 ?_
  case c_eF2=>exact fc l eF2
  case d_eF2=>rfl
  refine af ?_
  refine w_n ?_
  refine w_K (D:=D) (fun xX:List cF=>⟨[(10,.cv (.row 115 (List.map gG xX)))],h.on []⟩) (fun xX:List cF=>av.k2 xX) (fun xX s' hr ht=>?_) ?_
  ·obtain ⟨props,rfl⟩:∃ z,z=xX:=⟨xX,rfl⟩
   dsimp only[av.k2]at hr ht
   refine (w_nT ht ?_)
   refine an ?_
   refine bC ?_
   refine au 1 ?_
   obtain ⟨r1,eF3,hr⟩:=hr.bind
   try dsimp only at hr
   rcases xF4:r1.1 with _ | y
   ·rw[xF4]at hr
    dsimp only at hr
    refine be (out:=?o_eF3a) (hp:=?p_eF3a) ?c_eF3a ?d_eF3a ?_
    case c_eF3a=>exact iw props eF3 xF4
    case d_eF3a=>rfl
    refine af ?_
    refine w_n ?_
    refine A_s ?_
    refine bn ?_
    obtain rfl:=hD _ hr
    exact (aY (ai (os':=[]) (sl:=[(4,.cv (.val (.ptr none)))]) hwf) ⟨rfl,aN hwf⟩)
   ·rw[xF4]at hr
    dsimp only at hr
    refine be (out:=?o_eF3b) (hp:=?p_eF3b) ?c_eF3b ?d_eF3b ?_
    case c_eF3b=>exact iy props eF3 xF4
    case d_eF3b=>rfl
    refine af ?_
    refine w_n ?_
    refine A_s ?_
    refine bn ?_
    obtain rfl:=hD _ hr
    exact (vD (ai (os':=[some (.cells (bQ eU y.like++([.val (.sl (List.map (eA eU) y.first))]:List CV)))]) (sl:=[(4,.cv (.val (.ptr (some (h.n+0,0)))))]) hwf) cC ⟨rfl,rfl⟩)
  ·refine aG ?_
   refine cD (fun xX:(List cF×Int)=>⟨[(0,.cv (.val (.ptr (some (l0,0))))),(10,.cv (.row 115 (List.map gG xX.1))),(41,.cv (.val (.sl (List.map eI r)))),(42,.cv (.val (.int .i64 (r.length:Int)))),(43,.cv (.val (.int .i64 xX.2)))],h.on []⟩) hr (ai hwf) (fun W1 xX hr=>?_)
   obtain ⟨props1,v⟩:=xX
   dsimp only[av.b1]at hr
   refine A_s ?_
   refine an ?_
   refine ar hr (fun cF5 hr=>?_) (fun cF5 hr=>?_)
   ·refine aP ?_
    refine w_n ?_
    refine an ?_
    refine w_K (D:=(Aft W1 D)) (fun xX:List cF=>⟨[(0,.cv (.val (.ptr (some (l0,0))))),(10,.cv (.row 115 (List.map gG xX))),(41,.cv (.val (.sl (List.map eI r)))),(42,.cv (.val (.int .i64 (r.length:Int)))),(43,.cv (.val (.int .i64 v)))],h.on []⟩) (fun xX:List cF=>av.k3 v xX) (fun xX s' hr ht=>?_) ?_
    ·obtain ⟨props2,rfl⟩:∃ z,z=xX:=⟨xX,rfl⟩
     dsimp only[av.k3]at hr ht
     refine (w_nT ht ?_)
     refine ah ?_
     exact (w_k ⟨(props2,(IntKind.i64.wrap (v+(1:Int)))),hr,(ai hwf)⟩)
    ·refine aG ?_
     refine an ?_
     obtain ⟨n,nF6,eF7,gF8,hr⟩:=hr.idx
     refine ah ?_
     refine w_n ?_
     refine A_s ?_
     refine ar hr (fun cF9 hr=>?_) (fun cF9 hr=>?_)
     ·refine bC ?_
      refine au 4 ?_
      obtain ⟨r2,eF10,hr⟩:=hr.bind
      refine be (out:=?o_eF10) (hp:=?p_eF10) ?c_eF10 ?d_eF10 ?_
      case c_eF10=>(refine jo a_ n (l0) (l0p0) ?_ ?_ ?_ eF10;exact cC;exact cC;exact A_ne)
      case d_eF10=>rfl
      obtain ⟨nF11,hr⟩:=hr.room
      refine af ?_
      exact (w_bn (w_k ⟨(props1++([(cF.mk n (1114111:Int) (u8 (IntKind.u8.wrap r2)))])),hr,(ai hwf)⟩))
     ·refine aP ?_
      exact (w_bn (w_k ⟨props1,hr,(ai hwf)⟩))
   ·refine cB ?_
    exact (w_te (w_te (w_bx (w_k ⟨props1,(hr).map,(ai hwf)⟩))))
 ·refine aG ?_
  refine cD (fun xX:(List Int×Int)=>⟨[(0,.cv (.val (.ptr (some (l0,0))))),(5,.cv (.row 3 (List.map eI xX.1))),(16,.cv (.val (.sl (List.map (eL bb) sets)))),(17,.cv (.val (.int .i64 (sets.length:Int)))),(18,.cv (.val (.int .i64 xX.2)))],h.on []⟩) hr (ai hwf) (fun W2 xX hr=>?_)
  obtain ⟨edges1,v1⟩:=xX
  dsimp only[av.b2]at hr
  refine A_s ?_
  refine an ?_
  refine ar hr (fun cF12 hr=>?_) (fun cF12 hr=>?_)
  ·refine aP ?_
   refine w_n ?_
   refine an ?_
   refine w_K (D:=(Aft W2 D)) (fun xX:List Int=>⟨[(0,.cv (.val (.ptr (some (l0,0))))),(5,.cv (.row 3 (List.map eI xX))),(16,.cv (.val (.sl (List.map (eL bb) sets)))),(17,.cv (.val (.int .i64 (sets.length:Int)))),(18,.cv (.val (.int .i64 v1)))],h.on []⟩) (fun xX:List Int=>av.k4 v1 xX) (fun xX s' hr ht=>?_) ?_
   ·obtain ⟨edges2,rfl⟩:∃ z,z=xX:=⟨xX,rfl⟩
    dsimp only[av.k4]at hr ht
    refine (w_nT ht ?_)
    refine ah ?_
    exact (w_k ⟨(edges2,(IntKind.i64.wrap (v1+(1:Int)))),hr,(ai hwf)⟩)
   ·refine aG ?_
    refine an ?_
    obtain ⟨xs,nF13,eF14,gF15,hr⟩:=hr.idx
    refine ah ?_
    refine w_n ?_
    refine A_s ?_
    refine aG ?_
    refine cD (fun xX:(List Int×Int)=>⟨[(0,.cv (.val (.ptr (some (l0,0))))),(5,.cv (.row 3 (List.map eI xX.1))),(16,.cv (.val (.sl (List.map (eL bb) sets)))),(17,.cv (.val (.int .i64 (sets.length:Int)))),(18,.cv (.val (.int .i64 v1))),(22,.cv (.val (.sl (List.map bb xs)))),(23,.cv (.val (.int .i64 (xs.length:Int)))),(24,.cv (.val (.int .i64 xX.2)))],h.on []⟩) hr (ai hwf) (fun W3 xX hr=>?_)
    obtain ⟨edges3,v2⟩:=xX
    dsimp only[av.b3]at hr
    refine A_s ?_
    refine an ?_
    refine ar hr (fun cF16 hr=>?_) (fun cF16 hr=>?_)
    ·refine aP ?_
     refine w_n ?_
     refine an ?_
     refine aG ?_
     refine an ?_
     obtain ⟨x,nF17,eF18,gF19,hr⟩:=hr.idx
     refine ah ?_
     refine w_n ?_
     obtain ⟨nF20,hr⟩:=hr.room
     refine ah ?_
     refine (w_bn (w_n ?_))
     refine ah ?_
     exact (w_k ⟨((edges3++([x.Low,(IntKind.i64.wrap (x.High+(1:Int)))])),(IntKind.i64.wrap (v2+(1:Int)))),hr,(ai hwf)⟩)
    ·refine cB ?_
     exact (w_te (w_te (w_bx (w_bn (w_k ⟨edges3,(hr).map,(ai hwf)⟩)))))
  ·refine cB ?_
   exact (w_te (w_te (w_bx (w_k ⟨edges1,(hr).map,(ai hwf)⟩))))
theorem kB (a_:aB) (sets:List (List ak)) (l0:Nat) (l0p0:Nat) {h:Heap} (ha0:h.at_ l0=some (.cells [.val (.ptr (some (l0p0,0))),.val (.sl (List.map (eK .u64) a_.masks)),.val (.sl (List.map eI a_.least))])) (ha0p0:h.at_ l0p0=some (.cells (bQ eU a_.trie.like++([.val (.sl (List.map (eA eU) a_.trie.first))]:List CV)))) (hn0_0p0:l0≠l0p0) {a:Option bj} (e:av a_ sets=some a) (hx:a=none):
  Runs CT 33 [.cv (.val (.ptr (some (l0,0)))),.cv (.val (.sl (List.map (eL bb) sets)))] h fun o h'=>o=[.cv (.val (.ptr none))]∧h'=h:=by
 have:=jc (h:=h) a_ sets l0 l0p0 ha0 ha0p0 hn0_0p0 e
 subst hx
 exact this
theorem ku (a_:aB) (sets:List (List ak)) (l0:Nat) (l0p0:Nat) {h:Heap} (ha0:h.at_ l0=some (.cells [.val (.ptr (some (l0p0,0))),.val (.sl (List.map (eK .u64) a_.masks)),.val (.sl (List.map eI a_.least))])) (ha0p0:h.at_ l0p0=some (.cells (bQ eU a_.trie.like++([.val (.sl (List.map (eA eU) a_.trie.first))]:List CV)))) (hn0_0p0:l0≠l0p0) {a:Option bj} {y:bj} (e:av a_ sets=some a) (hx:a=some y):
  Runs CT 33 [.cv (.val (.ptr (some (l0,0)))),.cv (.val (.sl (List.map (eL bb) sets)))] h fun o h'=>o=[.cv (.val (.ptr (some (h.n+0,0))))]∧h'=h.on [some (.cells (bQ eU y.like++([.val (.sl (List.map (eA eU) y.first))]:List CV)))]:=by
 have:=jc (h:=h) a_ sets l0 l0p0 ha0 ha0p0 hn0_0p0 e
 subst hx
 exact this
end Go.Val
namespace Go.Val
set_option maxRecDepth 20000
set_option maxHeartbeats 2000000
open Go.Proofs
theorem je (p:bP) (limit:Int) {h:Heap} {a:(Option aQ×Int)} (e:aC p limit=some a):
  Runs CT 11 [.cv (.val (.agg [.sl (List.map (eL bb) p.Sets),.sl (List.map iv p.Rules)])),.cv (.val (.int .i64 limit))] h fun o h'=>match a.1 with | none=>o=[.cv (.val (.ptr none)),.cv (.val (.int .i64 a.2))]∧h'=h | some y=>o=[.cv (.val (.ptr (some (h.n+4,0)))),.cv (.val (.int .i64 a.2))]∧h'=h.on [none,none,none,some (.cells (bQ eU y.trie.like++([.val (.sl (List.map (eA eU) y.trie.first))]:List CV))),some (.cells [.val (.sl (List.map bX y.rules)),.val (.ptr (some (h.n+3,0))),.val (.int .i64 y.classes)])]:=by
 refine bf Tryz.func11 fun hwf hu=>?_
 obtain ⟨D,hD,hr⟩:=Holds.one e
 dsimp only[aC]at hr
 change aK _ _ _ _ _ ⟨[(0,.cv (.val (.agg [.sl (List.map (eL bb) p.Sets),.sl (List.map iv p.Rules)]))),(1,.cv (.val (.int .i64 limit)))],h.on []⟩
 refine A_s ?_
 refine an ?_
 obtain ⟨v,vF4,hr⟩:=hr.bind
 refine cn (sj:=⟨[(1,.cv (.val (.int .i64 limit))),(2,.cv (.val (.ptr (some (h.n+0,0))))),(24,.cv (.val (.bool v)))],h.on [some (.cells [.val (.sl (List.map (eL bb) p.Sets)),.val (.sl (List.map iv p.Rules))])]⟩) (bC ?_) ?_
 ·have hr:=Holds.intro (D:=fun z=>z=v) vF4 rfl
  refine au 1 ?_
  obtain ⟨r,eF1,hr⟩:=hr.bind
  refine be (out:=?o_eF1) (hp:=?p_eF1) ?c_eF1 ?d_eF1 ?_
  case c_eF1=>exact oo p eF1
  case d_eF1=>rfl
  refine au 2 ?_
  rcases hr.ite with ⟨cF2,hr⟩ | ⟨cF2,hr⟩
  ·refine af ?_
   obtain rfl:_=v:=hr
   exact w_k (ai hwf)
  ·refine au 4 ?_
   rcases hr.ite with ⟨cF3,hr⟩ | ⟨cF3,hr⟩
   ·refine af ?_
    obtain rfl:_=v:=hr
    exact w_k (ai hwf)
   ·refine af ?_
    obtain rfl:_=v:=hr
    exact w_k (ai hwf)
 refine ar hr (fun cF5 hr=>?_) (fun cF5 hr=>?_)
 ·refine an ?_
  refine ah ?_
  refine w_n ?_
  refine bn ?_
  obtain rfl:=hD _ hr
  exact (w_tr (aY (ai (os':=[]) (sl:=[(4,.cv (.val (.ptr none))),(5,.cv (.val (.int .i64 (1:Int))))]) hwf) ⟨rfl,aN hwf⟩))
 ·refine aP ?_
  refine w_n ?_
  refine an ?_
  refine bC ?_
  refine au 2 ?_
  obtain ⟨r1,eF6,hr⟩:=hr.bind
  try dsimp only at hr
  rcases xF47:r1.1 with _ | y
  ·rw[xF47]at hr
   dsimp only at hr
   refine be (out:=?o_eF6a) (hp:=?p_eF6a) ?c_eF6a ?d_eF6a ?_
   case c_eF6a=>exact kU p.Sets eF6 xF47
   case d_eF6a=>rfl
   refine af ?_
   refine w_n ?_
   refine an ?_
   refine A_s ?_
   refine ar hr (fun cF7 hr=>?_) (fun cF7 hr=>?_)
   ·refine an ?_
    refine ah ?_
    refine w_n ?_
    refine bn ?_
    obtain rfl:=hD _ hr
    exact (w_tr (aY (ai (os':=[]) (sl:=[(4,.cv (.val (.ptr none))),(5,.cv (.val (.int .i64 r1.2)))]) hwf) ⟨rfl,aN hwf⟩))
   ·refine aP ?_
    refine w_n ?_
    refine an ?_
    exact hr.elim
  ·rw[xF47]at hr
   dsimp only at hr
   refine be (out:=?o_eF6b) (hp:=?p_eF6b) ?c_eF6b ?d_eF6b ?_
   case c_eF6b=>exact kW p.Sets eF6 xF47
   case d_eF6b=>rfl
   refine af ?_
   refine w_n ?_
   refine an ?_
   refine A_s ?_
   refine ar hr (fun cF8 hr=>?_) (fun cF8 hr=>?_)
   ·refine an ?_
    refine ah ?_
    refine w_n ?_
    refine bn ?_
    obtain rfl:=hD _ hr
    exact (w_tr (aY (ai (os':=[]) (sl:=[(4,.cv (.val (.ptr none))),(5,.cv (.val (.int .i64 r1.2)))]) hwf) ⟨rfl,aN hwf⟩))
   ·refine aP ?_
    refine w_n ?_
    refine an ?_
    refine bC ?_
    refine au 3 ?_
    obtain ⟨r2,eF9,hr⟩:=hr.bind
    try dsimp only at hr
    rcases xF46:r2 with _ | y1
    ·rw[xF46]at hr
     dsimp only at hr
     refine be (out:=?o_eF9a) (hp:=?p_eF9a) ?c_eF9a ?d_eF9a ?_
     case c_eF9a=>(refine kB y p.Sets (h.n+1) (h.n+2) ?_ ?_ ?_ eF9 xF46;exact cC;exact cC;exact A_ne)
     case d_eF9a=>rfl
     refine au 1 ?_
     obtain ⟨r3,eF10,hr⟩:=hr.bind
     refine be (out:=?o_eF10) (hp:=?p_eF10) ?c_eF10 ?d_eF10 ?_
     case c_eF10=>(refine eT y (h.n+1) (h.n+2) ?_ ?_ ?_ eF10;exact cC;exact cC;exact A_ne)
     case d_eF10=>rfl
     refine af ?_
     refine w_n ?_
     refine an ?_
     refine A_s ?_
     refine w_K (D:=D) (fun xX:List bi=>⟨[(8,.cv (.val (.ptr (some (h.n+3,0)))))],h.on [none,none,none,some (.cells [.row 75 (List.map bX xX),.val (.ptr none),.val (.int .i64 r3)])]⟩) (fun xX:List bi=>aC.k1 xX) (fun xX s' hr ht=>?_) ?_
     ·obtain ⟨rules,rfl⟩:∃ z,z=xX:=⟨xX,rfl⟩
      dsimp only[aC.k1]at hr ht
      refine (w_nT ht ?_)
      refine A_s ?_
      refine bn ?_
      exact hr.elim
     ·refine aG ?_
      refine cD (fun xX:(Int×List bi)=>⟨[(1,.cv (.val (.int .i64 limit))),(6,.cv (.val (.ptr (some (h.n+1,0))))),(8,.cv (.val (.ptr (some (h.n+3,0))))),(43,.cv (.val (.sl (List.map iv p.Rules)))),(44,.cv (.val (.int .i64 (p.Rules.length:Int)))),(45,.cv (.val (.int .i64 xX.1)))],h.on [none,some (.cells [.val (.ptr (some (h.n+2,0))),.val (.sl (List.map (eK .u64) y.masks)),.val (.sl (List.map eI y.least))]),some (.cells (bQ eU y.trie.like++([.val (.sl (List.map (eA eU) y.trie.first))]:List CV))),some (.cells [.row 75 (List.map bX xX.2),.val (.ptr none),.val (.int .i64 r3)])]⟩) hr (ai hwf) (fun W1 xX hr=>?_)
      obtain ⟨v1,rules1⟩:=xX
      dsimp only[aC.b1]at hr
      refine A_s ?_
      refine an ?_
      refine ar hr (fun cF12 hr=>?_) (fun cF12 hr=>?_)
      ·refine aP ?_
       refine w_n ?_
       refine an ?_
       refine w_K (D:=(Aft W1 D)) (fun xX:List bi=>⟨[(1,.cv (.val (.int .i64 limit))),(6,.cv (.val (.ptr (some (h.n+1,0))))),(8,.cv (.val (.ptr (some (h.n+3,0))))),(43,.cv (.val (.sl (List.map iv p.Rules)))),(44,.cv (.val (.int .i64 (p.Rules.length:Int)))),(45,.cv (.val (.int .i64 v1)))],h.on [none,some (.cells [.val (.ptr (some (h.n+2,0))),.val (.sl (List.map (eK .u64) y.masks)),.val (.sl (List.map eI y.least))]),some (.cells (bQ eU y.trie.like++([.val (.sl (List.map (eA eU) y.trie.first))]:List CV))),some (.cells [.row 75 (List.map bX xX),.val (.ptr none),.val (.int .i64 r3)])]⟩) (fun xX:List bi=>aC.k2 v1 xX) (fun xX s' hr ht=>?_) ?_
       ·obtain ⟨rules2,rfl⟩:∃ z,z=xX:=⟨xX,rfl⟩
        dsimp only[aC.k2]at hr ht
        refine (w_nT ht ?_)
        refine ah ?_
        exact (w_k ⟨((IntKind.i64.wrap (v1+(1:Int))),rules2),hr,(ai hwf)⟩)
       ·refine aG ?_
        refine an ?_
        obtain ⟨x,nF13,eF14,gF15,hr⟩:=hr.idx
        refine ah ?_
        refine w_n ?_
        refine A_s ?_
        refine an ?_
        refine an ?_
        refine cI [0,1,2,3,6,4,5] (by rfl) ?_
        refine bA [0,1,2,3,6] [6,3,2,1,0] ?_
        obtain ⟨r5,eF16,hr⟩:=hr.bind
        refine cZ [6,1,0] (out:=?o_eF16) (hp:=?p_eF16) ?c_eF16 ?d_eF16 ?_
        case c_eF16=>exact lr x.Right eF16
        case d_eF16=>rfl
        refine bA [5] [5,6,1,0] ?_
        refine cW ?_
        refine w_n ?_
        refine w_K (D:=(Aft W1 D)) (fun xX:(List (List Int)×List Bool×List (List Int)×List Bool)=>⟨[(1,.cv (.val (.int .i64 limit))),(6,.cv (.val (.ptr (some (h.n+1,0))))),(8,.cv (.val (.ptr (some (h.n+3,0))))),(11,.cv (.val (.ptr (some (h.n+5,0))))),(43,.cv (.val (.sl (List.map iv p.Rules)))),(44,.cv (.val (.int .i64 (p.Rules.length:Int)))),(45,.cv (.val (.int .i64 v1)))],h.on [none,some (.cells [.val (.ptr (some (h.n+2,0))),.val (.sl (List.map (eK .u64) y.masks)),.val (.sl (List.map eI y.least))]),some (.cells (bQ eU y.trie.like++([.val (.sl (List.map (eA eU) y.trie.first))]:List CV))),some (.cells [.row 75 (List.map bX rules1),.val (.ptr none),.val (.int .i64 r3)]),none,some (.cells [.val (.bool x.Break),.val (.sl (List.map (eL eI) xX.1)),.val (.sl (List.map eB xX.2.1)),.val (.sl (List.map (eL eI) xX.2.2.1)),.val (.sl (List.map eB xX.2.2.2))])]⟩) (fun xX:(List (List Int)×List Bool×List (List Int)×List Bool)=>aC.k3 v1 rules1 x xX.1 xX.2.1 xX.2.2.1 xX.2.2.2) (fun xX s' hr ht=>?_) ?_
        ·obtain ⟨Next,Final,Next1,Final1⟩:=xX
         dsimp only[aC.k3]at hr ht
         refine (w_nT ht ?_)
         refine cI [0,1,2,3,4,5,6,7,8,9,10] (by rfl) ?_
         obtain ⟨nF17,hr⟩:=hr.room
         refine bA [0,1,2,3,4,5,6] [6,5,4,3,2,1,0] ?_
         refine cP [0] ?_
         refine bA [8,9] [9,8,0] ?_
         refine cP [] ?_
         refine cW ?_
         exact (w_bn (w_k ⟨(rules1++([(bi.mk x.Break (ss.mk (TDfa.mk Next Final) (TDfa.mk Next1 Final1)))])),hr,(ai hwf)⟩))
        ·refine aG ?_
         refine oB ?_
         refine A_s ?_
         refine an ?_
         refine lG true (fun _=>?_) (fun cF18=>by cases cF18)
         refine aP ?_
         refine w_n ?_
         refine an ?_
         refine aG ?_
         refine A_s ?_
         refine an ?_
         refine cI [0,1,2,4,9,3,5,6,7,8,10,11,12] (by rfl) ?_
         refine bA [0,1,2,4,9] [9,4,2,1,0] ?_
         obtain ⟨r6,eF19,hr⟩:=hr.bind
         refine cZ [9,4,1,0] (out:=?o_eF19) (hp:=?p_eF19) ?c_eF19 ?d_eF19 ?_
         case c_eF19=>(refine dg y (h.n+1) (h.n+2) ?_ ?_ ?_ eF19;exact cC;exact cC;exact A_ne)
         case d_eF19=>rfl
         obtain ⟨r7,eF20,hr⟩:=hr.bind
         refine cZ [9,0] (out:=?o_eF20) (hp:=?p_eF20) ?c_eF20 ?d_eF20 ?_
         case c_eF20=>exact gn ((kc.mk x.Left r5).v0) r6 limit eF20
         case d_eF20=>rfl
         refine bA [6,7,8,10] [10,8,7,6,9,0] ?_
         refine cP [8] ?_
         refine cP [] ?_
         refine cW ?_
         refine w_n ?_
         refine A_s ?_
         refine ar hr (fun cF21 hr=>?_) (fun cF21 hr=>?_)
         ·refine an ?_
          refine ah ?_
          refine w_n ?_
          refine bn ?_
          obtain rfl:=hD _ hr
          exact (w_br (w_tr (w_tr (w_br (w_tr (w_tr (w_br (w_tr (w_tr (w_tr (w_br (w_tr (w_tr (aY (ai (os':=[]) (sl:=[(4,.cv (.val (.ptr none))),(5,.cv (.val (.int .i64 r7.2)))]) hwf) ⟨rfl,aN hwf⟩))))))))))))))
         ·refine aP ?_
          refine (w_bn (w_n ?_))
          have qF22:IntKind.i64.wrap ((0:Int)+(1:Int))=(1:Int):=by decide
          refine ah ?_
          refine (w_k ?_)
          refine oB ?_
          refine A_s ?_
          refine an ?_
          refine lG true (fun _=>?_) (fun cF23=>by cases cF23)
          refine aP ?_
          refine w_n ?_
          refine an ?_
          refine aG ?_
          refine A_s ?_
          refine an ?_
          refine cI [0,1,2,4,9,3,5,6,7,8,10,11,12] (by rfl) ?_
          refine bA [0,1,2,4,9] [9,4,2,1,0] ?_
          obtain ⟨r8,eF24,hr⟩:=hr.bind
          refine cZ [9,4,1,0] (out:=?o_eF24) (hp:=?p_eF24) ?c_eF24 ?d_eF24 ?_
          case c_eF24=>(refine dg y (h.n+1) (h.n+2) ?_ ?_ ?_ eF24;exact cC;exact cC;exact A_ne)
          case d_eF24=>rfl
          obtain ⟨r9,eF25,hr⟩:=hr.bind
          refine cZ [9,0] (out:=?o_eF25) (hp:=?p_eF25) ?c_eF25 ?d_eF25 ?_
          case c_eF25=>exact gn ((kc.mk x.Left r5).v1) r8 limit eF25
          case d_eF25=>rfl
          refine bA [6,7,8,10] [10,8,7,6,9,0] ?_
          refine cP [8] ?_
          refine cP [] ?_
          refine cW ?_
          refine w_n ?_
          refine A_s ?_
          refine ar hr (fun cF26 hr=>?_) (fun cF26 hr=>?_)
          ·refine an ?_
           refine ah ?_
           refine w_n ?_
           refine bn ?_
           obtain rfl:=hD _ hr
           exact (w_br (w_tr (w_tr (w_br (w_tr (w_tr (w_br (w_tr (w_tr (w_tr (w_br (w_tr (w_tr (aY (ai (os':=[]) (sl:=[(4,.cv (.val (.ptr none))),(5,.cv (.val (.int .i64 r9.2)))]) hwf) ⟨rfl,aN hwf⟩))))))))))))))
          ·refine aP ?_
           refine (w_bn (w_n ?_))
           have qF27:IntKind.i64.wrap ((1:Int)+(1:Int))=(2:Int):=by decide
           refine ah ?_
           refine (w_k ?_)
           refine oB ?_
           refine A_s ?_
           refine an ?_
           refine lG false (fun cF28=>by cases cF28) (fun _=>?_)
           refine cB ?_
           exact (w_te (w_te (w_bx (w_k ⟨(r7.1.Next,r7.1.Final,r9.1.Next,r9.1.Final),hr,(ai hwf)⟩))))
      ·refine cB ?_
       exact (w_te (w_te (w_bx (w_k ⟨rules1,(hr).map,(ai hwf)⟩))))
    ·rw[xF46]at hr
     dsimp only at hr
     refine be (out:=?o_eF9b) (hp:=?p_eF9b) ?c_eF9b ?d_eF9b ?_
     case c_eF9b=>(refine ku y p.Sets (h.n+1) (h.n+2) ?_ ?_ ?_ eF9 xF46;exact cC;exact cC;exact A_ne)
     case d_eF9b=>rfl
     refine au 1 ?_
     obtain ⟨r4,eF11,hr⟩:=hr.bind
     refine be (out:=?o_eF11) (hp:=?p_eF11) ?c_eF11 ?d_eF11 ?_
     case c_eF11=>(refine eT y (h.n+1) (h.n+2) ?_ ?_ ?_ eF11;exact cC;exact cC;exact A_ne)
     case d_eF11=>rfl
     refine af ?_
     refine w_n ?_
     refine an ?_
     refine A_s ?_
     refine w_K (D:=D) (fun xX:List bi=>⟨[(8,.cv (.val (.ptr (some (h.n+4,0)))))],h.on [none,none,none,some (.cells (bQ eU y1.like++([.val (.sl (List.map (eA eU) y1.first))]:List CV))),some (.cells [.row 75 (List.map bX xX),.val (.ptr (some (h.n+3,0))),.val (.int .i64 r4)])]⟩) (fun xX:List bi=>aC.k4 y1 r4 xX) (fun xX s' hr ht=>?_) ?_
     ·obtain ⟨rules3,rfl⟩:∃ z,z=xX:=⟨xX,rfl⟩
      dsimp only[aC.k4]at hr ht
      refine (w_nT ht ?_)
      refine A_s ?_
      refine bn ?_
      obtain rfl:=hD _ hr
      exact (vD (.fix _ _ (.cell (h.n+4) 0) 75 _ A_hr (ai (os':=[none,none,none,some (.cells (bQ eU y1.like++([.val (.sl (List.map (eA eU) y1.first))]:List CV))),some (.cells [.val (.sl (List.map bX rules3)),.val (.ptr (some (h.n+3,0))),.val (.int .i64 r4)])]) (sl:=[(4,.cv (.val (.ptr (some (h.n+4,0))))),(5,.cv (.val (.int .i64 (0:Int))))]) hwf)) cC ⟨rfl,rfl⟩)
     ·refine aG ?_
      refine cD (fun xX:(Int×List bi)=>⟨[(1,.cv (.val (.int .i64 limit))),(6,.cv (.val (.ptr (some (h.n+1,0))))),(8,.cv (.val (.ptr (some (h.n+4,0))))),(43,.cv (.val (.sl (List.map iv p.Rules)))),(44,.cv (.val (.int .i64 (p.Rules.length:Int)))),(45,.cv (.val (.int .i64 xX.1)))],h.on [none,some (.cells [.val (.ptr (some (h.n+2,0))),.val (.sl (List.map (eK .u64) y.masks)),.val (.sl (List.map eI y.least))]),some (.cells (bQ eU y.trie.like++([.val (.sl (List.map (eA eU) y.trie.first))]:List CV))),some (.cells (bQ eU y1.like++([.val (.sl (List.map (eA eU) y1.first))]:List CV))),some (.cells [.row 75 (List.map bX xX.2),.val (.ptr (some (h.n+3,0))),.val (.int .i64 r4)])]⟩) hr (ai hwf) (fun W2 xX hr=>?_)
      obtain ⟨v2,rules4⟩:=xX
      dsimp only[aC.b2]at hr
      refine A_s ?_
      refine an ?_
      refine ar hr (fun cF29 hr=>?_) (fun cF29 hr=>?_)
      ·refine aP ?_
       refine w_n ?_
       refine an ?_
       refine w_K (D:=(Aft W2 D)) (fun xX:List bi=>⟨[(1,.cv (.val (.int .i64 limit))),(6,.cv (.val (.ptr (some (h.n+1,0))))),(8,.cv (.val (.ptr (some (h.n+4,0))))),(43,.cv (.val (.sl (List.map iv p.Rules)))),(44,.cv (.val (.int .i64 (p.Rules.length:Int)))),(45,.cv (.val (.int .i64 v2)))],h.on [none,some (.cells [.val (.ptr (some (h.n+2,0))),.val (.sl (List.map (eK .u64) y.masks)),.val (.sl (List.map eI y.least))]),some (.cells (bQ eU y.trie.like++([.val (.sl (List.map (eA eU) y.trie.first))]:List CV))),some (.cells (bQ eU y1.like++([.val (.sl (List.map (eA eU) y1.first))]:List CV))),some (.cells [.row 75 (List.map bX xX),.val (.ptr (some (h.n+3,0))),.val (.int .i64 r4)])]⟩) (fun xX:List bi=>aC.k5 v2 xX) (fun xX s' hr ht=>?_) ?_
       ·obtain ⟨rules5,rfl⟩:∃ z,z=xX:=⟨xX,rfl⟩
        dsimp only[aC.k5]at hr ht
        refine (w_nT ht ?_)
        refine ah ?_
        exact (w_k ⟨((IntKind.i64.wrap (v2+(1:Int))),rules5),hr,(ai hwf)⟩)
       ·refine aG ?_
        refine an ?_
        obtain ⟨x1,nF30,eF31,gF32,hr⟩:=hr.idx
        refine ah ?_
        refine w_n ?_
        refine A_s ?_
        refine an ?_
        refine an ?_
        refine cI [0,1,2,3,6,4,5] (by rfl) ?_
        refine bA [0,1,2,3,6] [6,3,2,1,0] ?_
        obtain ⟨r10,eF33,hr⟩:=hr.bind
        refine cZ [6,1,0] (out:=?o_eF33) (hp:=?p_eF33) ?c_eF33 ?d_eF33 ?_
        case c_eF33=>exact lr x1.Right eF33
        case d_eF33=>rfl
        refine bA [5] [5,6,1,0] ?_
        refine cW ?_
        refine w_n ?_
        refine w_K (D:=(Aft W2 D)) (fun xX:(List (List Int)×List Bool×List (List Int)×List Bool)=>⟨[(1,.cv (.val (.int .i64 limit))),(6,.cv (.val (.ptr (some (h.n+1,0))))),(8,.cv (.val (.ptr (some (h.n+4,0))))),(11,.cv (.val (.ptr (some (h.n+6,0))))),(43,.cv (.val (.sl (List.map iv p.Rules)))),(44,.cv (.val (.int .i64 (p.Rules.length:Int)))),(45,.cv (.val (.int .i64 v2)))],h.on [none,some (.cells [.val (.ptr (some (h.n+2,0))),.val (.sl (List.map (eK .u64) y.masks)),.val (.sl (List.map eI y.least))]),some (.cells (bQ eU y.trie.like++([.val (.sl (List.map (eA eU) y.trie.first))]:List CV))),some (.cells (bQ eU y1.like++([.val (.sl (List.map (eA eU) y1.first))]:List CV))),some (.cells [.row 75 (List.map bX rules4),.val (.ptr (some (h.n+3,0))),.val (.int .i64 r4)]),none,some (.cells [.val (.bool x1.Break),.val (.sl (List.map (eL eI) xX.1)),.val (.sl (List.map eB xX.2.1)),.val (.sl (List.map (eL eI) xX.2.2.1)),.val (.sl (List.map eB xX.2.2.2))])]⟩) (fun xX:(List (List Int)×List Bool×List (List Int)×List Bool)=>aC.k6 v2 rules4 x1 xX.1 xX.2.1 xX.2.2.1 xX.2.2.2) (fun xX s' hr ht=>?_) ?_
        ·obtain ⟨Next2,Final2,Next3,Final3⟩:=xX
         dsimp only[aC.k6]at hr ht
         refine (w_nT ht ?_)
         refine cI [0,1,2,3,4,5,6,7,8,9,10] (by rfl) ?_
         obtain ⟨nF34,hr⟩:=hr.room
         refine bA [0,1,2,3,4,5,6] [6,5,4,3,2,1,0] ?_
         refine cP [0] ?_
         refine bA [8,9] [9,8,0] ?_
         refine cP [] ?_
         refine cW ?_
         exact (w_bn (w_k ⟨(rules4++([(bi.mk x1.Break (ss.mk (TDfa.mk Next2 Final2) (TDfa.mk Next3 Final3)))])),hr,(ai hwf)⟩))
        ·refine aG ?_
         refine oB ?_
         refine A_s ?_
         refine an ?_
         refine lG true (fun _=>?_) (fun cF35=>by cases cF35)
         refine aP ?_
         refine w_n ?_
         refine an ?_
         refine aG ?_
         refine A_s ?_
         refine an ?_
         refine cI [0,1,2,4,9,3,5,6,7,8,10,11,12] (by rfl) ?_
         refine bA [0,1,2,4,9] [9,4,2,1,0] ?_
         obtain ⟨r11,eF36,hr⟩:=hr.bind
         refine cZ [9,4,1,0] (out:=?o_eF36) (hp:=?p_eF36) ?c_eF36 ?d_eF36 ?_
         case c_eF36=>(refine dg y (h.n+1) (h.n+2) ?_ ?_ ?_ eF36;exact cC;exact cC;exact A_ne)
         case d_eF36=>rfl
         obtain ⟨r12,eF37,hr⟩:=hr.bind
         refine cZ [9,0] (out:=?o_eF37) (hp:=?p_eF37) ?c_eF37 ?d_eF37 ?_
         case c_eF37=>exact gn ((kc.mk x1.Left r10).v0) r11 limit eF37
         case d_eF37=>rfl
         refine bA [6,7,8,10] [10,8,7,6,9,0] ?_
         refine cP [8] ?_
         refine cP [] ?_
         refine cW ?_
         refine w_n ?_
         refine A_s ?_
         refine ar hr (fun cF38 hr=>?_) (fun cF38 hr=>?_)
         ·refine an ?_
          refine ah ?_
          refine w_n ?_
          refine bn ?_
          obtain rfl:=hD _ hr
          exact (w_br (w_tr (w_tr (w_br (w_tr (w_tr (w_br (w_tr (w_tr (w_tr (w_br (w_tr (w_tr (aY (ai (os':=[]) (sl:=[(4,.cv (.val (.ptr none))),(5,.cv (.val (.int .i64 r12.2)))]) hwf) ⟨rfl,aN hwf⟩))))))))))))))
         ·refine aP ?_
          refine (w_bn (w_n ?_))
          have qF39:IntKind.i64.wrap ((0:Int)+(1:Int))=(1:Int):=by decide
          refine ah ?_
          refine (w_k ?_)
          refine oB ?_
          refine A_s ?_
          refine an ?_
          refine lG true (fun _=>?_) (fun cF40=>by cases cF40)
          refine aP ?_
          refine w_n ?_
          refine an ?_
          refine aG ?_
          refine A_s ?_
          refine an ?_
          refine cI [0,1,2,4,9,3,5,6,7,8,10,11,12] (by rfl) ?_
          refine bA [0,1,2,4,9] [9,4,2,1,0] ?_
          obtain ⟨r13,eF41,hr⟩:=hr.bind
          refine cZ [9,4,1,0] (out:=?o_eF41) (hp:=?p_eF41) ?c_eF41 ?d_eF41 ?_
          case c_eF41=>(refine dg y (h.n+1) (h.n+2) ?_ ?_ ?_ eF41;exact cC;exact cC;exact A_ne)
          case d_eF41=>rfl
          obtain ⟨r14,eF42,hr⟩:=hr.bind
          refine cZ [9,0] (out:=?o_eF42) (hp:=?p_eF42) ?c_eF42 ?d_eF42 ?_
          case c_eF42=>exact gn ((kc.mk x1.Left r10).v1) r13 limit eF42
          case d_eF42=>rfl
          refine bA [6,7,8,10] [10,8,7,6,9,0] ?_
          refine cP [8] ?_
          refine cP [] ?_
          refine cW ?_
          refine w_n ?_
          refine A_s ?_
          refine ar hr (fun cF43 hr=>?_) (fun cF43 hr=>?_)
          ·refine an ?_
           refine ah ?_
           refine w_n ?_
           refine bn ?_
           obtain rfl:=hD _ hr
           exact (w_br (w_tr (w_tr (w_br (w_tr (w_tr (w_br (w_tr (w_tr (w_tr (w_br (w_tr (w_tr (aY (ai (os':=[]) (sl:=[(4,.cv (.val (.ptr none))),(5,.cv (.val (.int .i64 r14.2)))]) hwf) ⟨rfl,aN hwf⟩))))))))))))))
          ·refine aP ?_
           refine (w_bn (w_n ?_))
           have qF44:IntKind.i64.wrap ((1:Int)+(1:Int))=(2:Int):=by decide
           refine ah ?_
           refine (w_k ?_)
           refine oB ?_
           refine A_s ?_
           refine an ?_
           refine lG false (fun cF45=>by cases cF45) (fun _=>?_)
           refine cB ?_
           exact (w_te (w_te (w_bx (w_k ⟨(r12.1.Next,r12.1.Final,r14.1.Next,r14.1.Final),hr,(ai hwf)⟩))))
      ·refine cB ?_
       exact (w_te (w_te (w_bx (w_k ⟨rules4,(hr).map,(ai hwf)⟩))))
theorem gD (p:bP) (limit:Int) {h:Heap} {a:(Option aQ×Int)} (e:aC p limit=some a) (hx:a.1=none):
  Runs CT 11 [.cv (.val (.agg [.sl (List.map (eL bb) p.Sets),.sl (List.map iv p.Rules)])),.cv (.val (.int .i64 limit))] h fun o h'=>o=[.cv (.val (.ptr none)),.cv (.val (.int .i64 a.2))]∧h'=h:=by
 have:=je (h:=h) p limit e
 rw[hx]at this
 exact this
theorem gq (p:bP) (limit:Int) {h:Heap} {a:(Option aQ×Int)} {y:aQ} (e:aC p limit=some a) (hx:a.1=some y):
  Runs CT 11 [.cv (.val (.agg [.sl (List.map (eL bb) p.Sets),.sl (List.map iv p.Rules)])),.cv (.val (.int .i64 limit))] h fun o h'=>o=[.cv (.val (.ptr (some (h.n+4,0)))),.cv (.val (.int .i64 a.2))]∧h'=h.on [none,none,none,some (.cells (bQ eU y.trie.like++([.val (.sl (List.map (eA eU) y.trie.first))]:List CV))),some (.cells [.val (.sl (List.map bX y.rules)),.val (.ptr (some (h.n+3,0))),.val (.int .i64 y.classes)])]:=by
 have:=je (h:=h) p limit e
 rw[hx]at this
 exact this
end Go.Val
namespace Go.Val
set_option maxRecDepth 20000
open Go.Proofs
theorem oa (r:Int) {h:Heap} {a:Bool} (e:ie r=some a):
  Runs CT 92 [.cv (.val (.int .i64 r))] h fun o h'=>o=[.cv (.val (.bool a))]∧h'=h:=by
 refine bf Tryz.func92 fun hwf hu=>?_
 obtain ⟨D,hD,hr⟩:=Holds.one e
 dsimp only[ie]at hr
 change aK _ _ _ _ _ ⟨[(0,.cv (.val (.int .i64 r)))],h.on []⟩
 refine A_s ?_
 refine cn (sj:=⟨[(2,.cv (.val (.bool ((decide (r < (0:Int)))||(decide (r > (1114111:Int)))))))],h.on []⟩) (bC ?_) ?_
 ·refine au 3 ?_
  rcases Bool.eq_false_or_eq_true (decide (r < (0:Int)))with cF1 | cF1
  ·refine af ?_
   exact w_k (ai hwf)
  ·refine af ?_
   exact w_k (ai hwf)
 refine bn ?_
 obtain rfl:=hD _ hr
 exact (aY (ai (os':=[]) (sl:=[(2,.cv (.val (.bool ((decide (r < (0:Int)))||(decide (r > (1114111:Int)))))))]) hwf) ⟨rfl,aN hwf⟩)
end Go.Val
namespace Go.Val
set_option maxRecDepth 20000
open Go.Proofs
theorem lu (l:List Int) {h:Heap} {a:Bool} (e:iD l=some a):
  Runs CT 38 [.cv (.val (.sl (List.map eI l)))] h fun o h'=>o=[.cv (.val (.bool a))]∧h'=h:=by
 refine bf Tryz.func38 fun hwf hu=>?_
 obtain ⟨D,hD,hr⟩:=Holds.one e
 dsimp only[iD]at hr
 change aK _ _ _ _ _ ⟨[(0,.cv (.val (.sl (List.map eI l))))],h.on []⟩
 refine A_s ?_
 refine an ?_
 refine bC ?_
 refine au 1 ?_
 obtain ⟨r,eF1,hr⟩:=hr.bind
 refine be (out:=?o_eF1) (hp:=?p_eF1) ?c_eF1 ?d_eF1 ?_
 case c_eF1=>(refine dp l (ie) _ _ ?_ ?_ eF1;(exact (fun os x0 r e=>oa x0 e));(exact (fun i=>by simp[CT])))
 case d_eF1=>rfl
 refine af ?_
 refine w_n ?_
 refine bn ?_
 obtain rfl:=hD _ hr
 exact (aY (ai (os':=[]) (sl:=[(2,.cv (.val (.bool (!r))))]) hwf) ⟨rfl,aN hwf⟩)
end Go.Val
namespace Go.Val
set_option maxRecDepth 20000
open Go.Proofs
theorem dX (i:Int) (p1:Int) (p2:List Int) (l1:Nat) (l2:Nat) {h:Heap} (ha1:h.at_ l1=some (.cells [.val (.int .i64 p1)])) (ha2:h.at_ l2=some (.cells [.val (.sl (List.map eI p2))])) (hn1_2:l1≠l2) {a:Int} (e:cU i p1 p2=some a):
  Runs CT 166 [.cv (.val (.int .i64 i)),.cv (.val (.ptr (some (l1,0)))),.cv (.val (.ptr (some (l2,0))))] h fun o h'=>o=[.cv (.val (.int .i64 a))]∧h'=h:=by
 refine bf Tryz.func166 fun hwf hu=>?_
 have hl1:=(hwf _ _ ha1).1
 have kl1:=locF hl1
 have hl2:=(hwf _ _ ha2).1
 have kl2:=locF hl2
 obtain ⟨D,hD,hr⟩:=Holds.one e
 dsimp only[cU]at hr
 change aK _ _ _ _ _ ⟨[(0,.cv (.val (.int .i64 i))),(1,.cv (.val (.ptr (some (l1,0))))),(2,.cv (.val (.ptr (some (l2,0)))))],h.on []⟩
 refine A_s ?_
 refine an ?_
 refine A_s ?_
 refine ar hr (fun cF1 hr=>?_) (fun cF1 hr=>?_)
 ·refine an ?_
  refine ah ?_
  refine w_n ?_
  refine bn ?_
  obtain rfl:=hD _ hr
  exact (w_tr (aY (ai (os':=[]) (sl:=[(4,.cv (.val (.int .i64 (IntKind.i64.wrap ((p2.length:Int) - i)))))]) hwf) ⟨rfl,aN hwf⟩))
 ·refine aP ?_
  refine w_n ?_
  refine A_s ?_
  refine bn ?_
  obtain rfl:=hD _ hr
  exact (aY (ai (os':=[]) (sl:=[(4,.cv (.val (.int .i64 i)))]) hwf) ⟨rfl,aN hwf⟩)
end Go.Val
namespace Go.Val
set_option maxRecDepth 20000
open Go.Proofs
theorem gi (m:aQ) (l:List Int) (d:TDfa) (which:Int) (l0:Nat) (l0p1:Nat) {h:Heap} (ha0:h.at_ l0=some (.cells [.val (.sl (List.map bX m.rules)),.val (.ptr (some (l0p1,0))),.val (.int .i64 m.classes)])) (ha0p1:h.at_ l0p1=some (.cells (bQ eU m.trie.like++([.val (.sl (List.map (eA eU) m.trie.first))]:List CV)))) (hn0_0p1:l0≠l0p1) {a:List Bool} (e:aS m l d which=some a):
  Runs CT 93 [.cv (.val (.ptr (some (l0,0)))),.cv (.val (.sl (List.map eI l))),.cv (.val (.agg [.sl (List.map (eL eI) d.Next),.sl (List.map eB d.Final)])),.cv (.val (.int .i64 which))] h fun o h'=>o=[.cv (.val (.sl (List.map eB a)))]∧h'=h:=by
 refine bf Tryz.func93 fun hwf hu=>?_
 have hl0:=(hwf _ _ ha0).1
 have kl0:=locF hl0
 have hl0p1:=(hwf _ _ ha0p1).1
 have kl0p1:=locF hl0p1
 obtain ⟨D,hD,hr⟩:=Holds.one e
 dsimp only[aS]at hr
 change aK _ _ _ _ _ ⟨[(0,.cv (.val (.ptr (some (l0,0))))),(1,.cv (.val (.sl (List.map eI l)))),(2,.cv (.val (.agg [.sl (List.map (eL eI) d.Next),.sl (List.map eB d.Final)]))),(3,.cv (.val (.int .i64 which)))],h.on []⟩
 refine A_s ?_
 refine an ?_
 obtain ⟨nF1,nF2,hr⟩:=hr.mk
 refine ah ?_
 refine w_n ?_
 iterate 2 refine A_s ?_
 refine an ?_
 refine A_s ?_
 refine w_K (D:=D) (fun xX:List Bool=>⟨[(9,.cv (.row 4 (List.map eB xX)))],h.on []⟩) (fun xX:List Bool=>aS.k1 xX) (fun xX s' hr ht=>?_) ?_
 ·obtain ⟨out,rfl⟩:∃ z,z=xX:=⟨xX,rfl⟩
  dsimp only[aS.k1]at hr ht
  refine (w_nT ht ?_)
  refine A_s ?_
  refine bn ?_
  obtain rfl:=hD _ hr
  exact (aY (.fix _ _ (.slot 8) 4 _ A_hr (ai (os':=[]) (sl:=[(8,.cv (.val (.sl (List.map eB out))))]) hwf)) ⟨rfl,aN hwf⟩)
 ·refine aG ?_
  refine cD (fun xX:(List Bool×Int×Int)=>⟨[(0,.cv (.val (.ptr (some (l0,0))))),(5,.cv (.val (.ptr (some (h.n+0,0))))),(6,.cv (.val (.ptr (some (h.n+1,0))))),(9,.cv (.row 4 (List.map eB xX.1))),(10,.cv (.val (.int .i64 xX.2.1))),(11,.cv (.val (.fn 166 [] [.ptr (some (h.n+2,0)),.ptr (some (h.n+0,0))]))),(19,.cv (.val (.int .i64 ((List.replicate (Int.toNat (IntKind.i64.wrap ((l.length:Int)+(1:Int)))) false).length:Int)))),(20,.cv (.val (.int .i64 xX.2.2)))],h.on [some (.cells [.val (.sl (List.map eI l))]),some (.cells [.val (.sl (List.map (eL eI) d.Next)),.val (.sl (List.map eB d.Final))]),some (.cells [.val (.int .i64 which)])]⟩) hr (ai hwf) (fun W1 xX hr=>?_)
  obtain ⟨out1,s,v⟩:=xX
  dsimp only[aS.b1]at hr
  refine A_s ?_
  refine an ?_
  refine ar hr (fun cF3 hr=>?_) (fun cF3 hr=>?_)
  ·refine aP ?_
   refine w_n ?_
   refine an ?_
   refine w_K (D:=(Aft W1 D)) (fun xX:(List Bool×Int)=>⟨[(0,.cv (.val (.ptr (some (l0,0))))),(5,.cv (.val (.ptr (some (h.n+0,0))))),(6,.cv (.val (.ptr (some (h.n+1,0))))),(9,.cv (.row 4 (List.map eB xX.1))),(10,.cv (.val (.int .i64 xX.2))),(11,.cv (.val (.fn 166 [] [.ptr (some (h.n+2,0)),.ptr (some (h.n+0,0))]))),(19,.cv (.val (.int .i64 ((List.replicate (Int.toNat (IntKind.i64.wrap ((l.length:Int)+(1:Int)))) false).length:Int)))),(20,.cv (.val (.int .i64 v)))],h.on [some (.cells [.val (.sl (List.map eI l))]),some (.cells [.val (.sl (List.map (eL eI) d.Next)),.val (.sl (List.map eB d.Final))]),some (.cells [.val (.int .i64 which)])]⟩) (fun xX:(List Bool×Int)=>aS.k2 v xX.1 xX.2) (fun xX s' hr ht=>?_) ?_
   ·obtain ⟨out2,s1⟩:=xX
    dsimp only[aS.k2]at hr ht
    refine (w_nT ht ?_)
    refine ah ?_
    exact (w_k ⟨(out2,s1,(IntKind.i64.wrap (v+(1:Int)))),hr,(ai hwf)⟩)
   ·refine aG ?_
    refine A_s ?_
    refine an ?_
    refine cI [0,1,2,4,5,6,7,8,3,9,10] (by rfl) ?_
    obtain ⟨b,nF4,eF5,gF6,hr⟩:=hr.idx
    refine bA [0,1,2,4,5,6,7,8] [8,7,6,5,4,2,1,0] ?_
    obtain ⟨r,eF7,hr⟩:=hr.bind
    refine cZ [8,7,6,5,4,0] (out:=?o_eF7) (hp:=?p_eF7) ?c_eF7 ?d_eF7 ?_
    case c_eF7=>(refine dX v which l (h.n+2) (h.n+0) ?_ ?_ ?_ eF7;exact cC;exact cC;exact A_ne)
    case d_eF7=>rfl
    obtain ⟨b1,nF8,eF9,gF10,hr⟩:=hr.idx
    refine bA [9] [9,8,7,6,5,4,0] ?_
    refine cP [] ?_
    refine cW ?_
    refine w_n ?_
    refine A_s ?_
    refine ar hr (fun cF11 hr=>?_) (fun cF11 hr=>?_)
    ·refine cI [0,1,2,3,4,5,6,7,8,9,10,11,13,14,15,12,16,17,18,19,20,21,22,23] (by rfl) ?_
     obtain ⟨xs,nF12,eF13,gF14,hr⟩:=hr.idx
     refine bA [0,1,2,3,4,5,6,7,8,9,10,11,13,14,15] [15,14,13,11,10,9,8,7,6,5,4,3,2,1,0] ?_
     obtain ⟨r1,eF15,hr⟩:=hr.bind
     refine cZ [15,14,13,9,8,7,6,5,4,3,2,1,0] (out:=?o_eF15) (hp:=?p_eF15) ?c_eF15 ?d_eF15 ?_
     case c_eF15=>(refine dX v which l (h.n+2) (h.n+0) ?_ ?_ ?_ eF15;exact cC;exact cC;exact A_ne)
     case d_eF15=>rfl
     obtain ⟨r2,eF16,hr⟩:=hr.bind
     refine cZ [9,8,7,6,5,4,3,2,1,0] (out:=?o_eF16) (hp:=?p_eF16) ?c_eF16 ?d_eF16 ?_
     case c_eF16=>(refine dX (IntKind.i64.wrap (v+(1:Int))) which l (h.n+2) (h.n+0) ?_ ?_ ?_ eF16;exact cC;exact cC;exact A_ne)
     case d_eF16=>rfl
     obtain ⟨n,nF17,eF18,gF19,hr⟩:=hr.idx
     refine bA [17,18,19] [19,18,17,9,8,7,6,5,4,3,2,1,0] ?_
     obtain ⟨r3,eF20,hr⟩:=hr.bind
     refine cZ [4,3,2,1,0] (out:=?o_eF20) (hp:=?p_eF20) ?c_eF20 ?d_eF20 ?_
     case c_eF20=>(refine jK m.trie n (l0p1) ?_ eF20;exact cC)
     case d_eF20=>rfl
     obtain ⟨n1,nF21,eF22,gF23,hr⟩:=hr.idx
     refine bA [21,22] [22,21,4,3,2,1,0] ?_
     refine cP [] ?_
     refine cW ?_
     exact (w_bn (w_k ⟨((List.set out1 (Int.toNat r) b),n1),hr,(ai hwf)⟩))
    ·refine aP ?_
     exact (w_bn (w_k ⟨((List.set out1 (Int.toNat r) b),s),hr,(ai hwf)⟩))
  ·refine cB ?_
   exact (w_te (w_te (w_bx (w_k ⟨out1,(hr).map,(ai hwf)⟩))))
end Go.Val
namespace Go.Val
set_option maxRecDepth 20000
open Go.Proofs
theorem fW (m:aQ) (l:List Int) (l0:Nat) (l0p1:Nat) {h:Heap} (ha0:h.at_ l0=some (.cells [.val (.sl (List.map bX m.rules)),.val (.ptr (some (l0p1,0))),.val (.int .i64 m.classes)])) (ha0p1:h.at_ l0p1=some (.cells (bQ eU m.trie.like++([.val (.sl (List.map (eA eU) m.trie.first))]:List CV)))) (hn0_0p1:l0≠l0p1) {a:List Int} (e:ao m l=some a):
  Runs CT 39 [.cv (.val (.ptr (some (l0,0)))),.cv (.val (.sl (List.map eI l)))] h fun o h'=>o=[.cv (.val (.sl (List.map eI a)))]∧h'=h:=by
 refine bf Tryz.func39 fun hwf hu=>?_
 have hl0:=(hwf _ _ ha0).1
 have kl0:=locF hl0
 have hl0p1:=(hwf _ _ ha0p1).1
 have kl0p1:=locF hl0p1
 obtain ⟨D,hD,hr⟩:=Holds.one e
 dsimp only[ao]at hr
 change aK _ _ _ _ _ ⟨[(0,.cv (.val (.ptr (some (l0,0))))),(1,.cv (.val (.sl (List.map eI l))))],h.on []⟩
 refine A_s ?_
 refine an ?_
 obtain ⟨nF1,nF2,hr⟩:=hr.mk
 refine ah ?_
 refine w_n ?_
 refine an ?_
 refine A_s ?_
 refine w_K (D:=D) (fun xX:List Int=>⟨[(0,.cv (.val (.ptr (some (l0,0))))),(1,.cv (.val (.sl (List.map eI l)))),(5,.cv (.row 3 (List.map eI xX)))],h.on []⟩) (fun xX:List Int=>ao.k1 m l xX) (fun xX s' hr ht=>?_) ?_
 ·obtain ⟨out,rfl⟩:∃ z,z=xX:=⟨xX,rfl⟩
  dsimp only[ao.k1]at hr ht
  refine (w_nT ht ?_)
  refine an ?_
  refine A_s ?_
  refine w_K (D:=D) (fun xX:List Int=>⟨[(5,.cv (.row 3 (List.map eI xX)))],h.on []⟩) (fun xX:List Int=>ao.k2 xX) (fun xX s' hr ht=>?_) ?_
  ·obtain ⟨out1,rfl⟩:∃ z,z=xX:=⟨xX,rfl⟩
   dsimp only[ao.k2]at hr ht
   refine (w_nT ht ?_)
   refine A_s ?_
   refine bn ?_
   obtain rfl:=hD _ hr
   exact (aY (.fix _ _ (.slot 4) 3 _ A_hr (ai (os':=[]) (sl:=[(4,.cv (.val (.sl (List.map eI out1))))]) hwf)) ⟨rfl,aN hwf⟩)
  ·refine aG ?_
   refine cD (fun xX:(List Int×Int)=>⟨[(0,.cv (.val (.ptr (some (l0,0))))),(1,.cv (.val (.sl (List.map eI l)))),(5,.cv (.row 3 (List.map eI xX.1))),(7,.cv (.val (.int .i64 xX.2)))],h.on []⟩) hr (ai hwf) (fun W1 xX hr=>?_)
   obtain ⟨out2,k⟩:=xX
   dsimp only[ao.b1]at hr
   refine an ?_
   refine A_s ?_
   refine ar hr (fun cF3 hr=>?_) (fun cF3 hr=>?_)
   ·refine aP ?_
    refine w_n ?_
    refine an ?_
    refine w_K (D:=(Aft W1 D)) (fun xX:List Int=>⟨[(0,.cv (.val (.ptr (some (l0,0))))),(1,.cv (.val (.sl (List.map eI l)))),(5,.cv (.row 3 (List.map eI xX))),(7,.cv (.val (.int .i64 k)))],h.on []⟩) (fun xX:List Int=>ao.k3 k xX) (fun xX s' hr ht=>?_) ?_
    ·obtain ⟨out3,rfl⟩:∃ z,z=xX:=⟨xX,rfl⟩
     dsimp only[ao.k3]at hr ht
     refine (w_nT ht ?_)
     refine ah ?_
     exact (w_k ⟨(out3,(IntKind.i64.wrap (k - (1:Int)))),hr,(ai hwf)⟩)
    ·refine aG ?_
     refine an ?_
     refine cI [0,1,2,3,4,5,6,7,8,9,10,12,13,14,15,16,17,18,19,20,21,22,11,23,24,25] (by rfl) ?_
     obtain ⟨x,nF4,eF5,gF6,hr⟩:=hr.idx
     refine bA [0,1,2,3,4,5,6,7,8,9,10,12,13,14,15,16,17,18,19,20,21,22] [22,21,20,19,18,17,16,15,14,13,12,10,9,8,7,6,5,4,3,2,1,0] ?_
     obtain ⟨r,eF7,hr⟩:=hr.bind
     refine cZ [22,21,20,19,18,17,16,15,14,13,12] (out:=?o_eF7) (hp:=?p_eF7) ?c_eF7 ?d_eF7 ?_
     case c_eF7=>(refine gi m l x.states.v0 (0:Int) (l0) (l0p1) ?_ ?_ ?_ eF7;exact cC;exact cC;exact A_ne)
     case d_eF7=>rfl
     obtain ⟨r1,eF8,hr⟩:=hr.bind
     refine cZ [] (out:=?o_eF8) (hp:=?p_eF8) ?c_eF8 ?d_eF8 ?_
     case c_eF8=>(refine gi m l x.states.v1 (1:Int) (l0) (l0p1) ?_ ?_ ?_ eF8;exact cC;exact cC;exact A_ne)
     case d_eF8=>rfl
     refine cP [] ?_
     refine cP [] ?_
     refine cW ?_
     refine w_n ?_
     refine A_s ?_
     refine aG ?_
     refine cD (fun xX:(List Int×Int)=>⟨[(0,.cv (.val (.ptr (some (l0,0))))),(1,.cv (.val (.sl (List.map eI l)))),(5,.cv (.row 3 (List.map eI xX.1))),(7,.cv (.val (.int .i64 k))),(8,.cv (.val (.sl (List.map eB r)))),(9,.cv (.val (.sl (List.map eB r1)))),(59,.cv (.val (.int .i64 (out2.length:Int)))),(60,.cv (.val (.int .i64 xX.2)))],h.on []⟩) hr (ai hwf) (fun W2 xX hr=>?_)
     obtain ⟨out4,v⟩:=xX
     dsimp only[ao.b2]at hr
     refine A_s ?_
     refine an ?_
     refine ar hr (fun cF9 hr=>?_) (fun cF9 hr=>?_)
     ·refine aP ?_
      refine w_n ?_
      refine an ?_
      refine w_K (D:=(Aft W2 (Aft W1 D))) (fun xX:List Int=>⟨[(0,.cv (.val (.ptr (some (l0,0))))),(1,.cv (.val (.sl (List.map eI l)))),(5,.cv (.row 3 (List.map eI xX))),(7,.cv (.val (.int .i64 k))),(8,.cv (.val (.sl (List.map eB r)))),(9,.cv (.val (.sl (List.map eB r1)))),(59,.cv (.val (.int .i64 (out2.length:Int)))),(60,.cv (.val (.int .i64 v)))],h.on []⟩) (fun xX:List Int=>ao.k4 v xX) (fun xX s' hr ht=>?_) ?_
      ·obtain ⟨out5,rfl⟩:∃ z,z=xX:=⟨xX,rfl⟩
       dsimp only[ao.k4]at hr ht
       refine (w_nT ht ?_)
       refine ah ?_
       exact (w_k ⟨(out5,(IntKind.i64.wrap (v+(1:Int)))),hr,(ai hwf)⟩)
      ·refine aG ?_
       refine A_s ?_
       obtain ⟨v1,vF17,hr⟩:=hr.bind
       refine cn (sj:=⟨[(0,.cv (.val (.ptr (some (l0,0))))),(1,.cv (.val (.sl (List.map eI l)))),(5,.cv (.row 3 (List.map eI out4))),(7,.cv (.val (.int .i64 k))),(8,.cv (.val (.sl (List.map eB r)))),(9,.cv (.val (.sl (List.map eB r1)))),(10,.cv (.val (.int .i64 v))),(59,.cv (.val (.int .i64 (out2.length:Int)))),(60,.cv (.val (.int .i64 v))),(72,.cv (.val (.bool v1)))],h.on []⟩) (bC ?_) ?_
       ·have hr:=Holds.intro (D:=fun z=>z=v1) vF17 rfl
        obtain ⟨b,nF10,eF11,gF12,hr⟩:=hr.idx
        refine au 5 ?_
        rcases hr.ite with ⟨cF13,hr⟩ | ⟨cF13,hr⟩
        ·obtain ⟨b1,nF14,eF15,gF16,hr⟩:=hr.idx
         refine af ?_
         obtain rfl:_=v1:=hr
         exact w_k (ai hwf)
        ·refine af ?_
         obtain rfl:_=v1:=hr
         exact w_k (ai hwf)
       refine ar hr (fun cF18 hr=>?_) (fun cF18 hr=>?_)
       ·obtain ⟨n,nF19,eF20,gF21,hr⟩:=hr.idx
        refine ah ?_
        exact (w_bn (w_k ⟨(List.set out4 (Int.toNat v) k),hr,(ai hwf)⟩))
       ·refine aP ?_
        exact (w_bn (w_k ⟨out4,hr,(ai hwf)⟩))
     ·refine cB ?_
      exact (w_te (w_te (w_bx (w_bn (w_k ⟨out4,(hr).map,(ai hwf)⟩)))))
   ·refine cB ?_
    exact (w_te (w_te (w_bx (w_k ⟨out2,(hr).map,(ai hwf)⟩))))
 ·refine aG ?_
  refine cD (fun xX:(List Int×Int)=>⟨[(0,.cv (.val (.ptr (some (l0,0))))),(1,.cv (.val (.sl (List.map eI l)))),(5,.cv (.row 3 (List.map eI xX.1))),(16,.cv (.val (.int .i64 ((List.replicate (Int.toNat (IntKind.i64.wrap ((l.length:Int)+(1:Int)))) (0:Int)).length:Int)))),(17,.cv (.val (.int .i64 xX.2)))],h.on []⟩) hr (ai hwf) (fun W3 xX hr=>?_)
  obtain ⟨out6,v2⟩:=xX
  dsimp only[ao.b3]at hr
  refine A_s ?_
  refine an ?_
  refine ar hr (fun cF22 hr=>?_) (fun cF22 hr=>?_)
  ·refine aP ?_
   refine w_n ?_
   refine an ?_
   refine aG ?_
   refine A_s ?_
   obtain ⟨n1,nF23,eF24,gF25,hr⟩:=hr.idx
   refine ah ?_
   refine (w_bn (w_n ?_))
   refine ah ?_
   exact (w_k ⟨((List.set out6 (Int.toNat v2) (-1:Int)),(IntKind.i64.wrap (v2+(1:Int)))),hr,(ai hwf)⟩)
  ·refine cB ?_
   exact (w_te (w_te (w_bx (w_k ⟨out6,(hr).map,(ai hwf)⟩))))
end Go.Val
namespace Go.Val
set_option maxRecDepth 20000
open Go.Proofs
theorem gK (m:aQ) (l:List Int) (l0:Nat) (l0p1:Nat) {h:Heap} (ha0:h.at_ l0=some (.cells [.val (.sl (List.map bX m.rules)),.val (.ptr (some (l0p1,0))),.val (.int .i64 m.classes)])) (ha0p1:h.at_ l0p1=some (.cells (bQ eU m.trie.like++([.val (.sl (List.map (eA eU) m.trie.first))]:List CV)))) (hn0_0p1:l0≠l0p1) {a:List Int} (e:ba m l=some a):
  Runs CT 12 [.cv (.val (.ptr (some (l0,0)))),.cv (.val (.sl (List.map eI l)))] h fun o h'=>o=[.cv (.val (.sl (List.map eI a)))]∧h'=h:=by
 refine bf Tryz.func12 fun hwf hu=>?_
 have hl0:=(hwf _ _ ha0).1
 have kl0:=locF hl0
 have hl0p1:=(hwf _ _ ha0p1).1
 have kl0p1:=locF hl0p1
 obtain ⟨D,hD,hr⟩:=Holds.one e
 dsimp only[ba]at hr
 change aK _ _ _ _ _ ⟨[(0,.cv (.val (.ptr (some (l0,0))))),(1,.cv (.val (.sl (List.map eI l))))],h.on []⟩
 refine A_s ?_
 refine an ?_
 refine an ?_
 refine bC ?_
 refine au 1 ?_
 obtain ⟨r,eF1,hr⟩:=hr.bind
 refine be (out:=?o_eF1) (hp:=?p_eF1) ?c_eF1 ?d_eF1 ?_
 case c_eF1=>exact lu l eF1
 case d_eF1=>rfl
 refine af ?_
 refine w_n ?_
 refine ar hr (fun cF2 hr=>?_) (fun cF2 hr=>?_)
 ·refine an ?_
  refine ah ?_
  refine w_n ?_
  refine bn ?_
  obtain rfl:=hD _ hr
  exact (w_tr (aY (ai (os':=[]) (sl:=[(4,.cv (.val (.sl (List.map eI ([]:List Int)))))]) hwf) ⟨rfl,aN hwf⟩))
 ·refine aP ?_
  refine w_n ?_
  refine A_s ?_
  refine an ?_
  refine an ?_
  refine bC ?_
  refine au 2 ?_
  obtain ⟨r1,eF3,hr⟩:=hr.bind
  refine be (out:=?o_eF3) (hp:=?p_eF3) ?c_eF3 ?d_eF3 ?_
  case c_eF3=>(refine fW m l (l0) (l0p1) ?_ ?_ ?_ eF3;exact cC;exact cC;exact A_ne)
  case d_eF3=>rfl
  refine af ?_
  refine w_n ?_
  refine w_K (D:=D) (fun xX:List Int=>⟨[(5,.cv (.row 3 (List.map eI xX)))],h.on []⟩) (fun xX:List Int=>ba.k1 xX) (fun xX s' hr ht=>?_) ?_
  ·obtain ⟨out,rfl⟩:∃ z,z=xX:=⟨xX,rfl⟩
   dsimp only[ba.k1]at hr ht
   refine (w_nT ht ?_)
   refine A_s ?_
   refine bn ?_
   obtain rfl:=hD _ hr
   exact (aY (.fix _ _ (.slot 4) 3 _ A_hr (ai (os':=[]) (sl:=[(4,.cv (.val (.sl (List.map eI out))))]) hwf)) ⟨rfl,aN hwf⟩)
  ·refine aG ?_
   refine cD (fun xX:(List Int×Int)=>⟨[(0,.cv (.val (.ptr (some (l0,0))))),(1,.cv (.val (.sl (List.map eI l)))),(5,.cv (.row 3 (List.map eI xX.1))),(13,.cv (.val (.sl (List.map eI r1)))),(14,.cv (.val (.int .i64 (r1.length:Int)))),(15,.cv (.val (.int .i64 xX.2)))],h.on []⟩) hr (ai hwf) (fun W1 xX hr=>?_)
   obtain ⟨out1,v⟩:=xX
   dsimp only[ba.b1]at hr
   refine A_s ?_
   refine an ?_
   refine ar hr (fun cF4 hr=>?_) (fun cF4 hr=>?_)
   ·refine aP ?_
    refine w_n ?_
    refine an ?_
    refine w_K (D:=(Aft W1 D)) (fun xX:List Int=>⟨[(0,.cv (.val (.ptr (some (l0,0))))),(1,.cv (.val (.sl (List.map eI l)))),(5,.cv (.row 3 (List.map eI xX))),(13,.cv (.val (.sl (List.map eI r1)))),(14,.cv (.val (.int .i64 (r1.length:Int)))),(15,.cv (.val (.int .i64 v)))],h.on []⟩) (fun xX:List Int=>ba.k2 v xX) (fun xX s' hr ht=>?_) ?_
    ·obtain ⟨out2,rfl⟩:∃ z,z=xX:=⟨xX,rfl⟩
     dsimp only[ba.k2]at hr ht
     refine (w_nT ht ?_)
     refine ah ?_
     exact (w_k ⟨(out2,(IntKind.i64.wrap (v+(1:Int)))),hr,(ai hwf)⟩)
    ·refine aG ?_
     refine an ?_
     obtain ⟨n,nF5,eF6,gF7,hr⟩:=hr.idx
     refine ah ?_
     refine w_n ?_
     obtain ⟨v1,vF14,hr⟩:=hr.bind
     refine cn (sj:=⟨[(0,.cv (.val (.ptr (some (l0,0))))),(1,.cv (.val (.sl (List.map eI l)))),(5,.cv (.row 3 (List.map eI out1))),(6,.cv (.val (.int .i64 v))),(13,.cv (.val (.sl (List.map eI r1)))),(14,.cv (.val (.int .i64 (r1.length:Int)))),(15,.cv (.val (.int .i64 v))),(41,.cv (.val (.bool v1)))],h.on []⟩) (bC ?_) ?_
     ·have hr:=Holds.intro (D:=fun z=>z=v1) vF14 rfl
      refine au 3 ?_
      rcases hr.ite with ⟨cF8,hr⟩ | ⟨cF8,hr⟩
      ·refine af ?_
       obtain rfl:_=v1:=hr
       exact w_k (ai hwf)
      ·refine au 6 ?_
       rcases hr.ite with ⟨cF9,hr⟩ | ⟨cF9,hr⟩
       ·refine af ?_
        obtain rfl:_=v1:=hr
        exact w_k (ai hwf)
       ·refine au 4 ?_
        rcases hr.ite with ⟨cF10,hr⟩ | ⟨cF10,hr⟩
        ·refine af ?_
         obtain rfl:_=v1:=hr
         exact w_k (ai hwf)
        ·obtain ⟨x,nF11,eF12,gF13,hr⟩:=hr.idx
         refine af ?_
         obtain rfl:_=v1:=hr
         exact w_k (ai hwf)
     refine ar hr (fun cF15 hr=>?_) (fun cF15 hr=>?_)
     ·obtain ⟨nF16,hr⟩:=hr.room
      refine ah ?_
      exact (w_bn (w_k ⟨(out1++([v])),hr,(ai hwf)⟩))
     ·refine aP ?_
      exact (w_bn (w_k ⟨out1,hr,(ai hwf)⟩))
   ·refine cB ?_
    exact (w_te (w_te (w_bx (w_k ⟨out1,(hr).map,(ai hwf)⟩))))
end Go.Val
namespace Go.Val
set_option maxRecDepth 20000
open Go.Proofs
theorem eh (m:aQ) (l:List Int) (i:Int) (l0:Nat) (l0p1:Nat) {h:Heap} (ha0:h.at_ l0=some (.cells [.val (.sl (List.map bX m.rules)),.val (.ptr (some (l0p1,0))),.val (.int .i64 m.classes)])) (ha0p1:h.at_ l0p1=some (.cells (bQ eU m.trie.like++([.val (.sl (List.map (eA eU) m.trie.first))]:List CV)))) (hn0_0p1:l0≠l0p1) {a:Bool} (e:cu m l i=some a):
  Runs CT 14 [.cv (.val (.ptr (some (l0,0)))),.cv (.val (.sl (List.map eI l))),.cv (.val (.int .i64 i))] h fun o h'=>o=[.cv (.val (.bool a))]∧h'=h:=by
 refine bf Tryz.func14 fun hwf hu=>?_
 have hl0:=(hwf _ _ ha0).1
 have kl0:=locF hl0
 have hl0p1:=(hwf _ _ ha0p1).1
 have kl0p1:=locF hl0p1
 obtain ⟨D,hD,hr⟩:=Holds.one e
 dsimp only[cu]at hr
 change aK _ _ _ _ _ ⟨[(0,.cv (.val (.ptr (some (l0,0))))),(1,.cv (.val (.sl (List.map eI l)))),(2,.cv (.val (.int .i64 i)))],h.on []⟩
 refine A_s ?_
 refine an ?_
 refine bC ?_
 refine au 2 ?_
 obtain ⟨r,eF1,hr⟩:=hr.bind
 refine be (out:=?o_eF1) (hp:=?p_eF1) ?c_eF1 ?d_eF1 ?_
 case c_eF1=>(refine gK m l (l0) (l0p1) ?_ ?_ ?_ eF1;exact cC;exact cC;exact A_ne)
 case d_eF1=>rfl
 refine au 1 ?_
 obtain ⟨r1,eF2,hr⟩:=hr.bind
 refine be (out:=?o_eF2) (hp:=?p_eF2) ?c_eF2 ?d_eF2 ?_
 case c_eF2=>exact dG r i eF2
 case d_eF2=>rfl
 refine af ?_
 refine w_n ?_
 refine bn ?_
 obtain rfl:=hD _ hr
 exact (aY (ai (os':=[]) (sl:=[(6,.cv (.val (.bool r1)))]) hwf) ⟨rfl,aN hwf⟩)
end Go.Val
namespace Go.Val
set_option maxRecDepth 20000
open Go.Proofs
theorem gw (m:aQ) (l:List Int) (i:Int) (l0:Nat) (l0p1:Nat) {h:Heap} (ha0:h.at_ l0=some (.cells [.val (.sl (List.map bX m.rules)),.val (.ptr (some (l0p1,0))),.val (.int .i64 m.classes)])) (ha0p1:h.at_ l0p1=some (.cells (bQ eU m.trie.like++([.val (.sl (List.map (eA eU) m.trie.first))]:List CV)))) (hn0_0p1:l0≠l0p1) {a:Int} (e:dA m l i=some a):
  Runs CT 15 [.cv (.val (.ptr (some (l0,0)))),.cv (.val (.sl (List.map eI l))),.cv (.val (.int .i64 i))] h fun o h'=>o=[.cv (.val (.int .i64 a))]∧h'=h:=by
 refine bf Tryz.func15 fun hwf hu=>?_
 have hl0:=(hwf _ _ ha0).1
 have kl0:=locF hl0
 have hl0p1:=(hwf _ _ ha0p1).1
 have kl0p1:=locF hl0p1
 obtain ⟨D,hD,hr⟩:=Holds.one e
 dsimp only[dA]at hr
 change aK _ _ _ _ _ ⟨[(0,.cv (.val (.ptr (some (l0,0))))),(1,.cv (.val (.sl (List.map eI l)))),(2,.cv (.val (.int .i64 i)))],h.on []⟩
 refine A_s ?_
 refine an ?_
 obtain ⟨v,vF4,hr⟩:=hr.bind
 refine cn (sj:=⟨[(0,.cv (.val (.ptr (some (l0,0))))),(1,.cv (.val (.sl (List.map eI l)))),(2,.cv (.val (.int .i64 i))),(19,.cv (.val (.bool v)))],h.on []⟩) (bC ?_) ?_
 ·have hr:=Holds.intro (D:=fun z=>z=v) vF4 rfl
  refine au 1 ?_
  obtain ⟨r,eF1,hr⟩:=hr.bind
  refine be (out:=?o_eF1) (hp:=?p_eF1) ?c_eF1 ?d_eF1 ?_
  case c_eF1=>exact lu l eF1
  case d_eF1=>rfl
  refine au 2 ?_
  rcases hr.ite with ⟨cF2,hr⟩ | ⟨cF2,hr⟩
  ·refine af ?_
   obtain rfl:_=v:=hr
   exact w_k (ai hwf)
  ·refine au 4 ?_
   rcases hr.ite with ⟨cF3,hr⟩ | ⟨cF3,hr⟩
   ·refine af ?_
    obtain rfl:_=v:=hr
    exact w_k (ai hwf)
   ·refine af ?_
    obtain rfl:_=v:=hr
    exact w_k (ai hwf)
 refine ar hr (fun cF5 hr=>?_) (fun cF5 hr=>?_)
 ·refine an ?_
  refine ah ?_
  refine w_n ?_
  refine bn ?_
  obtain rfl:=hD _ hr
  exact (w_tr (aY (ai (os':=[]) (sl:=[(6,.cv (.val (.int .i64 (-1:Int))))]) hwf) ⟨rfl,aN hwf⟩))
 ·refine aP ?_
  refine w_n ?_
  refine an ?_
  refine bC ?_
  refine au 2 ?_
  obtain ⟨r1,eF6,hr⟩:=hr.bind
  refine be (out:=?o_eF6) (hp:=?p_eF6) ?c_eF6 ?d_eF6 ?_
  case c_eF6=>(refine fW m l (l0) (l0p1) ?_ ?_ ?_ eF6;exact cC;exact cC;exact A_ne)
  case d_eF6=>rfl
  obtain ⟨n,nF7,eF8,gF9,hr⟩:=hr.idx
  refine af ?_
  refine w_n ?_
  refine bn ?_
  obtain rfl:=hD _ hr
  exact (aY (ai (os':=[]) (sl:=[(6,.cv (.val (.int .i64 n)))]) hwf) ⟨rfl,aN hwf⟩)
end Go.Val
namespace Go.Val
theorem fZ (b:List UInt8) {h:Heap} {a:bP×Int×Int} (e:cw b=some a):
  Runs CT 17 [.cv (.val (.sl (List.map eU b)))] h fun o h'=>o=[.cv (.val (gU a.1)),.cv (.val (.int .i64 a.2.1)),.cv (.val (.int .i64 a.2.2))]∧h'=h:=
 Runs.hand (C:=CT) (show sb 17 _ h _ h from ⟨rfl,.inr (.inr (.inr (.inr (.inr (.inr (.inl ⟨rfl,b,a,rfl,e,rfl⟩))))))⟩) ⟨rfl,rfl⟩
end Go.Val
namespace Go.Val
set_option maxRecDepth 20000
open Go.Proofs
theorem iG (a_:List Int) (b:List Int) {h:Heap} {a:Bool} (e:bc a_ b=some a):
  Runs CT 13 [.cv (.val (.sl (List.map eI a_))),.cv (.val (.sl (List.map eI b)))] h fun o h'=>o=[.cv (.val (.bool a))]∧h'=h:=by
 refine bf Tryz.func13 fun hwf hu=>?_
 obtain ⟨D,hD,hr⟩:=Holds.one e
 dsimp only[bc]at hr
 change aK _ _ _ _ _ ⟨[(0,.cv (.val (.sl (List.map eI a_)))),(1,.cv (.val (.sl (List.map eI b))))],h.on []⟩
 refine A_s ?_
 refine an ?_
 refine A_s ?_
 refine ar hr (fun cF1 hr=>?_) (fun cF1 hr=>?_)
 ·refine an ?_
  refine ah ?_
  refine w_n ?_
  refine bn ?_
  obtain rfl:=hD _ hr
  exact (w_tr (aY (ai (os':=[]) (sl:=[(4,.cv (.val (.bool false)))]) hwf) ⟨rfl,aN hwf⟩))
 ·refine aP ?_
  refine w_n ?_
  refine an ?_
  refine A_s ?_
  refine w_K (D:=D) (fun xX:Unit=>⟨[],h.on []⟩) (fun xX:Unit=>bc.k1) (fun xX s' hr ht=>?_) ?_
  ·dsimp only[bc.k1]at hr ht
   refine (w_nT ht ?_)
   refine A_s ?_
   refine bn ?_
   obtain rfl:=hD _ hr
   exact (aY (ai (os':=[]) (sl:=[(4,.cv (.val (.bool true)))]) hwf) ⟨rfl,aN hwf⟩)
  ·refine aG ?_
   refine cD (fun xX:Int=>⟨[(0,.cv (.val (.sl (List.map eI a_)))),(1,.cv (.val (.sl (List.map eI b)))),(5,.cv (.val (.int .i64 xX)))],h.on []⟩) hr (ai hwf) (fun W1 xX hr=>?_)
   obtain ⟨i,rfl⟩:∃ z,z=xX:=⟨xX,rfl⟩
   dsimp only[bc.b1]at hr
   refine an ?_
   refine A_s ?_
   refine ar hr (fun cF2 hr=>?_) (fun cF2 hr=>?_)
   ·refine aP ?_
    refine w_n ?_
    refine an ?_
    refine aG ?_
    refine an ?_
    refine cI [0,1,2,3,4,5,6,7,8] (by rfl) ?_
    obtain ⟨n,nF3,eF4,gF5,hr⟩:=hr.idx
    obtain ⟨n1,nF6,eF7,gF8,hr⟩:=hr.idx
    refine bA [0,1,2,3,4,5,6,7,8] [8,7,6,5,4,3,2,1,0] ?_
    refine cW ?_
    refine w_n ?_
    refine ar hr (fun cF9 hr=>?_) (fun cF9 hr=>?_)
    ·refine an ?_
     refine ah ?_
     refine w_n ?_
     refine bn ?_
     obtain rfl:=hD _ hr
     exact (w_br (w_tr (w_tr (w_br (w_tr (w_tr (aY (ai (os':=[]) (sl:=[(4,.cv (.val (.bool false)))]) hwf) ⟨rfl,aN hwf⟩)))))))
    ·refine aP ?_
     refine (w_bn (w_n ?_))
     refine ah ?_
     exact (w_k ⟨(IntKind.i64.wrap (i+(1:Int))),hr,(ai hwf)⟩)
   ·refine cB ?_
    exact (w_te (w_te (w_bx (w_k ⟨(),(hr).map,(ai hwf)⟩))))
end Go.Val
namespace Go.Val
theorem jS (b:List UInt8) {h:Heap} {a:List Int} (e:du b=some a):
  Runs CT 29 [.cv (.val (.sl (List.map eU b)))] h fun o h'=>o=[.cv (.val (.sl (List.map eI a)))]∧h'=h:=
 Runs.hand (C:=CT) (show sb 29 _ h _ h from ⟨rfl,.inr (.inr (.inr (.inr (.inr (.inr (.inr ⟨rfl,b,a,rfl,e,rfl⟩))))))⟩) ⟨rfl,rfl⟩
end Go.Val
namespace Go.Val
set_option maxRecDepth 20000
open Go.Proofs
theorem jJ {h:Heap} {a:Bool} (e:dL=some a):
  Runs CT 9 [] h fun o h'=>o=[.cv (.val (.bool a))]∧h'=h:=by
 refine bf Tryz.func9 fun hwf hu=>?_
 obtain ⟨D,hD,hr⟩:=Holds.one e
 dsimp only[dL]at hr
 change aK _ _ _ _ _ ⟨[],h.on []⟩
 refine A_s ?_
 refine an ?_
 refine bC ?_
 refine au 2 ?_
 obtain ⟨r,eF1,hr⟩:=hr.bind
 refine be (out:=?o_eF1) (hp:=?p_eF1) ?c_eF1 ?d_eF1 ?_
 case c_eF1=>exact fZ ([(u8 (115:Int)),(u8 (101:Int)),(u8 (116:Int)),(u8 (32:Int)),(u8 (97:Int)),(u8 (32:Int)),(u8 (61:Int)),(u8 (32:Int)),(u8 (91:Int)),(u8 (97:Int)),(u8 (45:Int)),(u8 (122:Int)),(u8 (93:Int)),(u8 (59:Int)),(u8 (32:Int)),(u8 (107:Int)),(u8 (101:Int)),(u8 (101:Int)),(u8 (112:Int)),(u8 (32:Int)),(u8 (97:Int)),(u8 (32:Int)),(u8 (47:Int)),(u8 (32:Int)),(u8 (97:Int)),(u8 (59:Int))]) eF1
 case d_eF1=>rfl
 refine af ?_
 refine w_n ?_
 refine an ?_
 refine bC ?_
 refine au 1 ?_
 obtain ⟨r1,eF2,hr⟩:=hr.bind
 try dsimp only at hr
 rcases xF11:r1.1 with _ | y
 ·rw[xF11]at hr
  dsimp only at hr
  refine be (out:=?o_eF2a) (hp:=?p_eF2a) ?c_eF2a ?d_eF2a ?_
  case c_eF2a=>exact gD r.1 (100:Int) eF2 xF11
  case d_eF2a=>rfl
  refine af ?_
  refine w_n ?_
  refine cn (sj:=⟨[(0,.cv (.val (.bool false)))],h.on []⟩) (bC ?_) ?_
  ·refine au 3 ?_
   rcases Bool.eq_false_or_eq_true (r.2.2==(0:Int))with cF3 | cF3
   ·refine au 4 ?_
    rcases Bool.eq_false_or_eq_true (r1.2==(0:Int))with cF4 | cF4
    ·refine au 7 ?_
     refine il ?_
     refine il ?_
     refine au 1 ?_
     refine il ?_
     refine af ?_
     exact w_k (ai hwf)
    ·refine au 7 ?_
     refine il ?_
     refine il ?_
     refine au 1 ?_
     refine il ?_
     refine af ?_
     exact w_k (ai hwf)
   ·refine au 11 ?_
    refine il ?_
    refine il ?_
    refine au 1 ?_
    refine il ?_
    refine af ?_
    exact w_k (ai hwf)
  refine bn ?_
  obtain rfl:=hD _ hr
  exact (aY (ai (os':=[]) (sl:=[(0,.cv (.val (.bool false)))]) hwf) ⟨rfl,aN hwf⟩)
 ·rw[xF11]at hr
  dsimp only at hr
  refine be (out:=?o_eF2b) (hp:=?p_eF2b) ?c_eF2b ?d_eF2b ?_
  case c_eF2b=>exact gq r.1 (100:Int) eF2 xF11
  case d_eF2b=>rfl
  refine af ?_
  refine w_n ?_
  obtain ⟨v,vF10,hr⟩:=hr.bind
  refine cn (sj:=⟨[(0,.cv (.val (.bool v)))],h.on []⟩) (bC ?_) ?_
  ·have hr:=Holds.intro (D:=fun z=>z=v) vF10 rfl
   refine au 3 ?_
   rcases hr.ite with ⟨cF5,hr⟩ | ⟨cF5,hr⟩
   ·refine au 4 ?_
    rcases hr.ite with ⟨cF6,hr⟩ | ⟨cF6,hr⟩
    ·refine au 7 ?_
     obtain ⟨r2,eF7,hr⟩:=hr.bind
     refine be (out:=?o_eF7) (hp:=?p_eF7) ?c_eF7 ?d_eF7 ?_
     case c_eF7=>exact jS ([(u8 (97:Int)),(u8 (98:Int)),(u8 (32:Int)),(u8 (99:Int))]) eF7
     case d_eF7=>rfl
     obtain ⟨r3,eF8,hr⟩:=hr.bind
     refine be (out:=?o_eF8) (hp:=?p_eF8) ?c_eF8 ?d_eF8 ?_
     case c_eF8=>(refine gK y r2 (h.n+5) (h.n+4) ?_ ?_ ?_ eF8;exact cC;exact cC;exact A_ne)
     case d_eF8=>rfl
     refine au 1 ?_
     obtain ⟨r4,eF9,hr⟩:=hr.bind
     refine be (out:=?o_eF9) (hp:=?p_eF9) ?c_eF9 ?d_eF9 ?_
     case c_eF9=>exact iG r3 ([(0:Int),(2:Int),(3:Int),(4:Int)]) eF9
     case d_eF9=>rfl
     refine af ?_
     obtain rfl:_=v:=hr
     exact w_k (ai hwf)
    ·refine au 7 ?_
     refine il ?_
     refine il ?_
     refine au 1 ?_
     refine il ?_
     refine af ?_
     obtain rfl:_=v:=hr
     exact w_k (ai hwf)
   ·refine au 11 ?_
    refine il ?_
    refine il ?_
    refine au 1 ?_
    refine il ?_
    refine af ?_
    obtain rfl:_=v:=hr
    exact w_k (ai hwf)
  refine bn ?_
  obtain rfl:=hD _ hr
  exact (aY (ai (os':=[]) (sl:=[(0,.cv (.val (.bool v)))]) hwf) ⟨rfl,aN hwf⟩)
end Go.Val
namespace Go.Val
set_option maxRecDepth 20000
set_option maxHeartbeats 2000000
open Go.Proofs
theorem gY (l:List Int) (i:Int) {h:Heap} {a:Bool} (e:aF l i=some a):
  Runs CT 5 [.cv (.val (.sl (List.map eI l))),.cv (.val (.int .i64 i))] h fun o h'=>o=[.cv (.val (.bool a))]∧h'=h:=by
 refine bf Tryz.func5 fun hwf hu=>?_
 obtain ⟨D,hD,hr⟩:=Holds.one e
 dsimp only[aF]at hr
 change aK _ _ _ _ _ ⟨[(0,.cv (.val (.sl (List.map eI l)))),(1,.cv (.val (.int .i64 i)))],h.on []⟩
 refine A_s ?_
 refine an ?_
 refine bC ?_
 obtain ⟨r,eF1,hr⟩:=hr.bind
 refine be (out:=?o_eF1) (hp:=?p_eF1) ?c_eF1 ?d_eF1 ?_
 case c_eF1=>exact jJ  eF1
 case d_eF1=>rfl
 refine af ?_
 refine w_n ?_
 refine an ?_
 refine cn (sj:=⟨[(0,.cv (.val (.sl (List.map eI l)))),(1,.cv (.val (.int .i64 i))),(5,.cv (.val (.bool r))),(19,.cv (.val (.bool ((!r)||(decide ((l.length:Int) > (100:Int)))))))],h.on []⟩) (bC ?_) ?_
 ·refine au 3 ?_
  rcases Bool.eq_false_or_eq_true (!r)with cF2 | cF2
  ·refine af ?_
   exact w_k (ai hwf)
  ·refine af ?_
   exact w_k (ai hwf)
 refine ar hr (fun cF3 hr=>?_) (fun cF3 hr=>?_)
 ·refine an ?_
  refine ah ?_
  refine w_n ?_
  refine bn ?_
  obtain rfl:=hD _ hr
  exact (w_tr (aY (ai (os':=[]) (sl:=[(4,.cv (.val (.bool r)))]) hwf) ⟨rfl,aN hwf⟩))
 ·refine aP ?_
  refine w_n ?_
  refine an ?_
  refine bC ?_
  refine au 2 ?_
  obtain ⟨r1,eF4,hr⟩:=hr.bind
  refine be (out:=?o_eF4) (hp:=?p_eF4) ?c_eF4 ?d_eF4 ?_
  case c_eF4=>exact fZ ([(u8 (115:Int)),(u8 (101:Int)),(u8 (116:Int)),(u8 (32:Int)),(u8 (97:Int)),(u8 (32:Int)),(u8 (61:Int)),(u8 (32:Int)),(u8 (91:Int)),(u8 (97:Int)),(u8 (45:Int)),(u8 (122:Int)),(u8 (93:Int)),(u8 (59:Int)),(u8 (32:Int)),(u8 (115:Int)),(u8 (101:Int)),(u8 (116:Int)),(u8 (32:Int)),(u8 (98:Int)),(u8 (32:Int)),(u8 (61:Int)),(u8 (32:Int)),(u8 (91:Int)),(u8 (48:Int)),(u8 (45:Int)),(u8 (57:Int)),(u8 (93:Int)),(u8 (59:Int)),(u8 (32:Int)),(u8 (107:Int)),(u8 (101:Int)),(u8 (101:Int)),(u8 (112:Int)),(u8 (32:Int)),(u8 (97:Int)),(u8 (32:Int)),(u8 (47:Int)),(u8 (32:Int)),(u8 (97:Int)),(u8 (59:Int)),(u8 (32:Int)),(u8 (107:Int)),(u8 (101:Int)),(u8 (101:Int)),(u8 (112:Int)),(u8 (32:Int)),(u8 (98:Int)),(u8 (32:Int)),(u8 (47:Int)),(u8 (32:Int)),(u8 (98:Int)),(u8 (59:Int)),(u8 (32:Int)),(u8 (98:Int)),(u8 (114:Int)),(u8 (101:Int)),(u8 (97:Int)),(u8 (107:Int)),(u8 (32:Int)),(u8 (97:Int)),(u8 (32:Int)),(u8 (47:Int)),(u8 (32:Int)),(u8 (98:Int)),(u8 (59:Int))]) eF4
  case d_eF4=>rfl
  refine af ?_
  refine w_n ?_
  refine an ?_
  refine bC ?_
  refine au 1 ?_
  obtain ⟨r2,eF5,hr⟩:=hr.bind
  try dsimp only at hr
  rcases xF38:r2.1 with _ | y
  ·rw[xF38]at hr
   dsimp only at hr
   refine be (out:=?o_eF5a) (hp:=?p_eF5a) ?c_eF5a ?d_eF5a ?_
   case c_eF5a=>exact gD r1.1 (40:Int) eF5 xF38
   case d_eF5a=>rfl
   refine af ?_
   refine w_n ?_
   refine an ?_
   refine cn (sj:=⟨[(0,.cv (.val (.sl (List.map eI l)))),(1,.cv (.val (.int .i64 i))),(9,.cv (.val (.ptr none))),(42,.cv (.val (.bool true)))],h.on []⟩) (bC ?_) ?_
   ·refine au 3 ?_
    rcases Bool.eq_false_or_eq_true (r1.2.2 != (0:Int))with cF6 | cF6
    ·refine af ?_
     exact w_k (ai hwf)
    ·refine au 4 ?_
     rcases Bool.eq_false_or_eq_true (r2.2 != (0:Int))with cF7 | cF7
     ·refine af ?_
      exact w_k (ai hwf)
     ·refine af ?_
      exact w_k (ai hwf)
   refine lG true (fun _=>?_) (fun cF8=>by cases cF8)
   refine A_s ?_
   refine bn ?_
   obtain rfl:=hD _ hr
   exact (w_tr (aY (ai (os':=[]) (sl:=[(4,.cv (.val (.bool false)))]) hwf) ⟨rfl,aN hwf⟩))
  ·rw[xF38]at hr
   dsimp only at hr
   refine be (out:=?o_eF5b) (hp:=?p_eF5b) ?c_eF5b ?d_eF5b ?_
   case c_eF5b=>exact gq r1.1 (40:Int) eF5 xF38
   case d_eF5b=>rfl
   refine af ?_
   refine w_n ?_
   refine an ?_
   refine cn (sj:=⟨[(0,.cv (.val (.sl (List.map eI l)))),(1,.cv (.val (.int .i64 i))),(9,.cv (.val (.ptr (some (h.n+5,0))))),(42,.cv (.val (.bool ((r1.2.2 != (0:Int))||(r2.2 != (0:Int))))))],h.on [none,none,none,none,some (.cells (bQ eU y.trie.like++([.val (.sl (List.map (eA eU) y.trie.first))]:List CV))),some (.cells [.val (.sl (List.map bX y.rules)),.val (.ptr (some (h.n+4,0))),.val (.int .i64 y.classes)])]⟩) (bC ?_) ?_
   ·refine au 3 ?_
    rcases Bool.eq_false_or_eq_true (r1.2.2 != (0:Int))with cF9 | cF9
    ·refine af ?_
     exact w_k (ai hwf)
    ·refine au 4 ?_
     rcases Bool.eq_false_or_eq_true (r2.2 != (0:Int))with cF10 | cF10
     ·refine af ?_
      exact w_k (ai hwf)
     ·refine af ?_
      exact w_k (ai hwf)
   refine ar hr (fun cF11 hr=>?_) (fun cF11 hr=>?_)
   ·refine an ?_
    refine ah ?_
    refine w_n ?_
    refine bn ?_
    obtain rfl:=hD _ hr
    exact (w_tr (aY (ai (os':=[]) (sl:=[(4,.cv (.val (.bool false)))]) hwf) ⟨rfl,aN hwf⟩))
   ·refine aP ?_
    refine w_n ?_
    refine an ?_
    refine A_s ?_
    refine w_K (D:=D) (fun xX:Unit=>⟨[(0,.cv (.val (.sl (List.map eI l)))),(1,.cv (.val (.int .i64 i))),(9,.cv (.val (.ptr (some (h.n+5,0)))))],h.on [none,none,none,none,some (.cells (bQ eU y.trie.like++([.val (.sl (List.map (eA eU) y.trie.first))]:List CV))),some (.cells [.val (.sl (List.map bX y.rules)),.val (.ptr (some (h.n+4,0))),.val (.int .i64 y.classes)])]⟩) (fun xX:Unit=>aF.k1 l i y) (fun xX s' hr ht=>?_) ?_
    ·dsimp only[aF.k1]at hr ht
     refine (w_nT ht ?_)
     refine an ?_
     refine cn (sj:=⟨[(0,.cv (.val (.sl (List.map eI l)))),(1,.cv (.val (.int .i64 i))),(9,.cv (.val (.ptr (some (h.n+5,0))))),(68,.cv (.val (.bool ((decide (i < (1:Int)))||(decide (i≥(l.length:Int)))))))],h.on [none,none,none,none,some (.cells (bQ eU y.trie.like++([.val (.sl (List.map (eA eU) y.trie.first))]:List CV))),some (.cells [.val (.sl (List.map bX y.rules)),.val (.ptr (some (h.n+4,0))),.val (.int .i64 y.classes)])]⟩) (bC ?_) ?_
     ·refine au 3 ?_
      rcases Bool.eq_false_or_eq_true (decide (i < (1:Int)))with cF12 | cF12
      ·refine af ?_
       exact w_k (ai hwf)
      ·refine af ?_
       exact w_k (ai hwf)
     refine ar hr (fun cF13 hr=>?_) (fun cF13 hr=>?_)
     ·obtain ⟨v3,vF16,hr⟩:=hr.bind
      refine cn (sj:=⟨[(4,.cv (.val (.bool v3)))],h.on []⟩) (bC ?_) ?_
      ·have hr:=Holds.intro (D:=fun z=>z=v3) vF16 rfl
       refine au 3 ?_
       obtain ⟨r3,eF14,hr⟩:=hr.bind
       refine be (out:=?o_eF14) (hp:=?p_eF14) ?c_eF14 ?d_eF14 ?_
       case c_eF14=>(refine eh y l i (h.n+5) (h.n+4) ?_ ?_ ?_ eF14;exact cC;exact cC;exact A_ne)
       case d_eF14=>rfl
       refine au 3 ?_
       rcases hr.ite with ⟨cF15,hr⟩ | ⟨cF15,hr⟩
       ·refine af ?_
        obtain rfl:_=v3:=hr
        exact w_k (ai hwf)
       ·refine af ?_
        obtain rfl:_=v3:=hr
        exact w_k (ai hwf)
      refine bn ?_
      obtain rfl:=hD _ hr
      exact (w_tr (aY (ai (os':=[]) (sl:=[(4,.cv (.val (.bool v3)))]) hwf) ⟨rfl,aN hwf⟩))
     ·refine aP ?_
      refine w_n ?_
      obtain ⟨v4,vF30,hr⟩:=hr.bind
      refine cn (sj:=⟨[(4,.cv (.val (.bool v4)))],h.on []⟩) (cI [0,1,2,4,5,6,7,8,9,10,3,11,12,13,14,15,16,18,19,20,21,22,23,24,17,25,26,27,28] (by rfl) ?_) ?_
      ·have hr:=Holds.intro (D:=fun z=>z=v4) vF30 rfl
       obtain ⟨nF17,nF18,nF19,nF20,hr⟩:=hr.cut
       refine bA [0,1,2,4,5,6,7,8,9,10] [10,9,8,7,6,5,4,2,1,0] ?_
       obtain ⟨r4,eF21,hr⟩:=hr.bind
       refine cZ [10,9,8,7,6,5,4] (out:=?o_eF21) (hp:=?p_eF21) ?c_eF21 ?d_eF21 ?_
       case c_eF21=>(refine eh y l i (h.n+5) (h.n+4) ?_ ?_ ?_ eF21;exact cC;exact cC;exact A_ne)
       case d_eF21=>rfl
       obtain ⟨r5,eF22,hr⟩:=hr.bind
       refine cZ [] (out:=?o_eF22) (hp:=?p_eF22) ?c_eF22 ?d_eF22 ?_
       case c_eF22=>(refine eh y (List.drop (Int.toNat (IntKind.i64.wrap (i - (1:Int)))) (List.take (Int.toNat (IntKind.i64.wrap (i+(1:Int)))) l)) (1:Int) (h.n+5) (h.n+4) ?_ ?_ ?_ eF22;exact cC;exact cC;exact A_ne)
       case d_eF22=>rfl
       refine bA [12,13] [13,12] ?_
       rcases hr.ite with ⟨cF23,hr⟩ | ⟨cF23,hr⟩
       ·obtain ⟨nF24,nF25,nF26,nF27,hr⟩:=hr.cut
        refine bA [14,15,16,18,19,20,21,22,23,24] [24,23,22,21,20,19,18,16,15,14,13,12] ?_
        obtain ⟨r6,eF28,hr⟩:=hr.bind
        refine cZ [24,23,22,21,20,19,18] (out:=?o_eF28) (hp:=?p_eF28) ?c_eF28 ?d_eF28 ?_
        case c_eF28=>(refine gw y l i (h.n+5) (h.n+4) ?_ ?_ ?_ eF28;exact cC;exact cC;exact A_ne)
        case d_eF28=>rfl
        obtain ⟨r7,eF29,hr⟩:=hr.bind
        refine cZ [] (out:=?o_eF29) (hp:=?p_eF29) ?c_eF29 ?d_eF29 ?_
        case c_eF29=>(refine gw y (List.drop (Int.toNat (IntKind.i64.wrap (i - (1:Int)))) (List.take (Int.toNat (IntKind.i64.wrap (i+(1:Int)))) l)) (1:Int) (h.n+5) (h.n+4) ?_ ?_ ?_ eF29;exact cC;exact cC;exact A_ne)
        case d_eF29=>rfl
        refine bA [26,27] [27,26] ?_
        refine cP [] ?_
        refine cW ?_
        obtain rfl:_=v4:=hr
        exact w_k (ai hwf)
       ·refine bA [14,15,16,18,19,20,21,22,23,24] [24,23,22,21,20,19,18,16,15,14,13,12] ?_
        refine cP [24,23,22,21,20,19,18] ?_
        refine cP [] ?_
        refine bA [26,27] [27,26] ?_
        refine cP [] ?_
        refine cW ?_
        obtain rfl:_=v4:=hr
        exact w_k (ai hwf)
      refine bn ?_
      obtain rfl:=hD _ hr
      exact (aY (ai (os':=[]) (sl:=[(4,.cv (.val (.bool v4)))]) hwf) ⟨rfl,aN hwf⟩)
    ·refine aG ?_
     refine cD (fun xX:Int=>⟨[(0,.cv (.val (.sl (List.map eI l)))),(1,.cv (.val (.int .i64 i))),(9,.cv (.val (.ptr (some (h.n+5,0))))),(11,.cv (.val (.int .i64 xX)))],h.on [none,none,none,none,some (.cells (bQ eU y.trie.like++([.val (.sl (List.map (eA eU) y.trie.first))]:List CV))),some (.cells [.val (.sl (List.map bX y.rules)),.val (.ptr (some (h.n+4,0))),.val (.int .i64 y.classes)])]⟩) hr (ai hwf) (fun W1 xX hr=>?_)
     obtain ⟨k,rfl⟩:∃ z,z=xX:=⟨xX,rfl⟩
     dsimp only[aF.b1]at hr
     refine an ?_
     refine A_s ?_
     refine ar hr (fun cF31 hr=>?_) (fun cF31 hr=>?_)
     ·refine aP ?_
      refine w_n ?_
      refine an ?_
      refine aG ?_
      obtain ⟨v5,vF36,hr⟩:=hr.bind
      refine cn (sj:=⟨[(0,.cv (.val (.sl (List.map eI l)))),(1,.cv (.val (.int .i64 i))),(9,.cv (.val (.ptr (some (h.n+5,0))))),(11,.cv (.val (.int .i64 k))),(60,.cv (.val (.bool v5)))],h.on [none,none,none,none,some (.cells (bQ eU y.trie.like++([.val (.sl (List.map (eA eU) y.trie.first))]:List CV))),some (.cells [.val (.sl (List.map bX y.rules)),.val (.ptr (some (h.n+4,0))),.val (.int .i64 y.classes)])]⟩) (bC ?_) ?_
      ·have hr:=Holds.intro (D:=fun z=>z=v5) vF36 rfl
       obtain ⟨n,nF32,eF33,gF34,hr⟩:=hr.idx
       refine au 6 ?_
       rcases hr.ite with ⟨cF35,hr⟩ | ⟨cF35,hr⟩
       ·refine af ?_
        obtain rfl:_=v5:=hr
        exact w_k (ai hwf)
       ·refine af ?_
        obtain rfl:_=v5:=hr
        exact w_k (ai hwf)
      refine ar hr (fun cF37 hr=>?_) (fun cF37 hr=>?_)
      ·refine an ?_
       refine ah ?_
       refine w_n ?_
       refine bn ?_
       obtain rfl:=hD _ hr
       exact (w_br (w_tr (w_tr (w_br (w_tr (w_tr (aY (ai (os':=[]) (sl:=[(4,.cv (.val (.bool true)))]) hwf) ⟨rfl,aN hwf⟩)))))))
      ·refine aP ?_
       refine (w_bn (w_n ?_))
       refine ah ?_
       exact (w_k ⟨(IntKind.i64.wrap (k+(1:Int))),hr,(ai hwf)⟩)
     ·refine cB ?_
      exact (w_te (w_te (w_bx (w_k ⟨(),(hr).map,(ai hwf)⟩))))
end Go.Val
namespace Go.Val
theorem w64 {n:Int} (h1: -9223372036854775808≤n) (h2:n≤9223372036854775807):IntKind.i64.wrap n=n:=by rw[IntKind.wrap_i64];omega
theorem w64s {i:Nat} (h:i < 9223372036854775807):IntKind.i64.wrap ((i:Int)+1)=((i+1:Nat):Int):=by rw[w64 (by omega) (by omega)];omega
theorem bm {α:Type} {xs:List α} {i:Nat}:idx xs (i:Int)=xs[i]? :=by
 unfold idx;rw[if_neg (by omega)];simp
theorem pY {α:Type} {xs:List α} {i:Int} {x:α} (h0:0≤i) (h:xs[i.toNat]? =some x):idx xs i=some x:=by
 unfold idx;rw[if_neg (by omega)];exact h
theorem cy {sz n:Nat} (h:n*sz≤140737488355328):room sz n=some ():=by
 unfold room dn;rw[if_pos h]
theorem avU {α:Type} {sz:Nat} {z:α} {n:Nat} (h:n*sz≤140737488355328):mk sz z (n:Int)=some (List.replicate n z):=by
 unfold mk dn;rw[if_pos ⟨by omega,by simpa using h⟩];simp
theorem lR {α:Type} {P:List α→Prop} (h0:P []) (h1:∀ l x,P l→P (l++[x])) (l:List α):P l:=by
 have key:∀ l:List α,P l.reverse:=by
  intro l
  induction l with
  | nil=>exact h0
  | cons x l ih=>rw[List.reverse_cons];exact h1 _ _ ih
 have:=key l.reverse
 rwa[List.reverse_reverse]at this
theorem eu {σ ρ:Type} {b:σ→Option (Step σ ρ)} (st:Nat→σ) {i n:Nat} (hin:i≤n) (h:∀ j,i≤j→j < n→b (st j)=some (.next (st (j+1)))):Loop b (st i)=Loop b (st n):=by
 induction n with
 | zero=>obtain rfl:i=0:=by omega
         rfl
 | succ n ih=>
  by_cases e:i=n+1
  ·rw[e]
  ·rw[ih (by omega) fun j h1 h2=>h j h1 (by omega)]
   exact bH (h n (by omega) (by omega))
theorem nf {ρ:Type} {b:Int→Option (Step Int ρ)} {i n:Nat} (hin:i≤n) (h:∀ j:Nat,i≤j→j < n→b j=some (.next ((j+1:Nat):Int))):Loop b (i:Int)=Loop b (n:Int):=eu (fun j:Nat=>(j:Int)) hin h
theorem bK {σ ρ:Type} {b:σ→Option (Step σ ρ)} {s:σ} {R:Option ρ} (h:b s=R.map Step.done):Loop b s=R:=by
 cases R with
 | some r=>exact cM h
 | none=>
  apply Option.ext_some
  ·intro r hr
   obtain ⟨n,hn⟩:=pI hr
   cases n with
   | zero=>simp[rounds]at hn
   | succ n=>simp[rounds,h]at hn
  ·intro r hr;cases hr
open Classical in
theorem ao7 {ρ:Type} {b:Int→Option (Step Int ρ)} (P:Nat→Prop) {n:Nat} {r R:ρ} (hg:∀ j,j < n→P j→b (j:Int)=some (.next ((j+1:Nat):Int))) (hb:∀ j,j < n→¬ P j→b (j:Int)=some (.done r)) (he:b (n:Int)=some (.done R)):
  ∀ (d i:Nat),i+d=n→Loop b (i:Int)=if ∀ j,i≤j→j < n→P j then some R else some r:=by
 intro d
 induction d with
 | zero=>
  intro i hi
  obtain rfl:i=n:=by omega
  rw[if_pos (fun j h1 h2=>by omega)]
  exact cM he
 | succ d ih=>
  intro i hi
  by_cases hp:P i
  ·rw[bH (hg i (by omega) hp),ih (i+1) (by omega)]
   have:(∀ j,i+1≤j→j < n→P j)↔∀ j,i≤j→j < n→P j:=by
    constructor
    ·intro h j h1 h2
     by_cases e:j=i
     ·rw[e];exact hp
     ·exact h j (by omega) h2
    ·intro h j h1 h2;exact h j (by omega) h2
   simp only[this]
  ·rw[cM (hb i (by omega) hp),if_neg (fun h=>hp (h i (Nat.le_refl _) (by omega)))]
theorem rE {ρ:Type} {b:Int→Option (Step Int ρ)} (P:Nat→Prop) (n:Nat) {r R:ρ} (hg:∀ j,j < n→P j→b (j:Int)=some (.next ((j+1:Nat):Int))) (hb:∀ j,j < n→¬ P j→b (j:Int)=some (.done r)) (he:b (n:Int)=some (.done R)):
  ((∀ j,j < n→P j)→Loop b 0=some R)∧((¬ ∀ j,j < n→P j)→Loop b 0=some r):=by
 have:=ao7 P hg hb he n 0 (by omega)
 exact ⟨fun h=>by rw[if_pos (fun j _ hj=>h j hj)]at this;exact this,fun h=>by rw[if_neg (fun h'=>h fun j hj=>h' j (Nat.zero_le _) hj)]at this;exact this⟩
end Go.Val
namespace Go.Val
theorem jw {σ ρ:Type} {body:σ→Option (Step σ ρ)} {Q:ρ→Prop} (I:σ→Prop) (μ:σ→Nat)
  (h:∀ s,I s→(∃ s',body s=some (.next s')∧I s'∧μ s' < μ s)∨(∃ r,body s=some (.done r)∧Q r)):∀ s,I s→∃ r,Loop body s=some r∧Q r:=by
 have key:∀ (n:Nat) (s:σ),μ s=n→I s→∃ r,Loop body s=some r∧Q r:=by
  intro n
  induction n using Nat.strongRecOn with
  | _ n ih=>
   intro s hn hs
   rcases h s hs with ⟨s',h1,h2,h3⟩ | ⟨r,h1,h2⟩
   ·rw[bH h1]
    exact ih _ (by omega) s' rfl h2
   ·exact ⟨r,cM h1,h2⟩
 intro s hs
 exact key _ s rfl hs
def In (a:List ak) (r:Int):Prop:=∃ x∈a,x.Low≤r∧r≤x.High
def Ok (x:ak):Prop:=0≤x.Low∧x.Low≤x.High∧x.High≤1114111
def Norm (a:List ak):Prop:=(∀ x∈a,Ok x)∧a.Pairwise (fun x y=>x.High+1 < y.Low)
theorem tk {r:Int}:¬ In [] r:=by rintro ⟨x,h,_⟩;cases h
theorem kh {x:ak} {l:List ak} {r:Int}:In (x::l) r↔(x.Low≤r∧r≤x.High)∨In l r:=by
 simp only[In,List.mem_cons]
 constructor
 ·rintro ⟨y,rfl | h,hy⟩
  ·exact .inl hy
  ·exact .inr ⟨y,h,hy⟩
 ·rintro (h | ⟨y,h,hy⟩)
  ·exact ⟨x,.inl rfl,h⟩
  ·exact ⟨y,.inr h,hy⟩
theorem iX {l m:List ak} {r:Int}:In (l++m) r↔In l r∨In m r:=by
 simp only[In,List.mem_append]
 constructor
 ·rintro ⟨y,h | h,hy⟩
  ·exact .inl ⟨y,h,hy⟩
  ·exact .inr ⟨y,h,hy⟩
 ·rintro (⟨y,h,hy⟩ | ⟨y,h,hy⟩)
  ·exact ⟨y,.inl h,hy⟩
  ·exact ⟨y,.inr h,hy⟩
theorem nF {x:ak} {r:Int}:In [x] r↔x.Low≤r∧r≤x.High:=by
 rw[kh]
 exact ⟨fun h=>h.elim id fun h=>absurd h tk,.inl⟩
theorem aqG {l m:List ak} (h:l.Perm m) {r:Int}:In l r↔In m r:=by
 simp only[In,h.mem_iff]
theorem lJ:Norm []:=⟨fun x h=>(by cases h),.nil⟩
theorem jy {x:ak} {l:List ak}:Norm (x::l)↔Ok x∧(∀ y∈l,x.High+1 < y.Low)∧Norm l:=by
 simp only[Norm,List.mem_cons,forall_eq_or_imp,List.pairwise_cons]
 constructor
 ·rintro ⟨⟨h1,h2⟩,h3,h4⟩;exact ⟨h1,h3,h2,h4⟩
 ·rintro ⟨h1,h3,h2,h4⟩;exact ⟨⟨h1,h2⟩,h3,h4⟩
theorem gV {x:ak} {l:List ak}:Norm (l++[x])↔Norm l∧Ok x∧∀ y∈l,y.High+1 < x.Low:=by
 simp only[Norm,List.mem_append,List.mem_singleton,List.pairwise_append]
 constructor
 ·rintro ⟨h1,h2,h3,h4⟩
  exact ⟨⟨fun y hy=>h1 y (.inl hy),h2⟩,h1 x (.inr rfl),fun y hy=>h4 y hy x rfl⟩
 ·rintro ⟨⟨h1,h2⟩,h3,h4⟩
  refine ⟨fun y hy=>?_,h2,List.pairwise_singleton _ _,fun y hy z hz=>?_⟩
  ·rcases hy with hy | rfl
   ·exact h1 y hy
   ·exact h3
  ·subst hz;exact h4 y hy
theorem Norm.bound {a:List ak} (h:Norm a) {r:Int} (hr:In a r):0≤r∧r≤1114111:=by
 obtain ⟨x,hx,h1,h2⟩:=hr
 have:=h.1 x hx
 unfold Ok at this
 omega
theorem acG {a:List ak} (h:Norm a) {x:ak} (hx:x∈a):In a x.Low:=⟨x,hx,Int.le_refl _,(h.1 x hx).2.1⟩
theorem arP {a:List ak} (h:Norm a) {x:ak} (hx:x∈a):In a x.High:=⟨x,hx,(h.1 x hx).2.1,Int.le_refl _⟩
theorem Norm.unique:∀ {a b:List ak},Norm a→Norm b→(∀ r,In a r↔In b r)→a=b
 | [],[],_,_,_=>rfl
 | [],y::m,_,hb,h=>absurd ((h y.Low).2 (acG hb (by simp))) tk
 | x::l,[],ha,_,h=>absurd ((h x.Low).1 (acG ha (by simp))) tk
 | x::l,y::m,ha,hb,h=>by
  have ha':=jy.1 ha
  have hb':=jy.1 hb
  have hxo:=ha'.1
  have hyo:=hb'.1
  unfold Ok at hxo hyo
  have low:∀ {x:ak} {l:List ak},Norm (x::l)→∀ {r:Int},In (x::l) r→x.Low≤r:=fun {x l} hn {r} hr=>by
   have hn':=jy.1 hn
   have ho:=hn'.1
   unfold Ok at ho
   rcases kh.1 hr with h | ⟨z,hz,h1,h2⟩
   ·exact h.1
   ·have:=hn'.2.1 z hz;omega
  have next:∀ {x:ak} {l:List ak},Norm (x::l)→¬ In (x::l) (x.High+1):=fun {x l} hn hr=>by
   have hn':=jy.1 hn
   rcases kh.1 hr with h | ⟨z,hz,h1,h2⟩
   ·omega
   ·have:=hn'.2.1 z hz;omega
  have e1:x.Low=y.Low:=by
   have h1:=low hb ((h x.Low).1 (acG ha (by simp)))
   have h2:=low ha ((h y.Low).2 (acG hb (by simp)))
   omega
  have e2:x.High=y.High:=by
   have h1:¬ x.High < y.High:=fun hlt=>next ha ((h _).2 (kh.2 (.inl ⟨by omega,by omega⟩)))
   have h2:¬ y.High < x.High:=fun hlt=>next hb ((h _).1 (kh.2 (.inl ⟨by omega,by omega⟩)))
   omega
  have e:x=y:=by cases x;cases y;simp_all
  subst e
  rw[Norm.unique ha'.2.2 hb'.2.2 fun r=>?_]
  constructor
  ·intro hr
   rcases kh.1 ((h r).1 (kh.2 (.inr hr)))with h1 | h1
   ·obtain ⟨z,hz,k1,k2⟩:=hr
    have:=ha'.2.1 z hz;omega
   ·exact h1
  ·intro hr
   rcases kh.1 ((h r).2 (kh.2 (.inr hr)))with h1 | h1
   ·obtain ⟨z,hz,k1,k2⟩:=hr
    have:=hb'.2.1 z hz;omega
   ·exact h1
theorem au9 {a b:Int}:a≤mx a b∧b≤mx a b:=by unfold mx;split <;> omega
theorem av6 {a b c:Int} (h1:a≤c) (h2:b≤c):mx a b≤c:=by unfold mx;split <;> omega
theorem awR {a b:Int}:mx a b=a∨mx a b=b:=by unfold mx;split <;> simp
theorem acy {n:Nat} (h:n < 9223372036854775807):IntKind.i64.wrap (((n+1:Nat):Int) - 1)=n:=by rw[w64 (by omega) (by omega)];omega
theorem aod {out:List ak} {x:ak} (hn:Norm out) (hx:Ok x) (hl:∀ y∈out,y.Low≤x.Low) (hlen:(out.length+1)*16≤140737488355328):
  ∃ out',gL out x=some out'∧Norm out'∧(∀ r,In out' r↔In out r∨(x.Low≤r∧r≤x.High))∧out'.length≤out.length+1∧∀ y∈out',y.Low≤x.Low:=by
 have hxo:=hx
 unfold Ok at hxo
 rcases List.eq_nil_or_concat out with rfl | ⟨init,y,rfl⟩
 ·refine ⟨[x],?_,gV (l:=[]).2 ⟨lJ,hx,fun y h=>by cases h⟩,fun r=>?_,by simp,fun y hy=>?_⟩
  ·unfold gL
   rw[if_neg (by simp),Option.bind_some,if_neg (by simp),cy (by simp),Option.bind_some];rfl
  ·rw[nF];exact ⟨.inr,fun h=>h.elim (fun h=>absurd h tk) id⟩
  ·simp at hy;subst hy;omega
 ·rw[List.concat_eq_append]at*
  have hlen':(init++[y]).length=init.length+1:=by simp
  obtain ⟨n1,n2,n3⟩:=gV.1 hn
  have hyo:=n2
  unfold Ok at hyo
  have hyl:=hl y (by simp)
  have hi:(init++[y])[init.length]? =some y:=by simp
  have hbig:init.length < 9223372036854775807:=by rw[hlen']at hlen;omega
  have hw:IntKind.i64.wrap (((init++[y]).length:Int) - 1)=(init.length:Int):=by rw[hlen'];exact acy hbig
  have hcond:(if (decide (((init++[y]).length:Int) > (0:Int)))then
   (idx (init++[y]) (IntKind.i64.wrap (((init++[y]).length:Int) - (1:Int)))).bind fun x1=>
   some (decide (x.Low≤(IntKind.i64.wrap (x1.High+(1:Int)))))
  else
   some false)=some (decide (x.Low≤y.High+1)):=by
   rw[if_pos (by simp),hw,bm,hi,Option.bind_some,w64 (by omega) (by omega)]
  by_cases hc:x.Low≤y.High+1
  ·refine ⟨init++[⟨y.Low,mx y.High x.High⟩],?_,gV.2 ⟨n1,⟨(show 0≤y.Low by omega),?_,av6 (by omega) (by omega)⟩,n3⟩,fun r=>?_,by simp,fun z hz=>?_⟩
   ·unfold gL
    rw[hcond,Option.bind_some,if_pos (by simpa using hc),hw,bm,hi,Option.bind_some]
    try simp
   ·have:=(au9 (a:=y.High) (b:=x.High)).1
    show y.Low≤mx y.High x.High
    omega
   ·rw[iX,iX,nF,nF]
    have h1:=au9 (a:=y.High) (b:=x.High)
    have h2:=awR (a:=y.High) (b:=x.High)
    show In init r∨(y.Low≤r∧r≤mx y.High x.High)↔(In init r∨(y.Low≤r∧r≤y.High))∨(x.Low≤r∧r≤x.High)
    constructor
    ·rintro (h | ⟨h3,h4⟩)
     ·exact .inl (.inl h)
     ·by_cases h5:r≤y.High
      ·exact .inl (.inr ⟨h3,h5⟩)
      ·exact .inr ⟨by omega,by omega⟩
    ·rintro ((h | ⟨h3,h4⟩) | ⟨h3,h4⟩)
     ·exact .inl h
     ·exact .inr ⟨h3,by omega⟩
     ·exact .inr ⟨by omega,by omega⟩
   ·rcases List.mem_append.1 hz with hz | hz
    ·exact hl z (by simp[hz])
    ·simp at hz;subst hz;exact hyl
  ·refine ⟨init++[y]++[x],?_,gV.2 ⟨hn,hx,fun z hz=>?_⟩,fun r=>?_,by simp,fun z hz=>?_⟩
   ·unfold gL
    rw[hcond,Option.bind_some,if_neg (by simpa using hc),cy hlen,Option.bind_some]
   ·rcases List.mem_append.1 hz with hz | hz
    ·have:=n3 z hz;omega
    ·simp at hz;subst hz;omega
   ·rw[iX,nF]
   ·rcases List.mem_append.1 hz with hz | hz
    ·exact hl z hz
    ·simp at hz;subst hz;omega
end Go.Val
namespace Go.Val
theorem ra {l:List ak} {f:ak→Option Bool} {g:ak→Bool} (hf:∀ x∈l,f x=some (g x)) (hl:l.length < 9223372036854775807):bN l f=some (l.any g):=by
 obtain ⟨r,h1,h2⟩:=jw (body:=ax.b1 l f) (Q:=fun r=>decide (r≥(0:Int))=l.any g) (fun v=>∃ k:Nat,v=k∧k≤l.length∧∀ j,j < k→∀ x,l[j]? =some x→g x=false) (fun v=>l.length - v.toNat) (fun s ⟨k,hk,hkl,hall⟩=>by
  subst hk
  by_cases h:k < l.length
  ·have hx:l[k]? =some l[k]:=List.getElem?_eq_getElem h
   cases hg:g l[k]with
   | true=>
    right
    refine ⟨(k:Int),?_,?_⟩
    ·rw[ax.b1,if_pos (by simpa using h),bm,hx,Option.bind_some,hf _ (List.getElem_mem h),Option.bind_some,hg,if_pos rfl]
    ·rw[decide_eq_true (by omega)];symm;rw[List.any_eq_true];exact ⟨_,List.getElem_mem h,hg⟩
   | false=>
    left
    refine ⟨((k+1:Nat):Int),?_,⟨k+1,rfl,h,fun j hj x hx'=>?_⟩,by omega⟩
    ·rw[ax.b1,if_pos (by simpa using h),bm,hx,Option.bind_some,hf _ (List.getElem_mem h),Option.bind_some,hg,if_neg (by simp),w64s (by omega)]
    ·by_cases e:j=k
     ·subst e;rw[hx]at hx';cases hx';exact hg
     ·exact hall j (by omega) x hx'
  ·right
   obtain rfl:k=l.length:=by omega
   refine ⟨-1,?_,?_⟩
   ·rw[ax.b1,if_neg (by simp)];rfl
   ·rw[decide_eq_false (by omega)];symm;rw[List.any_eq_false]
    intro x hx
    obtain ⟨j,hj,rfl⟩:=List.getElem_of_mem hx
    simp[hall j hj _ (List.getElem?_eq_getElem hj)]) (0:Int) ⟨0,rfl,Nat.zero_le _,fun j hj=>absurd hj (by omega)⟩
 unfold bN ax
 rw[h1,Option.bind_some,h2]
theorem swoL:Go.Sort.SWO ltR where
 irrefl x:=by simp[ltR]
 trans x y z h1 h2:=by simp[ltR]at*;omega
 ntrans x y z h1 h2:=by simp[ltR]at*;omega
theorem ag8 {l:List ak} (h:l.length≤140737488355328):∃ l',abD l=some l'∧l'.Perm l∧l'.Pairwise (fun x y=>x.Low≤y.Low):=by
 unfold abD
 rw[if_pos (show l.length≤dn from h)]
 obtain ⟨⟨h1,_,h2⟩,h3⟩:=Go.Sort.pdq_sorts ltR swoL l.toArray 0 l.length (Go.Lib.bitLen l.length) true true (Nat.zero_le _) (by simp) (Or.inl rfl)
 generalize Go.Sort.pdq ltR l.toArray 0 l.length (Go.Lib.bitLen l.length) true true=d at h1 h2 h3 ⊢
 have hs:d.size=l.length:=by simpa using h1
 refine ⟨_,rfl,?_,?_⟩
 ·have e1:d.extract 0 l.length=d:=by rw[← hs];simp
  have e2:l.toArray.extract 0 l.length=l.toArray:=by simp
  rw[e1,e2]at h2
  simpa using h2
 ·rw[List.pairwise_iff_getElem]
  intro i j hi hj hij
  have:=h3 i j (Nat.zero_le _) hij (by simpa[hs]using hj)
  rw[getElem!_pos d j (by simpa using hj),getElem!_pos d i (by simpa using hi)]at this
  simp only[ltR,decide_eq_false_iff_not]at this
  simp only[Array.getElem_toList]
  omega
theorem aot {l:List ak} (h:l.length*16≤140737488355328):bV l=some l:=by
 unfold bV
 rw[cy (by omega)];rfl
instance (x:ak):Decidable (Ok x):=inferInstanceAs (Decidable (_∧_∧_))
theorem wN (x:ak):fo x=some (!decide (Ok x)):=by
 unfold fo Ok
 congr 1
 by_cases h1:x.Low < 0
 ·have:¬ (0≤x.Low∧x.Low≤x.High∧x.High≤1114111):=by omega
  simp[h1,this]
 ·by_cases h2:x.High > 1114111
  ·have:¬ (0≤x.Low∧x.Low≤x.High∧x.High≤1114111):=by omega
   simp[h2,this]
  ·by_cases h3:x.Low > x.High
   ·have:¬ (0≤x.Low∧x.Low≤x.High∧x.High≤1114111):=by omega
    simp[h3,this]
   ·have:0≤x.Low∧x.Low≤x.High∧x.High≤1114111:=by omega
    simp[h1,h2,h3,this]
theorem aju {l:List ak}:(l.any fun x=>!decide (Ok x))= !decide (∀ x∈l,Ok x):=by
 rw[Bool.eq_iff_iff]
 simp
theorem af1 {l:List ak} {s:Nat} {x:ak} (h:l[s]? =some x):l.take (s+1)=l.take s++[x]:=by
 rw[List.take_add_one,h];rfl
theorem ajb {l1:List ak} (hok:∀ x∈l1,Ok x) (hs:l1.Pairwise (fun x y=>x.Low≤y.Low)) (hl:l1.length*16≤140737488355328):
  ∃ r,Loop (cm.b1 l1) ([],(0:Int))=some r∧r.2=0∧Norm r.1∧(∀ t,In r.1 t↔In l1 t)∧r.1.length≤l1.length:=by
 refine jw (body:=cm.b1 l1) (fun p=>∃ k:Nat,p.2=k∧k≤l1.length∧Norm p.1∧(∀ t,In p.1 t↔In (l1.take k) t)∧p.1.length≤k∧∀ y∈p.1,∀ z∈l1.drop k,y.Low≤z.Low) (fun p=>l1.length - p.2.toNat) (fun p hp=>?_) _
  ⟨0,rfl,Nat.zero_le _,lJ,fun t=>by simp,Nat.le_refl _,fun y hy=>by cases hy⟩
 obtain ⟨out,v⟩:=p
 obtain ⟨k,hk,hkl,hn,hin,hlen,hlow⟩:=hp
 simp only at hk hn hin hlen hlow
 subst hk
 by_cases h:k < l1.length
 ·left
  have hx:l1[k]? =some l1[k]:=List.getElem?_eq_getElem h
  have hd:l1.drop k=l1[k]::l1.drop (k+1):=List.drop_eq_getElem_cons h
  obtain ⟨out',g1,g2,g3,g4,g5⟩:=aod (x:=l1[k]) hn (hok _ (List.getElem_mem h)) (fun y hy=>hlow y hy _ (by rw[hd];exact List.mem_cons_self)) (by omega)
  refine ⟨(out',((k+1:Nat):Int)),?_,⟨k+1,rfl,h,g2,fun t=>?_,by simp only;omega,fun y hy z hz=>?_⟩,by simp only;omega⟩
  ·simp only[cm.b1]
   rw[if_pos (by simpa using h),bm,hx,Option.bind_some,g1,Option.bind_some,w64s (by omega)]
  ·simp only
   rw[g3,hin,af1 hx,iX,nF]
  ·have h1:=g5 y hy
   rw[List.pairwise_iff_getElem]at hs
   obtain ⟨j,hj,rfl⟩:=List.getElem_of_mem hz
   simp only[List.getElem_drop]
   have:=hs k (k+1+j) h (by simp at hj;omega) (by omega)
   omega
 ·right
  obtain rfl:k=l1.length:=by omega
  refine ⟨(out,0),?_,rfl,hn,fun t=>?_,hlen⟩
  ·simp only[cm.b1]
   rw[if_neg (by simp)];rfl
  ·simp only
   rw[hin,List.take_length]
theorem aja {l:List ak} (hok:∀ x∈l,Ok x) (hl:l.length*16≤140737488355328):
  ∃ out,cm l=some (out,0)∧Norm out∧(∀ t,In out t↔In l t)∧out.length≤l.length:=by
 obtain ⟨l1,h1,h2,h3⟩:=ag8 (l:=l) (by omega)
 obtain ⟨r,g1,g2,g3,g4,g5⟩:=ajb (l1:=l1) (fun x hx=>hok x (h2.mem_iff.1 hx)) h3 (by rw[h2.length_eq];exact hl)
 refine ⟨r.1,?_,g3,fun t=>(g4 t).trans (aqG h2),by rw[← h2.length_eq];exact g5⟩
 unfold cm
 rw[ra (fun x _=>wN x) (by omega),Option.bind_some,aju,decide_eq_true hok]
 rw[if_neg (by simp),aot hl,Option.bind_some,h1,Option.bind_some,g1,← g2]
theorem adu {l:List ak} (hbad:¬ ∀ x∈l,Ok x) (hl:l.length < 9223372036854775807):cm l=some ([],1):=by
 unfold cm
 rw[ra (fun x _=>wN x) hl,Option.bind_some,aju,decide_eq_false hbad]
 rfl
theorem yD {a b:List ak} (hl:a.length < 9223372036854775807):cb a b=some (decide (a=b)):=by
 unfold cb
 by_cases hlen:a.length=b.length
 ·rw[if_neg (by simp[hlen])]
  have:=rE (b:=cb.b1 a b) (fun j=>a[j]? =b[j]?) a.length (r:=false) (R:=true) (fun j hj hp=>?_) (fun j hj hp=>?_) ?_
  ·by_cases h:a=b
   ·rw[this.1 (fun j _=>by rw[h]),decide_eq_true h]
   ·rw[this.2 (fun hall=>h (List.ext_getElem? fun j=>?_)),decide_eq_false h]
    by_cases hj:j < a.length
    ·exact hall j hj
    ·rw[List.getElem?_eq_none (by omega),List.getElem?_eq_none (by omega)]
  ·have ha:a[j]? =some a[j]:=List.getElem?_eq_getElem hj
   have hb:b[j]? =some a[j]:=by rw[← hp];exact ha
   rw[cb.b1,if_pos (by simpa using hj),bm,ha,Option.bind_some,bm,hb,Option.bind_some,if_neg (by simp),w64s (by omega)]
  ·have ha:a[j]? =some a[j]:=List.getElem?_eq_getElem hj
   have hb:b[j]? =some (b[j]'(by omega)):=List.getElem?_eq_getElem (by omega)
   rw[ha,hb]at hp
   rw[cb.b1,if_pos (by simpa using hj),bm,ha,Option.bind_some,bm,hb,Option.bind_some,if_pos]
   generalize a[j]=x at*
   generalize b[j]'(by omega)=y at*
   cases x;cases y
   simp only[Option.some.injEq,ak.mk.injEq]at hp
   simp
   omega
  ·rw[cb.b1,if_neg (by simp)];rfl
 ·rw[if_pos (by simp;omega)]
  rw[decide_eq_false (fun h=>hlen (by rw[h]))]
end Go.Val
namespace Go.Val
theorem Norm.short:∀ {l:List ak} {lo:Int},Norm l→(∀ x∈l,lo≤x.Low)→(l.length:Int)≤max 0 (1114112 - lo)
 | [],lo,_,_=>by simp;omega
 | x::l,lo,h,hlo=>by
  obtain ⟨h1,h2,h3⟩:=jy.1 h
  unfold Ok at h1
  have:=Norm.short h3 (lo:=x.High+2) (fun y hy=>by have:=h2 y hy;omega)
  have:=hlo x (by simp)
  simp only[List.length_cons]
  omega
theorem Norm.len {l:List ak} (h:Norm l):l.length≤1114112:=by
 have:=h.short (lo:=0) (fun x hx=>(h.1 x hx).1)
 omega
theorem Norm.sep:∀ {a:List ak},Norm a→∀ x∈a,∀ z∈a,z=x∨z.High+1 < x.Low∨x.High+1 < z.Low
 | [],_,x,hx,_,_=>by cases hx
 | y::l,h,x,hx,z,hz=>by
  obtain ⟨h1,h2,h3⟩:=jy.1 h
  rcases List.mem_cons.1 hx with e1 | hx1
  ·rcases List.mem_cons.1 hz with e2 | hz1
   ·exact .inl (e2.trans e1.symm)
   ·rw[e1];exact .inr (.inr (h2 z hz1))
  ·rcases List.mem_cons.1 hz with e2 | hz1
   ·rw[e2];exact .inr (.inl (h2 x hx1))
   ·exact Norm.sep h3 x hx1 z hz1
theorem Norm.below {a:List ak} (h:Norm a) {x:ak} (hx:x∈a):¬ In a (x.Low - 1):=by
 rintro ⟨z,hz,h1,h2⟩
 have k1:=h.1 x hx
 have k2:=h.1 z hz
 unfold Ok at k1 k2
 rcases h.sep x hx z hz with e | e | e
 ·subst e;omega
 ·omega
 ·omega
theorem Norm.take {a:List ak} (h:Norm a) (k:Nat):Norm (a.take k):=⟨fun x hx=>h.1 x (List.mem_of_mem_take hx),h.2.sublist (List.take_sublist _ _)⟩
theorem Norm.drop {a:List ak} (h:Norm a) (k:Nat):Norm (a.drop k):=⟨fun x hx=>h.1 x (List.mem_of_mem_drop hx),h.2.sublist (List.drop_sublist _ _)⟩
def hasB (a:List ak) (r:Int):Bool:=a.any fun x=>decide (x.Low≤r)&&decide (r≤x.High)
theorem kg {a:List ak} {r:Int}:hasB a r=true↔In a r:=by
 simp[hasB,In]
theorem apj {a:List ak} {r:Int} {p:Prop} [Decidable p] (h:In a r↔p):hasB a r=decide p:=by
 rw[Bool.eq_iff_iff,kg,h];simp
theorem ar4 {i j:Nat} (h:i+j < 9223372036854775807):shR .u64 (IntKind.u64.wrap (IntKind.i64.wrap ((i:Int)+j))) 1=(((i+j)/2:Nat):Int):=by
 rw[w64 (by omega) (by omega)]
 have:IntKind.u64.wrap ((i:Int)+j)=(i:Int)+j:=by simp[IntKind.wrap,IntKind.bits,IntKind.signed];omega
 rw[this]
 unfold shR
 rw[show (2:Int)^(min (1:Int).toNat IntKind.u64.bits)=2 from rfl,Int.fdiv_eq_ediv_of_nonneg _ (by omega)]
 omega
def cmpR (x:ak) (r:Int):Int:=if x.High < r then -1 else if x.Low > r then 1 else 0
theorem acx (x:ak) (r:Int):fb x r=some (cmpR x r):=by
 unfold fb cmpR
 by_cases h1:x.High < r
 ·simp[h1]
 ·by_cases h2:x.Low > r
  ·simp[h1,h2]
  ·simp[h1,h2]
theorem atZ {a:List ak} (hn:Norm a) (r:Int):jE a r=some (hasB a r):=by
 have hl:=hn.len
 have hp:=List.pairwise_iff_getElem.1 hn.2
 have ho:=hn.1
 obtain ⟨q,h1,h2⟩:=jw (body:=al.b1 a r fb) (Q:=fun q=>q.2=hasB a r)
  (fun p=>∃ i j:Nat,p.1=i∧p.2=j∧i≤j∧j≤a.length∧(∀ k,k < i→∀ x,a[k]? =some x→x.High < r)∧(∀ k,j≤k→∀ x,a[k]? =some x→r≤x.High)) (fun p=>(p.2 - p.1).toNat) (fun p hp'=>by
  obtain ⟨i0,j0⟩:=p
  obtain ⟨i,j,e1,e2,hij,hj,hlo,hhi⟩:=hp'
  simp only at e1 e2
  subst e1;subst e2
  simp only[al.b1]
  by_cases h:i < j
  ·left
   have hm:(i+j)/2 < a.length:=by omega
   have hx:a[(i+j)/2]? =some a[(i+j)/2]:=List.getElem?_eq_getElem hm
   rw[if_pos (by simpa using h),ar4 (by omega),Option.bind_some,w64 (by omega) (by omega),bm,hx,Option.bind_some,acx,Option.bind_some]
   by_cases hc:a[(i+j)/2].High < r
   ·refine ⟨((((i+j)/2+1:Nat):Int),(j:Int)),?_,⟨(i+j)/2+1,j,rfl,rfl,by omega,hj,fun k hk x hx'=>?_,hhi⟩,by simp only;omega⟩
    ·rw[if_pos (by simp[cmpR,hc]),w64s (by omega)];rfl
    ·by_cases e:k=(i+j)/2
     ·subst e;rw[hx]at hx';cases hx';exact hc
     ·have hkl:k < a.length:=(List.getElem?_eq_some_iff.1 hx').1
      have hkx:a[k]=x:=(List.getElem?_eq_some_iff.1 hx').2
      have:=hp k ((i+j)/2) hkl hm (by omega)
      have o1:=ho _ (List.getElem_mem hm)
      unfold Ok at o1
      rw[hkx]at this
      omega
   ·refine ⟨((i:Int),(((i+j)/2:Nat):Int)),?_,⟨i,(i+j)/2,rfl,rfl,by omega,by omega,hlo,fun k hk x hx'=>?_⟩,by simp only;omega⟩
    ·rw[if_neg (by simp only[cmpR,hc,if_false];split <;> simp)];rfl
    ·by_cases e:k=(i+j)/2
     ·subst e;rw[hx]at hx';cases hx';omega
     ·have hkl:k < a.length:=(List.getElem?_eq_some_iff.1 hx').1
      have hkx:a[k]=x:=(List.getElem?_eq_some_iff.1 hx').2
      have:=hp ((i+j)/2) k hm hkl (by omega)
      have o1:=ho _ (List.getElem_mem hkl)
      unfold Ok at o1
      rw[hkx]at this o1
      omega
  ·right
   obtain rfl:i=j:=by omega
   rw[if_neg (by simp)]
   unfold al.k1
   by_cases hi:i < a.length
   ·have hx:a[i]? =some a[i]:=List.getElem?_eq_getElem hi
    rw[if_pos (by simpa using hi),bm,hx,Option.bind_some,acx,Option.bind_some,Option.bind_some]
    refine ⟨_,rfl,?_⟩
    simp only
    have o1:=ho _ (List.getElem_mem hi)
    have hh:=hhi i (Nat.le_refl _) _ hx
    unfold Ok at o1
    have hin:In a r↔a[i].Low≤r:=by
     constructor
     ·rintro ⟨x,hx',k1,k2⟩
      obtain ⟨k,hk,rfl⟩:=List.getElem_of_mem hx'
      by_cases e:k < i
      ·have:=hlo k e _ (List.getElem?_eq_getElem hk);omega
      ·by_cases e2:k=i
       ·subst e2;exact k1
       ·have:=hp i k hi hk (by omega);omega
     ·exact fun hlow=>⟨_,List.getElem_mem hi,hlow,hh⟩
    rw[apj hin,Bool.eq_iff_iff]
    simp only[cmpR,beq_iff_eq,decide_eq_true_eq]
    rw[if_neg (by omega)]
    split <;> simp <;> omega
   ·rw[if_neg (by simpa using hi),Option.bind_some]
    refine ⟨_,rfl,?_⟩
    simp only
    have hin:¬ In a r:=by
     rintro ⟨x,hx',k1,k2⟩
     obtain ⟨k,hk,rfl⟩:=List.getElem_of_mem hx'
     have:=hlo k (by omega) _ (List.getElem?_eq_getElem hk);omega
    symm
    rw[← Bool.not_eq_true,kg]
    exact hin) ((0:Int),(a.length:Int)) ⟨0,a.length,rfl,rfl,Nat.zero_le _,Nat.le_refl _,fun k hk=>absurd hk (by omega),fun k hk x hx=>by
   have:=(List.getElem?_eq_some_iff.1 hx).1;omega⟩
 unfold jE al
 rw[h1,Option.bind_some,h2]
theorem wF {a:List ak} (hl:a.length < 9223372036854775807) (r:Int):cg a r=some (hasB a r):=by
 have:=rE (b:=cg.b1 a r) (fun j=>∀ x,a[j]? =some x→¬ (x.Low≤r∧r≤x.High)) a.length (r:=true) (R:=false) (fun j hj hp=>?_) (fun j hj hp=>?_) ?_
 ·unfold cg
  by_cases h:∀ j,j < a.length→∀ x,a[j]? =some x→¬ (x.Low≤r∧r≤x.High)
  ·rw[this.1 h]
   congr 1
   symm
   rw[← Bool.not_eq_true,kg]
   rintro ⟨x,hx,h1⟩
   obtain ⟨k,hk,rfl⟩:=List.getElem_of_mem hx
   exact h k hk _ (List.getElem?_eq_getElem hk) h1
  ·rw[this.2 h]
   congr 1
   symm
   rw[kg]
   simp only[Classical.not_forall,Classical.not_not]at h
   obtain ⟨j,hj,x,hx,h1⟩:=h
   exact ⟨x,List.mem_of_getElem? hx,h1⟩
 ·have hx:a[j]? =some a[j]:=List.getElem?_eq_getElem hj
  have h1:=hp _ hx
  rw[cg.b1,if_pos (by simpa using hj),bm,hx,Option.bind_some]
  by_cases h2:r≥a[j].Low
  ·rw[if_pos (by simpa using h2),Option.bind_some,if_neg (by simp;omega),w64s (by omega)]
  ·rw[if_neg (by simpa using h2),Option.bind_some,if_neg (by simp),w64s (by omega)]
 ·have hx:a[j]? =some a[j]:=List.getElem?_eq_getElem hj
  have h1:a[j].Low≤r∧r≤a[j].High:=Classical.not_not.1 fun hn=>hp fun x hx'=>by rw[hx]at hx';cases hx';exact hn
  rw[cg.b1,if_pos (by simpa using hj),bm,hx,Option.bind_some,if_pos (by simpa using h1.1),Option.bind_some,if_pos (by simpa using h1.2)]
 ·rw[cg.b1,if_neg (by simp)];rfl
def many (x:ak):Int:=x.High - x.Low+1
end Go.Val
namespace Go.Val
theorem tq {α:Type} {l:List α} {s:Nat} {x:α} (h:l[s]? =some x):l.take (s+1)=l.take s++[x]:=by
 rw[List.take_add_one,h];rfl
theorem jY {l:List Int} {n:Int} (hp:l.Pairwise (· < ·)) (hl:(l.length+1)*8≤140737488355328):
  ∃ l',bU l n=some l'∧l'.Pairwise (· < ·)∧(∀ x,x∈l'↔x∈l∨x=n)∧l'.length≤l.length+1:=by
 refine jw (body:=bU.b1 l n) (fun v:Int=>∃ k:Nat,v=(k:Int)∧k≤l.length∧∀ j,j < k→∀ x,l[j]? =some x→x < n) (fun v=>l.length - v.toNat) (fun s hs=>?_) _ ⟨0,rfl,Nat.zero_le _,fun j hj=>absurd hj (by omega)⟩
 obtain ⟨k,rfl,hk,hlo⟩:=hs
 simp only[bU.b1]
 have hpw:=List.pairwise_iff_getElem.1 hp
 by_cases hc:∃ x,l[k]? =some x∧x < n
 ·left
  obtain ⟨x,hx,hxn⟩:=hc
  have hkl:k < l.length:=(List.getElem?_eq_some_iff.1 hx).1
  refine ⟨((k+1:Nat):Int),?_,⟨k+1,rfl,hkl,fun j hj y hy=>?_⟩,by omega⟩
  ·rw[if_pos (by simpa using hkl),bm,hx,Option.bind_some,Option.bind_some,if_pos (by simpa using hxn),w64s (by omega)]
  ·by_cases e:j=k
   ·subst e;rw[hx]at hy;cases hy;exact hxn
   ·exact hlo j (by omega) y hy
 ·right
  have hge:∀ x,l[k]? =some x→n≤x:=fun x hx=>by
   rcases Int.lt_or_le x n with h | h
   ·exact absurd ⟨x,hx,h⟩ hc
   ·exact h
  have hv:((if (decide (((k:Nat):Int) < (l.length:Int)))then
    (idx l ((k:Nat):Int)).bind fun n2=>
    some (decide (n2 < n))
   else
    some false))=some false:=by
   by_cases hkl:k < l.length
   ·have hx:l[k]? =some l[k]:=List.getElem?_eq_getElem hkl
    rw[if_pos (by simpa using hkl),bm,hx,Option.bind_some]
    have:=hge _ hx
    rw[decide_eq_false (by omega)]
   ·rw[if_neg (by simpa using hkl)]
  rw[hv,Option.bind_some,if_neg (by simp)]
  unfold bU.k1
  by_cases he:l[k]? =some n
  ·have hkl:k < l.length:=(List.getElem?_eq_some_iff.1 he).1
   refine ⟨l,?_,hp,fun x=>⟨.inl,fun h=>h.elim id fun e=>by subst e;exact List.mem_of_getElem? he⟩,by omega⟩
   rw[if_pos (by simpa using hkl),bm,he,Option.bind_some,Option.bind_some,if_pos (by simp)];rfl
  ·have hv2:((if (decide (((k:Nat):Int) < (l.length:Int)))then
     (idx l ((k:Nat):Int)).bind fun n1=>
     some (n1==n)
    else
     some false))=some false:=by
    by_cases hkl:k < l.length
    ·have hx:l[k]? =some l[k]:=List.getElem?_eq_getElem hkl
     rw[if_pos (by simpa using hkl),bm,hx,Option.bind_some]
     rw[hx]at he
     congr 1
     rw[beq_eq_false_iff_ne]
     exact fun e=>he (by rw[e])
    ·rw[if_neg (by simpa using hkl)]
   have hgt:∀ j,k≤j→∀ x,l[j]? =some x→n < x:=fun j hj x hx=>by
    have hjl:j < l.length:=(List.getElem?_eq_some_iff.1 hx).1
    have hxe:l[j]=x:=(List.getElem?_eq_some_iff.1 hx).2
    have hkl:k < l.length:=by omega
    have h1:=hge _ (List.getElem?_eq_getElem hkl)
    have h2:l[k]≠n:=fun e=>he (by rw[List.getElem?_eq_getElem hkl,e])
    by_cases e:j=k
    ·subst e;rw[hxe]at h1 h2;omega
    ·have:=hpw k j hkl hjl (by omega)
     rw[hxe]at this;omega
   have hch:cutH l (k:Int)=some (l.take k):=by unfold cutH;rw[if_pos ⟨by omega,by omega⟩];simp
   have hcl:cutL l (k:Int)=some (l.drop k):=by unfold cutL;rw[if_pos ⟨by omega,by omega⟩];simp
   have ht:(l.take k).length=k:=by simp;omega
   have hd:(l.drop k).length=l.length - k:=by simp
   refine ⟨l.take k++[n]++l.drop k,?_,?_,fun x=>?_,by simp;omega⟩
   ·rw[hv2,Option.bind_some,if_neg (by simp),hch,Option.bind_some,show (Int.toNat (k:Int))=k by simp,cy (by omega),Option.bind_some,cy (by omega),Option.bind_some,hcl,Option.bind_some,cy (by omega),Option.bind_some];rfl
   ·rw[List.pairwise_append,List.pairwise_append]
    refine ⟨⟨hp.sublist (List.take_sublist _ _),List.pairwise_singleton _ _,fun x hx y hy=>?_⟩,hp.sublist (List.drop_sublist _ _),fun x hx y hy=>?_⟩
    ·simp at hy;subst hy
     obtain ⟨j,hj,rfl⟩:=List.getElem_of_mem hx
     rw[List.getElem_take]
     exact hlo j (by omega) _ (List.getElem?_eq_getElem _)
    ·obtain ⟨j,hj,rfl⟩:=List.getElem_of_mem hy
     rw[List.getElem_drop]
     have hyn:=hgt (k+j) (by omega) _ (List.getElem?_eq_getElem (by omega))
     rcases List.mem_append.1 hx with hx | hx
     ·obtain ⟨i,hi,rfl⟩:=List.getElem_of_mem hx
      rw[List.getElem_take]
      have:=hlo i (by omega) _ (List.getElem?_eq_getElem (by omega))
      omega
     ·simp at hx;subst hx;exact hyn
   ·have hm:x∈l↔x∈l.take k∨x∈l.drop k:=by
     conv=>lhs;rw[← List.take_append_drop k l]
     exact List.mem_append
    simp only[List.mem_append,List.mem_singleton,hm]
    constructor
    ·rintro ((h | h) | h)
     ·exact .inl (.inl h)
     ·exact .inr h
     ·exact .inl (.inr h)
    ·rintro ((h | h) | h)
     ·exact .inl (.inl h)
     ·exact .inr h
     ·exact .inl (.inr h)
def Edge (m:List ak) (e:Int):Prop:=e=0∨∃ x∈m,e=x.Low∨(x.High < 1114111∧e=x.High+1)
theorem jx {m:List ak} {x:ak} {e:Int}:Edge (m++[x]) e↔(Edge m e∨e=x.Low)∨(x.High < 1114111∧e=x.High+1):=by
 unfold Edge
 constructor
 ·rintro (h | ⟨y,hy,h⟩)
  ·exact .inl (.inl (.inl h))
  ·rcases List.mem_append.1 hy with hy | hy
   ·exact .inl (.inl (.inr ⟨y,hy,h⟩))
   ·simp at hy;subst hy
    rcases h with h | h
    ·exact .inl (.inr h)
    ·exact .inr h
 ·rintro (((h | ⟨y,hy,h⟩) | h) | h)
  ·exact .inl h
  ·exact .inr ⟨y,by simp[hy],h⟩
  ·exact .inr ⟨x,by simp,.inl h⟩
  ·exact .inr ⟨x,by simp,.inr h⟩
theorem ahm {a b:List ak} (ha:∀ x∈a,Ok x) (hb:∀ x∈b,Ok x) (hl:a.length+b.length≤4000000):
  ∃ E,bB a b=some E∧E.Pairwise (· < ·)∧(∀ e,e∈E↔Edge (a++b) e)∧E.length≤2*(a.length+b.length)+1:=by
 have hlen:(a++b).length=a.length+b.length:=by simp
 have hok:∀ x∈a++b,Ok x:=fun x hx=>(List.mem_append.1 hx).elim (ha x) (hb x)
 unfold bB
 rw[cy (by omega),Option.bind_some,cy (by omega),Option.bind_some]
 refine jw (body:=bB.b1 a b) (fun p:List Int×Int=>∃ k:Nat,p.2=(k:Int)∧k≤(a++b).length∧p.1.Pairwise (· < ·)∧(∀ e,e∈p.1↔Edge ((a++b).take k) e)∧p.1.length≤2*k+1) (fun p=>(a++b).length - p.2.toNat) (fun p hp=>?_) _
  ⟨0,rfl,Nat.zero_le _,List.pairwise_singleton _ _,fun e=>by simp[Edge],by simp⟩
 obtain ⟨out,v⟩:=p
 obtain ⟨k,e,hk,hpw,hm,hol⟩:=hp
 simp only at e hpw hm hol
 subst e
 generalize hL:a++b=L at*
 simp only[bB.b1,hL]
 by_cases h:k < L.length
 ·left
  have hx:L[k]? =some L[k]:=List.getElem?_eq_getElem h
  have o:=hok _ (List.getElem_mem h)
  unfold Ok at o
  obtain ⟨r,r1,r2,r3,r4⟩:=jY (n:=L[k].Low) hpw (by omega)
  rw[if_pos (by simpa using h),bm,hx,Option.bind_some,r1,Option.bind_some]
  by_cases hh:L[k].High < 1114111
  ·obtain ⟨q,q1,q2,q3,q4⟩:=jY (n:=L[k].High+1) r2 (by omega)
   refine ⟨(q,((k+1:Nat):Int)),?_,⟨k+1,rfl,h,q2,fun e=>?_,by simp only;omega⟩,by simp only;omega⟩
   ·rw[if_pos (by simpa using hh),w64 (by omega) (by omega),q1,Option.bind_some]
    unfold bB.k2
    rw[w64s (by omega)]
   ·simp only
    rw[q3,r3,hm,tq hx,jx]
    constructor
    ·rintro (h | h)
     ·exact .inl h
     ·exact .inr ⟨hh,h⟩
    ·rintro (h | h)
     ·exact .inl h
     ·exact .inr h.2
  ·refine ⟨(r,((k+1:Nat):Int)),?_,⟨k+1,rfl,h,r2,fun e=>?_,by simp only;omega⟩,by simp only;omega⟩
   ·rw[if_neg (by simpa using hh)]
    unfold bB.k2
    rw[w64s (by omega)]
   ·simp only
    rw[r3,hm,tq hx,jx]
    constructor
    ·exact .inl
    ·rintro (h | h)
     ·exact h
     ·exact absurd h.1 hh
 ·right
  obtain rfl:k=L.length:=by omega
  refine ⟨out,?_,hpw,fun e=>?_,by omega⟩
  ·rw[if_neg (by simp)];rfl
  ·rw[hm,List.take_length]
theorem ama {out:List ak} {low high:Int} (hn:Norm out) (h0:0≤low) (h1:low≤high) (h2:high≤1114111) (hl:∀ y∈out,y.High < low):
  ∃ out',dV out low high=some out'∧Norm out'∧∀ r,In out' r↔In out r∨(low≤r∧r≤high):=by
 have hlen:=hn.len
 rcases List.eq_nil_or_concat out with rfl | ⟨init,y,rfl⟩
 ·refine ⟨[⟨low,high⟩],?_,gV (l:=[]).2 ⟨lJ,⟨h0,h1,h2⟩,fun y h=>by cases h⟩,fun r=>?_⟩
  ·unfold dV
   rw[if_neg (by simp),Option.bind_some,if_neg (by simp),cy (by simp),Option.bind_some];rfl
  ·rw[nF];exact ⟨.inr,fun h=>h.elim (fun h=>absurd h tk) id⟩
 ·rw[List.concat_eq_append]at*
  have hlen':(init++[y]).length=init.length+1:=by simp
  obtain ⟨n1,n2,n3⟩:=gV.1 hn
  have hyo:=n2
  unfold Ok at hyo
  have hyl:=hl y (by simp)
  have hi:(init++[y])[init.length]? =some y:=by simp
  have hw:IntKind.i64.wrap (((init++[y]).length:Int) - 1)=(init.length:Int):=by rw[hlen'];exact acy (by omega)
  have hcond:(if (decide (((init++[y]).length:Int) > (0:Int)))then
   (idx (init++[y]) (IntKind.i64.wrap (((init++[y]).length:Int) - (1:Int)))).bind fun x=>
   some (x.High==(IntKind.i64.wrap (low - (1:Int))))
  else
   some false)=some (y.High==low - 1):=by
   rw[if_pos (by simp),hw,bm,hi,Option.bind_some,w64 (by omega) (by omega)]
  by_cases hc:y.High=low - 1
  ·refine ⟨init++[⟨y.Low,high⟩],?_,gV.2 ⟨n1,⟨(show 0≤y.Low by omega),(show y.Low≤high by omega),h2⟩,n3⟩,fun r=>?_⟩
   ·unfold dV
    rw[hcond,Option.bind_some,if_pos (by simpa using hc),hw,bm,hi,Option.bind_some]
    simp
   ·rw[iX,iX,nF,nF]
    show In init r∨(y.Low≤r∧r≤high)↔(In init r∨(y.Low≤r∧r≤y.High))∨(low≤r∧r≤high)
    constructor
    ·rintro (h | ⟨h3,h4⟩)
     ·exact .inl (.inl h)
     ·by_cases h5:r≤y.High
      ·exact .inl (.inr ⟨h3,h5⟩)
      ·exact .inr ⟨by omega,by omega⟩
    ·rintro ((h | ⟨h3,h4⟩) | ⟨h3,h4⟩)
     ·exact .inl h
     ·exact .inr ⟨h3,by omega⟩
     ·exact .inr ⟨by omega,by omega⟩
  ·refine ⟨init++[y]++[⟨low,high⟩],?_,gV.2 ⟨hn,⟨h0,h1,h2⟩,fun z hz=>?_⟩,fun r=>?_⟩
   ·unfold dV
    rw[hcond,Option.bind_some,if_neg (by simpa using hc),cy (by omega),Option.bind_some]
   ·show z.High+1 < low
    rcases List.mem_append.1 hz with hz | hz
    ·have:=n3 z hz;omega
    ·simp at hz;subst hz;omega
   ·rw[iX,nF]
end Go.Val
namespace Go.Val
def tS (kind:Int) (one two:Bool):Bool:=if kind=1 then one&&two else if kind=2 then one&& !two else if kind=3 then !one&& !two else one||two
def bnd (E:List Int) (k:Nat):Int:=(E[k]?).getD 1114112
theorem fT {E:List Int} {k:Nat} (h:k < E.length):bnd E k=E[k]:=by unfold bnd;rw[List.getElem?_eq_getElem h];rfl
theorem mO {E:List Int}:bnd E E.length=1114112:=by unfold bnd;rw[List.getElem?_eq_none (Nat.le_refl _)];rfl
theorem ve {E:List Int} (hp:E.Pairwise (· < ·)) {k:Nat} (h:k < E.length) {e:Int} (he:e∈E):e≤E[k]∨bnd E (k+1)≤e:=by
 obtain ⟨j,hj,rfl⟩:=List.getElem_of_mem he
 have hpw:=List.pairwise_iff_getElem.1 hp
 by_cases h1:j < k
 ·exact .inl (by have:=hpw j k hj h h1;omega)
 ·by_cases h2:j=k
  ·subst h2;exact .inl (Int.le_refl _)
  ·right
   rw[fT (by omega)]
   by_cases h3:j=k+1
   ·subst h3;exact Int.le_refl _
   ·have:=hpw (k+1) j (by omega) hj (by omega);omega
theorem ajS {E:List Int} (hp:E.Pairwise (· < ·)) (hE:∀ e∈E,e≤1114111) {k:Nat} (h:k < E.length):E[k] < bnd E (k+1):=by
 by_cases h1:k+1 < E.length
 ·rw[fT h1];exact List.pairwise_iff_getElem.1 hp k (k+1) h h1 (by omega)
 ·rw[show k+1=E.length by omega,mO]
  have:=hE _ (List.getElem_mem h);omega
theorem tb {m:List ak} (hm:∀ x∈m,Ok x) {e:Int} (h:Edge m e):0≤e∧e≤1114111:=by
 rcases h with rfl | ⟨x,hx,h⟩
 ·omega
 ·have:=hm x hx
  unfold Ok at this
  rcases h with rfl | ⟨h,rfl⟩ <;> omega
theorem uy {m L:List ak} {E:List Int} (hm:∀ x∈L,Ok x) (hp:E.Pairwise (· < ·)) (hE:∀ e,e∈E↔Edge L e) (hs:∀ x∈m,x∈L) {k:Nat} (h:k < E.length) {t:Int} (h1:E[k]≤t) (h2:t < bnd E (k+1)) (h3:t≤1114111):
  hasB m t=hasB m E[k]:=by
 rw[Bool.eq_iff_iff,kg,kg]
 have key:∀ x∈m,(x.Low≤t∧t≤x.High)↔(x.Low≤E[k]∧E[k]≤x.High):=fun x hx=>by
  have o:=hm x (hs x hx)
  unfold Ok at o
  have k1:=ve hp h ((hE x.Low).2 (.inr ⟨x,hs x hx,.inl rfl⟩))
  by_cases hh:x.High < 1114111
  ·have k2:=ve hp h ((hE (x.High+1)).2 (.inr ⟨x,hs x hx,.inr ⟨hh,rfl⟩⟩))
   omega
  ·omega
 constructor
 ·rintro ⟨x,hx,h⟩;exact ⟨x,hx,(key x hx).1 h⟩
 ·rintro ⟨x,hx,h⟩;exact ⟨x,hx,(key x hx).2 h⟩
theorem as3 {a b:List ak} {kind:Int} {E:List Int} {out:List ak} {k:Nat} {high:Int} (h:k < E.length) (ha:a.length≤4000000) (hb:b.length≤4000000):
  aD.k3 a b kind E out (k:Int) high=aD.k4 out k high E[k] (tS kind (hasB a E[k]) (hasB b E[k])):=by
 unfold aD.k3 tS
 rw[bm,List.getElem?_eq_getElem h,Option.bind_some,wF (by omega),Option.bind_some,wF (by omega),Option.bind_some]
 generalize hasB a E[k]=p
 generalize hasB b E[k]=q
 by_cases h1:kind=1
 ·subst h1;cases p <;> rfl
 ·rw[if_neg (by simpa using h1),if_neg h1]
  by_cases h2:kind=2
  ·subst h2;cases p <;> rfl
  ·rw[if_neg (by simpa using h2),if_neg h2]
   by_cases h3:kind=3
   ·subst h3;cases p <;> rfl
   ·rw[if_neg (by simpa using h3),if_neg h3]
theorem aiz {a b:List ak} {kind:Int} (ha:∀ x∈a,Ok x) (hb:∀ x∈b,Ok x) (hl:a.length+b.length≤4000000):
  ∃ out,aD a b kind=some out∧Norm out∧∀ t,In out t↔(0≤t∧t≤1114111∧tS kind (hasB a t) (hasB b t)=true):=by
 obtain ⟨E,e1,e2,e3,e4⟩:=ahm ha hb hl
 have hok:∀ x∈a++b,Ok x:=fun x hx=>(List.mem_append.1 hx).elim (ha x) (hb x)
 have hbd:∀ e∈E,0≤e∧e≤1114111:=fun e he=>tb hok ((e3 e).1 he)
 have h0:0 < E.length:=List.length_pos_of_mem ((e3 0).2 (.inl rfl))
 have hE0:bnd E 0=0:=by
  rw[fT h0]
  have k1:=hbd _ (List.getElem_mem h0)
  obtain ⟨j,hj,hje⟩:=List.getElem_of_mem ((e3 0).2 (.inl rfl))
  by_cases h:j=0
  ·subst h;exact hje
  ·have:=List.pairwise_iff_getElem.1 e2 0 j h0 hj (by omega);omega
 unfold aD
 rw[e1,Option.bind_some]
 refine jw (body:=aD.b1 a b kind E) (fun p:List ak×Int=>∃ k:Nat,p.2=(k:Int)∧k≤E.length∧Norm p.1∧∀ t,In p.1 t↔(0≤t∧t < bnd E k∧tS kind (hasB a t) (hasB b t)=true)) (fun p=>E.length - p.2.toNat) (fun p hp=>?_) _
  ⟨0,rfl,Nat.zero_le _,lJ,fun t=>⟨fun h=>absurd h tk,fun h=>by rw[hE0]at h;omega⟩⟩
 obtain ⟨out,v⟩:=p
 obtain ⟨k,e,hk,hn,hin⟩:=hp
 simp only at e hn hin
 subst e
 simp only[aD.b1]
 by_cases h:k < E.length
 ·left
  have hlt:=ajS e2 (fun e he=>(hbd e he).2) h
  have hE:=hbd _ (List.getElem_mem h)
  have hnext:bnd E (k+1)≤1114112:=by
   by_cases h1:k+1 < E.length
   ·rw[fT h1];have:=hbd _ (List.getElem_mem h1);omega
   ·rw[show k+1=E.length by omega,mO];omega
  have hhigh:(if (decide ((IntKind.i64.wrap ((k:Int)+(1:Int))) < (E.length:Int)))then
    (idx E (IntKind.i64.wrap ((k:Int)+(1:Int)))).bind fun n1=>
    aD.k3 a b kind E out (k:Int) (IntKind.i64.wrap (n1 - (1:Int)))
   else
    aD.k3 a b kind E out (k:Int) (1114111:Int))=aD.k3 a b kind E out (k:Int) (bnd E (k+1) - 1):=by
   rw[w64s (by omega)]
   by_cases h1:k+1 < E.length
   ·have:=hbd _ (List.getElem_mem h1)
    rw[if_pos (by simp;omega),bm,List.getElem?_eq_getElem h1,Option.bind_some,fT h1,w64 (by omega) (by omega)]
   ·rw[if_neg (by simp;omega),show k+1=E.length by omega,mO];rfl
  rw[if_pos (by simpa using h),hhigh,as3 h (by omega) (by omega)]
  unfold aD.k4 aD.k2
  have hconst:∀ t,E[k]≤t→t < bnd E (k+1)→tS kind (hasB a t) (hasB b t)=tS kind (hasB a E[k]) (hasB b E[k]):=fun t h1 h2=>by
   rw[uy hok e2 e3 (fun x hx=>by simp[hx]) h h1 h2 (by omega),uy hok e2 e3 (fun x hx=>by simp[hx]) h h1 h2 (by omega)]
  rw[fT h]at hin
  cases hc:tS kind (hasB a E[k]) (hasB b E[k])with
  | true=>
   obtain ⟨out',q1,q2,q3⟩:=ama (low:=E[k]) (high:=bnd E (k+1) - 1) hn hE.1 (by omega) (by omega) (fun y hy=>((hin y.High).1 (arP hn hy)).2.1)
   refine ⟨(out',((k+1:Nat):Int)),?_,⟨k+1,rfl,h,q2,fun t=>?_⟩,by simp only;omega⟩
   ·rw[if_pos rfl,q1,Option.bind_some,w64s (by omega)]
   ·simp only
    rw[q3,hin]
    constructor
    ·rintro (⟨h1,h2,h3⟩ | ⟨h1,h2⟩)
     ·exact ⟨h1,by omega,h3⟩
     ·exact ⟨by omega,by omega,by rw[hconst t h1 (by omega)];exact hc⟩
    ·rintro ⟨h1,h2,h3⟩
     by_cases h4:t < E[k]
     ·exact .inl ⟨h1,h4,h3⟩
     ·exact .inr ⟨by omega,by omega⟩
  | false=>
   refine ⟨(out,((k+1:Nat):Int)),?_,⟨k+1,rfl,h,hn,fun t=>?_⟩,by simp only;omega⟩
   ·rw[if_neg (by simp),w64s (by omega)]
   ·simp only
    rw[hin]
    constructor
    ·rintro ⟨h1,h2,h3⟩
     exact ⟨h1,by omega,h3⟩
    ·rintro ⟨h1,h2,h3⟩
     by_cases h4:t < E[k]
     ·exact ⟨h1,h4,h3⟩
     ·rw[hconst t (by omega) h2,hc]at h3;cases h3
 ·right
  obtain rfl:k=E.length:=by omega
  refine ⟨out,?_,hn,fun t=>?_⟩
  ·rw[if_neg (by simp)];rfl
  ·rw[hin,mO]
   constructor
   ·rintro ⟨h1,h2,h3⟩;exact ⟨h1,by omega,h3⟩
   ·rintro ⟨h1,h2,h3⟩;exact ⟨h1,by omega,h3⟩
theorem qU {l:List ak} {k:Nat} (h:k < l.length) (hb:¬ Ok l[k]):bw.b1 l (k:Int)=some (.done ([],1)):=by
 rw[bw.b1,if_pos (by simpa using h),bm,List.getElem?_eq_getElem h,Option.bind_some]
 unfold Ok at hb
 by_cases h1:l[k].Low < 0
 ·rw[if_pos (by simpa using h1),Option.bind_some];rfl
 ·by_cases h2:l[k].High > 1114111
  ·rw[if_neg (by simpa using h1),if_pos (by simpa using h2),Option.bind_some];rfl
  ·rw[if_neg (by simpa using h1),if_neg (by simpa using h2),Option.bind_some,if_pos (by simp;omega)]
theorem me {l:List ak} {k:Nat} (h:k < l.length) (hl:l.length≤4000000) (hb:Ok l[k]):bw.b1 l (k:Int)=some (.next ((k+1:Nat):Int)):=by
 rw[bw.b1,if_pos (by simpa using h),bm,List.getElem?_eq_getElem h,Option.bind_some]
 unfold Ok at hb
 rw[if_neg (by simp;omega),if_neg (by simp;omega),Option.bind_some,if_neg (by simp;omega),w64s (by omega)]
theorem aeB {l:List ak} (hok:∀ x∈l,Ok x) (hl:l.length≤4000000):∃ out,bw l=some (out,0)∧Norm out∧∀ t,In out t↔In l t:=by
 obtain ⟨out,h1,h2,h3⟩:=aiz (a:=l) (b:=[]) (kind:=0) hok (fun x h=>by cases h) (by simpa using hl)
 refine ⟨out,?_,h2,fun t=>?_⟩
 ·unfold bw
  have:=nf (b:=bw.b1 l) (i:=0) (n:=l.length) (Nat.zero_le _) (fun j _ hj=>me hj hl (hok _ (List.getElem_mem hj)))
  rw[show ((0:Nat):Int)=0 from rfl]at this
  rw[this]
  apply bK
  rw[bw.b1,if_neg (by simp)]
  unfold bw.k1
  rw[h1];rfl
 ·rw[h3]
  have e:tS 0 (hasB l t) (hasB [] t)=hasB l t:=by simp[tS,hasB]
  rw[e,kg]
  constructor
  ·exact fun h=>h.2.2
  ·intro h
   obtain ⟨x,hx,k1,k2⟩:=h
   have:=hok x hx
   unfold Ok at this
   exact ⟨by omega,by omega,x,hx,k1,k2⟩
theorem zf {l:List ak} (hbad:¬ ∀ x∈l,Ok x) (hl:l.length≤4000000):bw l=some ([],1):=by
 unfold bw
 refine aln (R:=some ([],1)) (fun v:Int=>∃ k:Nat,v=(k:Int)∧k≤l.length∧∀ j (hj:j < l.length),j < k→Ok l[j]) (fun v=>l.length - v.toNat) (fun v hv=>?_) _ ⟨0,rfl,Nat.zero_le _,fun j _ hj=>absurd hj (by omega)⟩
 obtain ⟨k,rfl,hk,hall⟩:=hv
 by_cases h:k < l.length
 ·by_cases ho:Ok l[k]
  ·left
   refine ⟨_,me h hl ho,⟨k+1,rfl,h,fun j hj hjk=>?_⟩,by omega⟩
   by_cases e:j=k
   ·subst e;exact ho
   ·exact hall j hj (by omega)
  ·right
   exact ⟨_,rfl,qU h ho⟩
 ·exact absurd (fun x hx=>by
   obtain ⟨j,hj,rfl⟩:=List.getElem_of_mem hx
   exact hall j hj (by omega)) hbad
end Go.Val
namespace Go.Val
def lZ (S:List (List ak)) (r:Int):Nat→Nat
 | 0=>0
 | k+1=>lZ S r k+if hasB (S.getD k []) r then 2^k else 0
theorem adb (S:List (List ak)) (r:Int):∀ k,lZ S r k < 2^k
 | 0=>by simp[lZ]
 | k+1=>by
  have:=adb S r k
  simp only[lZ,Nat.pow_succ]
  split <;> omega
theorem auh {m k:Nat} (h:m < 2^k) (hk:k < 64):bOr .u64 (m:Int) (shL .u64 (1:Int) (k:Int))=((m+2^k:Nat):Int):=by
 have hp:2^k≤2^63:=Nat.pow_le_pow_right (by omega) (by omega)
 have hw:∀ n:Nat,n < 18446744073709551616→IntKind.u64.wrap (n:Int)=(n:Int):=fun n hn=>by simp[IntKind.wrap,IntKind.signed,IntKind.bits];omega
 have hmin:min k 64=k:=by omega
 have hs:shL .u64 (1:Int) (k:Int)=((2^k:Nat):Int):=by
  unfold shL
  simp only[Int.toNat_natCast,IntKind.bits,hmin,Int.one_mul]
  rw[show (2:Int)^k=((2^k:Nat):Int) by simp,hw _ (by omega)]
 rw[hs]
 show IntKind.u64.wrap (((BitVec.ofInt 64 ((m:Nat):Int) ||| BitVec.ofInt 64 ((2^k:Nat):Int)).toNat:Nat):Int)=_
 rw[BitVec.ofInt_natCast,BitVec.ofInt_natCast,BitVec.toNat_or,BitVec.toNat_ofNat,BitVec.toNat_ofNat,Nat.mod_eq_of_lt (by omega),Nat.mod_eq_of_lt (by omega)]
 have h2:=Nat.two_pow_add_eq_or_of_lt h 1
 rw[Nat.mul_one]at h2
 rw[Nat.or_comm,← h2,hw _ (by omega),Nat.add_comm]
end Go.Val
namespace Go.Val
theorem at3 {n:Int} (h:0≤n):nat n=some n:=by unfold nat;rw[if_pos h]
theorem vZ {S:List (List ak)} {r:Int} (hn:∀ s∈S,Norm s) (hl:S.length≤60):∀ (d k:Nat),k+d=S.length→Loop (bG.b1 S r) (((lZ S r k:Nat):Int),(k:Int))=some ((lZ S r S.length:Nat):Int)
 | 0,k,h=>by
  obtain rfl:k=S.length:=by omega
  refine cM ?_
  simp only[bG.b1]
  rw[if_neg (by simp)];rfl
 | d+1,k,h=>by
  have hk:k < S.length:=by omega
  have ih:=vZ (r:=r) hn hl d (k+1) (by omega)
  rw[← ih]
  refine bH ?_
  simp only[bG.b1]
  rw[if_pos (by simpa using hk),bm,List.getElem?_eq_getElem hk,Option.bind_some,atZ (hn _ (List.getElem_mem hk)),Option.bind_some]
  have hg:S.getD k []=S[k]:=by simp[List.getD_eq_getElem?_getD,List.getElem?_eq_getElem hk]
  have hm:lZ S r (k+1)=lZ S r k+if hasB S[k] r then 2^k else 0:=by simp only[lZ,hg]
  rw[hm]
  cases hb:hasB S[k] r with
  | true=>
   simp only[if_true]
   rw[at3 (by omega),Option.bind_some,auh (adb S r k) (by omega)]
   unfold bG.k2
   rw[w64s (by omega)]
  | false=>
   simp only[Bool.false_eq_true,if_false,Nat.add_zero]
   unfold bG.k2
   rw[w64s (by omega)]
theorem aqQ {S:List (List ak)} (hn:∀ s∈S,Norm s) (hl:S.length≤60) (r:Int):bG S r=some ((lZ S r S.length:Nat):Int):=vZ hn hl S.length 0 (by omega)
end Go.Val
namespace Go.Val
def valN (l:List cF) (r:Int):UInt8:=l.foldl (fun v x=>if x.Low≤r∧r≤x.High then x.Value else v) 0
theorem rH (l:List cF) (x:cF) (r:Int):valN (l++[x]) r=if x.Low≤r∧r≤x.High then x.Value else valN l r:=by
 unfold valN;rw[List.foldl_append];rfl
def cE (l:List cF) (k:Nat):Vector UInt8 256:=Vector.ofFn fun j=>valN l (((k*256+j.1:Nat)):Int)
theorem kJ (l:List cF) (k j:Nat) (h:j < 256):(cE l k).toList[j]? =some (valN l ((k*256+j:Nat):Int)):=by
 unfold cE
 rw[List.getElem?_eq_getElem (by simpa using h)]
 simp
end Go.Val
namespace Go.Val
variable {l:List cF} {x:cF}
def partOf (l:List cF) (x:cF) (k:Nat) (r:Int):Vector UInt8 256:=Vector.ofFn fun j=>if x.Low≤((k*256+j.1:Nat):Int)∧((k*256+j.1:Nat):Int)≤x.High∧((k*256+j.1:Nat):Int) < r then x.Value else valN l ((k*256+j.1:Nat):Int)
theorem pP (k:Nat) (r:Int) (j:Nat) (h:j < 256):(partOf l x k r)[j]=if x.Low≤((k*256+j:Nat):Int)∧((k*256+j:Nat):Int)≤x.High∧((k*256+j:Nat):Int) < r then x.Value else valN l ((k*256+j:Nat):Int):=by
 unfold partOf;simp
theorem agy (k:Nat) (r:Int) (h:r≤max x.Low ((k*256:Nat):Int)):partOf l x k r=cE l k:=by
 apply Vector.ext
 intro j hj
 rw[pP k r j hj]
 unfold cE
 rw[if_neg (by omega)];simp
theorem apa (k:Nat) (r:Int) (h:min x.High ((k*256+255:Nat):Int) < r):partOf l x k r=cE (l++[x]) k:=by
 apply Vector.ext
 intro j hj
 rw[pP k r j hj]
 unfold cE
 simp only[Vector.getElem_ofFn,rH]
 by_cases hc:x.Low≤((k*256+j:Nat):Int)∧((k*256+j:Nat):Int)≤x.High
 ·rw[if_pos hc,if_pos ⟨hc.1,hc.2,by omega⟩]
 ·rw[if_neg hc,if_neg (fun h=>hc ⟨h.1,h.2.1⟩)]
theorem amS (k:Nat) (r:Int) (h0:((k*256:Nat):Int)≤r) (h1:r≤((k*256+255:Nat):Int)) (h2:x.Low≤r) (h3:r≤x.High):vset (partOf l x k r) (r - ((k*256:Nat):Int)) x.Value=partOf l x k (r+1):=by
 apply Vector.ext
 intro j hj
 unfold vset
 rw[Vector.getElem_setIfInBounds hj,pP k (r+1) j hj,pP k r j hj]
 by_cases hr:(r - ((k*256:Nat):Int)).toNat=j
 ·rw[if_pos hr,if_pos (by omega)]
 ·rw[if_neg hr]
  have:(((k*256+j:Nat):Int) < r+1)↔(((k*256+j:Nat):Int) < r):=by omega
  simp only[this]
end Go.Val
namespace Go.Val
variable {l:List cF} {x:cF}
theorem apP (a b:Int):mn a b=min a b:=by unfold mn;omega
theorem aq8 {k i:Nat} (hk:k < 4352) (hx:0≤x.Low∧x.Low≤x.High∧x.High≤1114111) (hi:i < 4000000):∀ (d:Nat) (r:Int),max x.Low ((k*256:Nat):Int)≤r→(min x.High ((k*256+255:Nat):Int)+1 - r).toNat=d→
  Loop (aI.b3 (k:Int) (i:Int) x) (r,partOf l x k r)=some (.next (((i+1:Nat):Int),cE (l++[x]) k)):=by
 have hlow:IntKind.i64.wrap ((k:Int)*256)=((k*256:Nat):Int):=by rw[w64 (by omega) (by omega)];omega
 have htop:IntKind.i64.wrap (IntKind.i64.wrap (((k*256:Nat):Int)+256) - 1)=((k*256+255:Nat):Int):=by rw[w64 (n:=((k*256:Nat):Int)+256) (by omega) (by omega),w64 (by omega) (by omega)];omega
 have stop:∀ r:Int,min x.High ((k*256+255:Nat):Int) < r→Loop (aI.b3 (k:Int) (i:Int) x) (r,partOf l x k r)=some (.next (((i+1:Nat):Int),cE (l++[x]) k)):=fun r hr=>by
  refine bK ?_
  simp only[aI.b3]
  rw[hlow,htop,apP,if_neg (by simp;omega),apa k r hr]
  unfold aI.k4
  rw[w64s (by omega)]
 intro d
 induction d with
 | zero=>exact fun r hr hd=>stop r (by omega)
 | succ d ih=>
  intro r hr hd
  rw[← ih (r+1) (by omega) (by omega)]
  refine bH ?_
  simp only[aI.b3]
  have b1:r≤x.High∧r≤((k*256+255:Nat):Int):=by omega
  have b2:x.Low≤r∧((k*256:Nat):Int)≤r:=by omega
  have hs:=amS (l:=l) (x:=x) k r b2.2 b1.2 b2.1 b1.1
  rw[hlow,htop,apP,if_pos (decide_eq_true (by omega)),w64 (n:=r - ((k*256:Nat):Int)) (by omega) (by omega),w64 (n:=r+1) (by omega) (by omega)]
  obtain ⟨j,hj⟩:∃ j:Nat,r - ((k*256:Nat):Int)=(j:Int):=⟨(r - ((k*256:Nat):Int)).toNat,by omega⟩
  have hj2:j < (partOf l x k r).toList.length:=by rw[Vector.length_toList];omega
  rw[hs,hj,bm,List.getElem?_eq_getElem hj2];rfl
end Go.Val
namespace Go.Val
theorem gQ {α:Type} {l:List α} {s:Nat} (h:s < l.length):l.take (s+1)=l.take s++[l[s]]:=by rw[List.take_add_one,List.getElem?_eq_getElem h];rfl
theorem aaS (k:Nat):cE [] k=Vector.replicate 256 0:=by
 apply Vector.ext
 intro j hj
 simp[cE,valN]
def OkP (x:cF):Prop:=0≤x.Low∧x.Low≤x.High∧x.High≤1114111
theorem ait {l:List cF} {k:Nat} (hk:k < 4352) (ho:∀ x∈l,OkP x) (hl:l.length≤4096) {like:Vector UInt8 4352} {first:List (Vector UInt8 256)} {m:List (Vector UInt8 256×Int)}:∀ (d i:Nat),i+d=l.length→
  Loop (aI.b2 l (k:Int) like first m) ((i:Int),cE (l.take i) k)=aI.k3 (k:Int) like first m (cE l k)
 | 0,i,h=>by
  obtain rfl:i=l.length:=by omega
  refine bK ?_
  simp only[aI.b2]
  rw[if_neg (by simp),List.take_length]
 | d+1,i,h=>by
  have hi:i < l.length:=by omega
  rw[← ait hk ho hl d (i+1) (by omega)]
  refine bH ?_
  simp only[aI.b2]
  have hlow:IntKind.i64.wrap ((k:Int)*256)=((k*256:Nat):Int):=by rw[w64 (by omega) (by omega)];omega
  rw[if_pos (by simpa using hi),bm,List.getElem?_eq_getElem hi,Option.bind_some,hlow]
  have hm:mx l[i].Low ((k*256:Nat):Int)=max l[i].Low ((k*256:Nat):Int):=by unfold mx;omega
  rw[hm,← agy (l:=l.take i) (x:=l[i]) k (max l[i].Low ((k*256:Nat):Int)) (by omega),gQ hi]
  exact aq8 hk (ho _ (List.getElem_mem hi)) (by omega) _ _ (by omega) rfl
end Go.Val
namespace Go.Val
variable {K:Type} [DecidableEq K]
def iJ (known:List (K×Int)) (l:List K):Prop:=known.length=l.length∧∀ i:Nat,known[i]? =(l[i]?).map fun a=>(a,(i:Int))
theorem wE {a:K}:∀ {m:List (K×Int)},(∀ p∈m,p.1≠a)→aget a m=none
 | [],_=>rfl
 | (k,v)::m,h=>by
  simp only[aget]
  rw[if_neg (fun e=>h (k,v) (by simp) e.symm)]
  exact wE fun p hp=>h p (List.mem_cons_of_mem _ hp)
theorem adC {a:K} {v:Int}:∀ {m:List (K×Int)},(∀ p∈m,p.1≠a)→aput a v m=m++[(a,v)]
 | [],_=>rfl
 | (k,w)::m,h=>by
  simp only[aput]
  rw[if_neg (fun e=>h (k,w) (by simp) e.symm),adC fun p hp=>h p (List.mem_cons_of_mem _ hp)];rfl
theorem akW {a:K}:∀ {m:List (K×Int)} {i:Nat} {v:Int},m[i]? =some (a,v)→(∀ j < i,∀ p,m[j]? =some p→p.1≠a)→aget a m=some v
 | [],i,v,h,_=>by simp at h
 | (k,w)::m,0,v,h,_=>by
  simp at h
  obtain ⟨rfl,rfl⟩:=h
  simp[aget]
 | (k,w)::m,i+1,v,h,hb=>by
  have h0:=hb 0 (by omega) (k,w) rfl
  simp only[aget]
  rw[if_neg (fun e=>h0 e.symm)]
  exact akW (by simpa using h) fun j hj p hp=>hb (j+1) (by omega) p (by simpa using hp)
end Go.Val
namespace Go.Val
set_option linter.unusedSectionVars false
variable {K:Type} [DecidableEq K]
def addF (F:List K) (a:K):List K:=if a∈F then F else F++[a]
def firsts (l:List K):List K:=l.foldl addF []
theorem dN {l:List K} {a:K}:firsts (l++[a])=addF (firsts l) a:=by
 unfold firsts;rw[List.foldl_append];rfl
theorem aov {F:List K} {a:K}:F <+: addF F a:=by
 unfold addF;split
 ·exact List.prefix_refl F
 ·exact List.prefix_append F [a]
theorem anF {F:List K} {a b:K}:b∈addF F a↔b∈F∨b=a:=by
 unfold addF;split
 ·exact ⟨Or.inl,fun h=>h.elim id fun e=>by rw[e];assumption⟩
 ·simp
theorem ahr {F:List K} {a:K} (h:F.Nodup):(addF F a).Nodup:=by
 unfold addF;split
 ·exact h
 ·rename_i hn
  rw[List.nodup_append]
  exact ⟨h,by simp,fun x hx y hy=>by simp at hy;rintro rfl;exact hn (hy ▸ hx)⟩
theorem dR {l:List K} {a:K}:a∈firsts l↔a∈l:=by
 induction l using lR with
 | h0=>simp[firsts]
 | h1 l x ih=>rw[dN,anF,ih];simp
theorem lq {l:List K}:(firsts l).Nodup:=by
 induction l using lR with
 | h0=>simp[firsts]
 | h1 l x ih=>rw[dN];exact ahr ih
theorem ou {l m:List K}:firsts l <+: firsts (l++m):=by
 induction m using lR with
 | h0=>simp
 | h1 m x ih=>rw[← List.append_assoc,dN];exact ih.trans aov
def pos (F:List K) (a:K):Nat:=F.idxOf a
theorem wL {F:List K} {a:K} (h:a∈F):pos F a < F.length:=List.idxOf_lt_length_iff.2 h
theorem qJ {F:List K} {a:K} (h:a∈F):F[pos F a]? =some a:=by
 unfold pos
 rw[List.getElem?_eq_getElem (List.idxOf_lt_length_iff.2 h),List.getElem_idxOf]
theorem pU {F:List K} {a b:K}:pos (a::F) b=if a=b then 0 else pos F b+1:=by
 unfold pos
 rw[List.idxOf_cons]
 by_cases h:a=b
 ·simp[h]
 ·rw[beq_false_of_ne h,if_neg h];rfl
theorem aik {F:List K} {a:K} {j:Nat} (hj:j < pos F a):F[j]? ≠some a:=by
 intro hf
 have hb:=(List.getElem?_eq_some_iff.1 hf)
 have hn:=List.not_of_lt_findIdx (p:=fun x=>x==a) (xs:=F) hj
 simp only[beq_eq_false_iff_ne,ne_eq,Bool.not_eq_true]at hn
 exact hn hb.2
theorem qD {F G:List K} (h:F <+: G) {a:K} (ha:a∈F):pos G a=pos F a:=by
 obtain ⟨t,rfl⟩:=h
 unfold pos
 rw[List.idxOf_append,if_pos ha]
theorem abz {F:List K} {a:K} (h:a∉F):pos (F++[a]) a=F.length:=by
 unfold pos
 rw[List.idxOf_append,if_neg h];simp
theorem aqf {F:List K} {a b:K} (ha:a∈F) (hb:b∈F) (h:pos F a=pos F b):a=b:=by
 have h1:=qJ ha
 rw[h,qJ hb]at h1
 exact (Option.some.inj h1).symm
theorem qM:iJ ([]:List (K×Int)) []:=⟨rfl,fun i=>by simp⟩
theorem iJ.keys {m:List (K×Int)} {F:List K} (h:iJ m F) {p:K×Int} (hp:p∈m):p.1∈F:=by
 obtain ⟨i,hi⟩:=List.mem_iff_getElem?.1 hp
 rw[h.2 i]at hi
 cases hf:F[i]? with
 | none=>rw[hf]at hi;cases hi
 | some a=>
  rw[hf]at hi;cases hi
  exact List.mem_of_getElem? hf
theorem iJ.none {m:List (K×Int)} {F:List K} (h:iJ m F) {a:K} (ha:a∉F):aget a m= .none:=wE fun p hp e=>ha (e ▸ h.keys hp)
theorem iJ.some {m:List (K×Int)} {F:List K} (h:iJ m F) {a:K} (ha:a∈F):aget a m= .some (pos F a:Int):=by
 refine akW (i:=pos F a) (by rw[h.2,qJ ha];rfl) fun j hj p hp e=>?_
 rw[h.2]at hp
 cases hf:F[j]? with
 | none=>rw[hf]at hp;cases hp
 | some b=>
  rw[hf]at hp
  cases hp
  exact aik hj (by rw[hf,← e])
theorem iJ.new {m:List (K×Int)} {F:List K} (h:iJ m F) {a:K} (ha:a∉F):iJ (aput a (F.length:Int) m) (F++[a]):=by
 have hk:∀ p∈m,p.1≠a:=fun p hp e=>ha (by rw[← e];exact h.keys hp)
 rw[adC hk]
 refine ⟨by simp[h.1],fun i=>?_⟩
 by_cases hi:i < F.length
 ·rw[List.getElem?_append_left (by rw[h.1];exact hi),List.getElem?_append_left hi,h.2]
 ·rw[List.getElem?_append_right (by rw[h.1];omega),List.getElem?_append_right (by omega),h.1]
  by_cases hi2:i=F.length
  ·subst hi2;simp
  ·rw[List.getElem?_eq_none (by simp;omega),List.getElem?_eq_none (by simp;omega)];rfl
end Go.Val
namespace Go.Val
theorem tw {n:Nat} (h:n < 256):u8 (IntKind.u8.wrap (n:Int))=UInt8.ofNat n:=by
 have:IntKind.u8.wrap (n:Int)=(n:Int):=by simp[IntKind.wrap,IntKind.signed,IntKind.bits];omega
 rw[this];rfl
theorem atA {like:Vector UInt8 4352} {F:List (Vector UInt8 256)} {m:List (Vector UInt8 256×Int)} {k:Nat} {b:Vector UInt8 256} (hk:k < 4352) (hK:iJ m F) (hF:F.length≤256) (hb:b∈F):
  cq ⟨like,F⟩ (k:Int) b m=some (true,⟨vset like (k:Int) (UInt8.ofNat (pos F b)),F⟩,m):=by
 have hlt:=wL hb
 unfold cq
 rw[hK.some hb]
 simp only[Option.isSome_some,Bool.not_true,Bool.false_eq_true,if_false,Option.getD_some]
 unfold cq.k1
 rw[bm,List.getElem?_eq_getElem (by simpa using hk),Option.bind_some]
 have hw:=tw (n:=pos F b) (by omega)
 simp only[hw]
theorem aqC {like:Vector UInt8 4352} {F:List (Vector UInt8 256)} {m:List (Vector UInt8 256×Int)} {k:Nat} {b:Vector UInt8 256} (hk:k < 4352) (hK:iJ m F) (hF:F.length < 256) (hb:b∉F):
  cq ⟨like,F⟩ (k:Int) b m=some (true,⟨vset like (k:Int) (UInt8.ofNat F.length),F++[b]⟩,aput b (F.length:Int) m):=by
 unfold cq
 rw[hK.none hb]
 simp only[Option.isSome_none,Bool.not_false,if_true]
 rw[if_neg (by simp;omega),cy (by omega),Option.bind_some]
 unfold cq.k1
 rw[bm,List.getElem?_eq_getElem (by simpa using hk),Option.bind_some]
 have hw:=tw (n:=F.length) (by omega)
 simp only[hw]
theorem anv {like:Vector UInt8 4352} {F:List (Vector UInt8 256)} {m:List (Vector UInt8 256×Int)} {k:Nat} {b:Vector UInt8 256} (hK:iJ m F) (hF:256≤F.length) (hb:b∉F):
  cq ⟨like,F⟩ (k:Int) b m=some (false,⟨like,F⟩,m):=by
 unfold cq
 rw[hK.none hb]
 simp only[Option.isSome_none,Bool.not_false,if_true]
 rw[if_pos (by simp;omega)]
def blks (l:List cF) (k:Nat):List (Vector UInt8 256):=(List.range k).map (cE l)
theorem rv {l:List cF} {k:Nat}:blks l (k+1)=blks l k++[cE l k]:=by
 unfold blks;rw[List.range_succ,List.map_append];rfl
theorem tQ {l:List cF} {k:Nat}:∀ d,firsts (blks l k) <+: firsts (blks l (k+d))
 | 0=>List.prefix_refl _
 | d+1=>(tQ d).trans (by rw[← Nat.add_assoc,rv];exact ou)
theorem acK {l:List cF} {j k:Nat} (h:j < k):cE l j∈firsts (blks l k):=by
 rw[dR];unfold blks
 exact List.mem_map.2 ⟨j,List.mem_range.2 h,rfl⟩
def nd (l:List cF) (like:Vector UInt8 4352) (k:Nat):Prop:=∀ j,j < k→like.toList[j]? =some (UInt8.ofNat (pos (firsts (blks l k)) (cE l j)))
theorem xC {l:List cF} {like:Vector UInt8 4352} {k:Nat} (hk:k < 4352) (h:nd l like k):nd l (vset like (k:Int) (UInt8.ofNat (pos (firsts (blks l (k+1))) (cE l k)))) (k+1):=by
 intro j hj
 rw[vw]
 simp only[Int.toNat_natCast]
 by_cases e:j=k
 ·subst e;rw[List.getElem?_set_self (by simpa using hk)]
 ·rw[List.getElem?_set_ne (fun h=>e h.symm),h j (by omega),qD (tQ 1) (acK (by omega))]
theorem oD {N:Nat} (hN:N=4352) {l:List cF} (ho:∀ x∈l,OkP x) (hl:l.length≤4096):∀ (d k:Nat),k+d=N→∀ (like:Vector UInt8 4352) (m:List (Vector UInt8 256×Int)),iJ m (firsts (blks l k))→(firsts (blks l k)).length≤256→nd l like k→
  if (firsts (blks l N)).length≤256 then ∃ like',nd l like' N∧Loop (aI.b1 l) ((k:Int),like,firsts (blks l k),m)=some (some ⟨like',firsts (blks l N)⟩,0)
  else Loop (aI.b1 l) ((k:Int),like,firsts (blks l k),m)=some (none,3)
 | 0,k,h,like,m,hK,hF,hL=>by
  obtain rfl:k=N:=by omega
  rw[if_pos hF]
  refine ⟨like,hL,bK ?_⟩
  simp only[aI.b1]
  rw[if_neg (by simp;omega)];rfl
 | d+1,k,h,like,m,hK,hF,hL=>by
  have hk:k < 4352:=by omega
  have h0:aI.b1 l ((k:Int),like,firsts (blks l k),m)=aI.k3 (k:Int) like (firsts (blks l k)) m (cE l k):=by
   simp only[aI.b1]
   rw[if_pos (by simp;omega),← aaS k]
   exact ait hk ho hl l.length 0 (by omega)
  have hpre:firsts (blks l (k+1)) <+: firsts (blks l N):=by
   have:=tQ (l:=l) (k:=k+1) d
   rw[show k+1+d=N by omega]at this;exact this
  by_cases hb:cE l k∈firsts (blks l k)
  ·have e1:firsts (blks l (k+1))=firsts (blks l k):=by rw[rv,dN,addF,if_pos hb]
   have ih:=oD hN ho hl d (k+1) (by omega) (vset like (k:Int) (UInt8.ofNat (pos (firsts (blks l (k+1))) (cE l k)))) m (by rw[e1];exact hK) (by rw[e1];exact hF) (xC hk hL)
   have h1:Loop (aI.b1 l) ((k:Int),like,firsts (blks l k),m)=Loop (aI.b1 l) (((k+1:Nat):Int),(vset like (k:Int) (UInt8.ofNat (pos (firsts (blks l (k+1))) (cE l k)))),firsts (blks l (k+1)),m):=by
    refine bH ?_
    rw[h0]
    unfold aI.k3
    rw[atA hk hK hF hb,Option.bind_some]
    simp only[Bool.not_true,Bool.false_eq_true,if_false]
    unfold aI.k2
    rw[w64s (by omega),e1]
   rw[h1];exact ih
  ·have e1:firsts (blks l (k+1))=firsts (blks l k)++[cE l k]:=by rw[rv,dN,addF,if_neg hb]
   by_cases hf:(firsts (blks l k)).length < 256
   ·have e2:pos (firsts (blks l (k+1))) (cE l k)=(firsts (blks l k)).length:=by rw[e1,abz hb]
    have ih:=oD hN ho hl d (k+1) (by omega) (vset like (k:Int) (UInt8.ofNat (pos (firsts (blks l (k+1))) (cE l k)))) (aput (cE l k) ((firsts (blks l k)).length:Int) m) (by rw[e1];exact hK.new hb) (by rw[e1];simp;omega) (xC hk hL)
    have h1:Loop (aI.b1 l) ((k:Int),like,firsts (blks l k),m)=Loop (aI.b1 l) (((k+1:Nat):Int),(vset like (k:Int) (UInt8.ofNat (pos (firsts (blks l (k+1))) (cE l k)))),firsts (blks l (k+1)),(aput (cE l k) ((firsts (blks l k)).length:Int) m)):=by
     refine bH ?_
     rw[h0]
     unfold aI.k3
     rw[aqC hk hK hf hb,Option.bind_some]
     simp only[Bool.not_true,Bool.false_eq_true,if_false]
     unfold aI.k2
     rw[w64s (by omega),e2,e1]
    rw[h1];exact ih
   ·have hlen:256 < (firsts (blks l N)).length:=by
     have:=hpre.length_le
     rw[e1,List.length_append]at this
     simp at this;omega
    rw[if_neg (by omega)]
    refine cM ?_
    rw[h0]
    unfold aI.k3
    rw[anv hK (by omega) hb,Option.bind_some]
    rfl
theorem xi {l:List cF} {f:cF→Option Bool} {g:cF→Bool} (hf:∀ x∈l,f x=some (g x)) (hl:l.length < 9223372036854775807):bT l f=some (l.any g):=by
 have key:az l f=some (if l.any g then (l.findIdx g:Int)else -1):=by
  unfold az
  have hle:l.findIdx g≤l.length:=List.findIdx_le_length
  have hrun:=nf (b:=az.b1 l f) (i:=0) (n:=l.findIdx g) (Nat.zero_le _) (fun j _ hj=>by
   have hjl:j < l.length:=by omega
   simp only[az.b1]
   have hg:g l[j]=false:=by simpa using List.not_of_lt_findIdx hj
   rw[if_pos (by simpa using hjl),bm,List.getElem?_eq_getElem hjl,Option.bind_some,hf _ (List.getElem_mem hjl),Option.bind_some,hg]
   simp only[Bool.false_eq_true,if_false]
   rw[w64s (by omega)])
  simp only[Int.ofNat_zero,Int.natCast_zero]at hrun
  rw[hrun]
  by_cases ha:l.any g
  ·have hlt:l.findIdx g < l.length:=List.findIdx_lt_length.2 (by simpa using ha)
   rw[if_pos ha]
   refine cM ?_
   simp only[az.b1]
   have hg:g (l[l.findIdx g])=true:=List.findIdx_getElem
   rw[if_pos (by simpa using hlt),bm,List.getElem?_eq_getElem hlt,Option.bind_some,hf _ (List.getElem_mem hlt),Option.bind_some,hg]
   rfl
  ·have he:l.findIdx g=l.length:=List.findIdx_eq_length.2 (by simpa using ha)
   rw[if_neg ha,he]
   refine bK ?_
   simp only[az.b1]
   rw[if_neg (by simp)];rfl
 unfold bT
 rw[key,Option.bind_some]
 cases h:l.any g <;> simp
theorem anX {N:Nat} (hN:N=4352) {l:List cF} (ho:∀ x∈l,OkP x) (hl:l.length≤4096):
  if (firsts (blks l N)).length≤256 then ∃ like',nd l like' N∧aI l=some (some ⟨like',firsts (blks l N)⟩,0)else aI l=some (none,3):=by
 have h1:aI l=Loop (aI.b1 l) (((0:Nat):Int),(Vector.replicate 4352 (0:UInt8)),firsts (blks l 0),[]):=by
  unfold aI
  have hc:=xi (l:=l) (f:=fV) (g:=fun _=>false) (fun x hx=>by
   obtain ⟨a,b,c⟩:=ho x hx
   unfold fV
   simp;omega) (by omega)
  rw[if_neg (by simp;omega),hc,Option.bind_some]
  have:l.any (fun _=>false)=false:=by simp
  rw[this];rfl
 rw[h1]
 exact oD hN ho hl N 0 (by omega) _ [] qM (by simp[blks,firsts]) (fun j hj=>by omega)
theorem vz {N:Nat} (hN:N=4352) {l:List cF} {like:Vector UInt8 4352} (hL:nd l like N) (hF:(firsts (blks l N)).length≤256) {r:Int} (h0:0≤r) (h1:r≤1114111):fm ⟨like,firsts (blks l N)⟩ r=some (valN l r):=by
 obtain ⟨n,rfl⟩:∃ n:Nat,r=(n:Int):=⟨r.toNat,by omega⟩
 have hd:n/256 < N:=by omega
 have hm:n%256 < 256:=by omega
 unfold fm
 rw[if_neg (by simp;omega)]
 have e1:IntKind.i64.wrap (Int.tdiv (n:Int) 256)=((n/256:Nat):Int):=by
  rw[Int.tdiv_eq_ediv_of_nonneg (by omega),w64 (by omega) (by omega)];omega
 have e2:Int.tmod (n:Int) 256=((n%256:Nat):Int):=by
  rw[Int.tmod_eq_emod_of_nonneg (by omega)];omega
 rw[e1,e2,bm,hL _ hd,Option.bind_some]
 have hmem:=acK (l:=l) hd
 have hlt:=wL hmem
 have e3:(UInt8.ofNat (pos (firsts (blks l N)) (cE l (n/256)))).toNat=pos (firsts (blks l N)) (cE l (n/256)):=by
  rw[UInt8.toNat_ofNat'];exact Nat.mod_eq_of_lt (by omega)
 have hg:(firsts (blks l N))[pos (firsts (blks l N)) (cE l (n/256))]? =some (cE l (n/256)):=qJ hmem
 rw[e3,bm,hg,Option.bind_some,bm,kJ l _ _ hm,Option.bind_some]
 congr 2
 omega
end Go.Val
namespace Go.Val
theorem xb {zs:List Int} {m:Nat} (h:m < zs.length):zs.toArray[m]! =zs[m]:=by
 rw[getElem!_pos zs.toArray m (by simpa using h)];simp
theorem pn {zs:List Int} (hs:zs.Pairwise (· ≤ ·)):∀ m,m≤zs.length→(Go.Lib.compactUpTo zs.toArray m).Pairwise (· < ·)∧(∀ x,x∈Go.Lib.compactUpTo zs.toArray m↔x∈zs.take m)∧(Go.Lib.compactUpTo zs.toArray m).length≤m
 | 0,_=>by simp[Go.Lib.compactUpTo]
 | m+1,h=>by
  obtain ⟨ih1,ih2,ih3⟩:=pn hs m (by omega)
  have hm:m < zs.length:=by omega
  have hle:∀ x∈zs.take m,x≤zs[m]:=by
   intro x hx
   obtain ⟨j,hj,rfl⟩:=List.getElem_of_mem hx
   rw[List.getElem_take]
   have:j < m:=by simp at hj;omega
   exact (List.pairwise_iff_getElem.1 hs) j m (by omega) hm this
  rw[Go.Lib.compactUpTo_succ,xb hm,gQ hm]
  by_cases hk:Go.Lib.keeps zs.toArray m=true
  ·rw[if_pos hk]
   refine ⟨?_,fun x=>by rw[List.mem_append,List.mem_append,ih2],by simp;omega⟩
   rw[List.pairwise_append]
   refine ⟨ih1,List.pairwise_singleton _ _,fun x hx y hy=>?_⟩
   simp at hy;subst hy
   have h1:=hle x ((ih2 x).1 hx)
   rcases Int.lt_or_eq_of_le h1 with h2 | h2
   ·exact h2
   ·exfalso
    simp only[Go.Lib.keeps,decide_eq_true_eq]at hk
    rcases hk with hk | hk
    ·subst hk;simp at ih2;exact absurd hx (ih2 x)
    ·have h0:0 < m:=by
      rcases Nat.eq_zero_or_pos m with h0 | h0
      ·subst h0;exact absurd ((ih2 x).1 hx) (by simp)
      ·exact h0
     rw[xb hm,xb (by omega)]at hk
     have hx2:=(ih2 x).1 hx
     obtain ⟨j,hj,rfl⟩:=List.getElem_of_mem hx2
     rw[List.getElem_take]at h2
     have hj2:j < m:=by simp at hj;omega
     have hj3:zs[j]'(by omega)≤zs[m - 1]'(by omega):=by
      rcases Nat.lt_or_ge j (m - 1)with q | q
      ·exact (List.pairwise_iff_getElem.1 hs) j (m - 1) (by omega) (by omega) q
      ·have:j=m - 1:=by omega
       subst this;exact Int.le_refl _
     have hj4:zs[m - 1]'(by omega)≤zs[m]:=(List.pairwise_iff_getElem.1 hs) (m - 1) m (by omega) hm (by omega)
     exact hk (by omega)
  ·rw[if_neg hk,List.append_nil]
   refine ⟨ih1,fun x=>?_,by omega⟩
   rw[ih2,List.mem_append]
   refine ⟨.inl,fun h=>h.elim id fun h=>?_⟩
   simp at h;subst h
   simp only[Go.Lib.keeps,decide_eq_true_eq,not_or,ne_eq,Classical.not_not]at hk
   rw[xb hm,xb (by omega)]at hk
   rw[hk.2]
   exact List.mem_take_iff_getElem.2 ⟨m - 1,by omega,rfl⟩
theorem lC {zs:List Int} (hs:zs.Pairwise (· ≤ ·)):(Go.Lib.compact zs).Pairwise (· < ·)∧(∀ x,x∈Go.Lib.compact zs↔x∈zs)∧(Go.Lib.compact zs).length≤zs.length:=by
 have:=pn hs zs.length (Nat.le_refl _)
 rw[List.take_length]at this;exact this
theorem kH:∀ {l m:List Int},l.Pairwise (· < ·)→m.Pairwise (· < ·)→(∀ x,x∈l↔x∈m)→l=m
 | [],[],_,_,_=>rfl
 | [],b::m,_,_,h=>absurd ((h b).2 (by simp)) (by simp)
 | a::l,[],_,_,h=>absurd ((h a).1 (by simp)) (by simp)
 | a::l,b::m,h1,h2,h=>by
  rw[List.pairwise_cons]at h1 h2
  have hab:a=b:=by
   have ha:=(h a).1 (by simp)
   have hb:=(h b).2 (by simp)
   rcases List.mem_cons.1 ha with e | ha
   ·exact e
   ·rcases List.mem_cons.1 hb with e | hb
    ·exact e.symm
    ·have:=h1.1 b hb;have:=h2.1 a ha;omega
  subst hab
  rw[kH h1.2 h2.2 fun x=>?_]
  have:=h x
  simp only[List.mem_cons]at this
  constructor
  ·intro hx
   have:=h1.1 x hx
   exact (this |> fun _=>(‹x=a∨x∈l↔x=a∨x∈m›.1 (.inr hx))).elim (fun e=>by omega) id
  ·intro hx
   have:=h2.1 x hx
   exact (this |> fun _=>(‹x=a∨x∈l↔x=a∨x∈m›.2 (.inr hx))).elim (fun e=>by omega) id
theorem jF {S:List (List ak)} {i:Nat} (h:i < S.length):(S.take (i+1)).flatten=(S.take i).flatten++S[i]:=by
 rw[gQ h,List.flatten_append];simp
theorem pT {S:List (List ak)} (i:Nat):(S.take i).flatten.length≤S.flatten.length:=by
 have:S.flatten=(S.take i).flatten++(S.drop i).flatten:=by rw[← List.flatten_append,List.take_append_drop]
 rw[this,List.length_append];omega
theorem adm {S:List (List ak)} {i:Nat} (h:i < S.length):(S.take i).flatten.length+S[i].length≤S.flatten.length:=by
 have:=pT (S:=S) (i+1)
 rw[jF h,List.length_append]at this;exact this
theorem pE {S:List (List ak)} {i:Nat} (h:i < S.length) {x:ak} (hx:x∈S[i]):x∈S.flatten:=List.mem_flatten.2 ⟨S[i],List.getElem_mem h,hx⟩
theorem uC {S:List (List ak)} (hok:∀ x∈S.flatten,Ok x) (hl:S.flatten.length≤1000000) {i:Nat} (hi:i < S.length):∀ (d k:Nat),k+d=S[i].length→∀ out:List Int,(∀ e,e∈out↔Edge ((S.take i).flatten++S[i].take k) e)→out.length≤2*((S.take i).flatten.length+k)+1→
  ∃ out',Loop (aJ.b2 (i:Int) S[i]) (out,(k:Int))=aJ.k2 (i:Int) out'∧(∀ e,e∈out'↔Edge ((S.take (i+1)).flatten) e)∧out'.length≤2*(S.take (i+1)).flatten.length+1
 | 0,k,h,out,hm,ho=>by
  obtain rfl:k=S[i].length:=by omega
  refine ⟨out,bK ?_,fun e=>by rw[hm,jF hi,List.take_length],by rw[jF hi,List.length_append];exact ho⟩
  simp only[aJ.b2]
  rw[if_neg (by simp)]
 | d+1,k,h,out,hm,ho=>by
  have hk:k < S[i].length:=by omega
  have hel:=adm hi
  obtain ⟨a,b,c⟩:=hok _ (pE hi (List.getElem_mem hk))
  have htk:S[i].take (k+1)=S[i].take k++[S[i][k]]:=gQ hk
  by_cases hh:S[i][k].High < 1114111
  ·obtain ⟨out',h1,h2,h3⟩:=uC hok hl hi d (k+1) (by omega) (out++[S[i][k].Low]++[S[i][k].High+1]) (fun e=>by
    rw[htk,← List.append_assoc,jx,← hm]
    simp only[List.mem_append,List.mem_singleton]
    constructor
    ·rintro ((h | h) | h)
     ·exact .inl (.inl h)
     ·exact .inl (.inr h)
     ·exact .inr ⟨hh,h⟩
    ·rintro ((h | h) | h)
     ·exact .inl (.inl h)
     ·exact .inl (.inr h)
     ·exact .inr h.2) (by simp only[List.length_append,List.length_singleton];omega)
   refine ⟨out',?_,h2,h3⟩
   rw[← h1]
   refine bH ?_
   simp only[aJ.b2]
   rw[if_pos (by simpa using hk),bm,List.getElem?_eq_getElem hk,Option.bind_some,cy (by omega),Option.bind_some,if_pos (decide_eq_true hh),cy (by omega),Option.bind_some,w64 (n:=S[i][k].High+1) (by omega) (by omega)]
   unfold aJ.k3
   rw[w64s (by omega)]
  ·obtain ⟨out',h1,h2,h3⟩:=uC hok hl hi d (k+1) (by omega) (out++[S[i][k].Low]) (fun e=>by
    rw[htk,← List.append_assoc,jx,← hm]
    simp only[List.mem_append,List.mem_singleton]
    constructor
    ·rintro (h | h)
     ·exact .inl (.inl h)
     ·exact .inl (.inr h)
    ·rintro ((h | h) | h)
     ·exact .inl h
     ·exact .inr h
     ·exact absurd h.1 hh) (by simp only[List.length_append,List.length_singleton];omega)
   refine ⟨out',?_,h2,h3⟩
   rw[← h1]
   refine bH ?_
   simp only[aJ.b2]
   rw[if_pos (by simpa using hk),bm,List.getElem?_eq_getElem hk,Option.bind_some,cy (by omega),Option.bind_some,if_neg (by simpa using hh)]
   unfold aJ.k3
   rw[w64s (by omega)]
theorem acY {S:List (List ak)} (hok:∀ x∈S.flatten,Ok x) (hl:S.flatten.length≤1000000) (hs:S.length≤1000000):∀ (d i:Nat),i+d=S.length→∀ out:List Int,(∀ e,e∈out↔Edge ((S.take i).flatten) e)→out.length≤2*(S.take i).flatten.length+1→
  ∃ out',Loop (aJ.b1 S) (out,(i:Int))=aJ.k1 out'∧(∀ e,e∈out'↔Edge S.flatten e)∧out'.length≤2*S.flatten.length+1
 | 0,i,h,out,hm,ho=>by
  obtain rfl:i=S.length:=by omega
  rw[List.take_length]at hm ho
  refine ⟨out,bK ?_,hm,ho⟩
  simp only[aJ.b1]
  rw[if_neg (by simp)]
 | d+1,i,h,out,hm,ho=>by
  have hi:i < S.length:=by omega
  obtain ⟨o1,h1,h2,h3⟩:=uC hok hl hi S[i].length 0 (by omega) out (fun e=>by rw[hm];simp) (by omega)
  obtain ⟨o2,q1,q2,q3⟩:=acY hok hl hs d (i+1) (by omega) o1 h2 h3
  refine ⟨o2,?_,q2,q3⟩
  rw[← q1]
  refine bH ?_
  simp only[aJ.b1]
  rw[if_pos (by simpa using hi),bm,List.getElem?_eq_getElem hi,Option.bind_some]
  refine h1.trans ?_
  unfold aJ.k2
  rw[w64s (by omega)]
theorem ao9 {S:List (List ak)} (hok:∀ x∈S.flatten,Ok x) (hl:S.flatten.length≤1000000) (hs:S.length≤1000000):∃ E,aJ S=some E∧E.Pairwise (· < ·)∧(∀ e,e∈E↔Edge S.flatten e)∧E.length≤2*S.flatten.length+1:=by
 obtain ⟨o,h1,h2,h3⟩:=acY hok hl hs S.length 0 (by omega) [0] (fun e=>by simp[Edge]) (by simp)
 have hp:(o.mergeSort fun x y=>decide (x≤y)).Perm o:=List.mergeSort_perm _ _
 have hsort:(o.mergeSort fun x y=>decide (x≤y)).Pairwise (· ≤ ·):=by
  have:=List.pairwise_mergeSort (le:=fun x y:Int=>decide (x≤y)) (by intro a b c;simp;omega) (by intro a b;simp;omega) o
  exact this.imp (by simp)
 obtain ⟨c1,c2,c3⟩:=lC hsort
 have hlen:=hp.length_eq
 refine ⟨Go.Lib.compact (o.mergeSort fun x y=>decide (x≤y)),?_,c1,fun e=>by rw[c2,hp.mem_iff,h2],by omega⟩
 refine h1.trans ?_
 unfold aJ.k1 rK
 rw[if_pos (by unfold dn;omega),Option.bind_some]
 unfold cp
 rw[if_pos (by unfold dn;omega)];rfl
end Go.Val
namespace Go.Val
theorem tp:cT=bU:=rfl
theorem qh {S:List (List ak)} (hok:∀ x∈S.flatten,Ok x) (hl:S.flatten.length≤1000000) {i:Nat} (hi:i < S.length):∀ (d k:Nat),k+d=S[i].length→∀ out:List Int,out.Pairwise (· < ·)→(∀ e,e∈out↔Edge ((S.take i).flatten++S[i].take k) e)→out.length≤2*((S.take i).flatten.length+k)+1→
  ∃ out',Loop (aR.b2 S (i:Int)) (out,(k:Int))=aR.k2 (i:Int) out'∧out'.Pairwise (· < ·)∧(∀ e,e∈out'↔Edge ((S.take (i+1)).flatten) e)∧out'.length≤2*(S.take (i+1)).flatten.length+1
 | 0,k,h,out,hp,hm,ho=>by
  obtain rfl:k=S[i].length:=by omega
  refine ⟨out,bK ?_,hp,fun e=>by rw[hm,jF hi,List.take_length],by rw[jF hi,List.length_append];exact ho⟩
  simp only[aR.b2]
  rw[bm,List.getElem?_eq_getElem hi,Option.bind_some,if_neg (by simp)]
 | d+1,k,h,out,hp,hm,ho=>by
  have hk:k < S[i].length:=by omega
  have hel:=adm hi
  obtain ⟨a,b,c⟩:=hok _ (pE hi (List.getElem_mem hk))
  have htk:S[i].take (k+1)=S[i].take k++[S[i][k]]:=gQ hk
  obtain ⟨r,r1,r2,r3,r4⟩:=jY (n:=S[i][k].Low) hp (by omega)
  by_cases hh:S[i][k].High < 1114111
  ·obtain ⟨q,q1,q2,q3,q4⟩:=jY (n:=S[i][k].High+1) r2 (by omega)
   obtain ⟨out',h1,h2,h3,h4⟩:=qh hok hl hi d (k+1) (by omega) q q2 (fun e=>by
    rw[htk,← List.append_assoc,jx,← hm,q3,r3]
    constructor
    ·rintro (h | h)
     ·exact .inl h
     ·exact .inr ⟨hh,h⟩
    ·rintro (h | h)
     ·exact .inl h
     ·exact .inr h.2) (by omega)
   refine ⟨out',?_,h2,h3,h4⟩
   rw[← h1]
   refine bH ?_
   simp only[aR.b2]
   rw[bm,List.getElem?_eq_getElem hi,Option.bind_some,if_pos (by simpa using hk),bm,List.getElem?_eq_getElem hk,Option.bind_some,tp,r1,Option.bind_some,if_pos (decide_eq_true hh),w64 (n:=S[i][k].High+1) (by omega) (by omega),q1,Option.bind_some]
   unfold aR.k3
   rw[w64s (by omega)]
  ·obtain ⟨out',h1,h2,h3,h4⟩:=qh hok hl hi d (k+1) (by omega) r r2 (fun e=>by
    rw[htk,← List.append_assoc,jx,← hm,r3]
    constructor
    ·exact .inl
    ·rintro (h | h)
     ·exact h
     ·exact absurd h.1 hh) (by omega)
   refine ⟨out',?_,h2,h3,h4⟩
   rw[← h1]
   refine bH ?_
   simp only[aR.b2]
   rw[bm,List.getElem?_eq_getElem hi,Option.bind_some,if_pos (by simpa using hk),bm,List.getElem?_eq_getElem hk,Option.bind_some,tp,r1,Option.bind_some,if_neg (by simpa using hh)]
   unfold aR.k3
   rw[w64s (by omega)]
theorem vh {S:List (List ak)} (hok:∀ x∈S.flatten,Ok x) (hl:S.flatten.length≤1000000) (hs:S.length≤1000000):∀ (d i:Nat),i+d=S.length→∀ out:List Int,out.Pairwise (· < ·)→(∀ e,e∈out↔Edge ((S.take i).flatten) e)→out.length≤2*(S.take i).flatten.length+1→
  ∃ out',Loop (aR.b1 S) (out,(i:Int))=some out'∧out'.Pairwise (· < ·)∧(∀ e,e∈out'↔Edge S.flatten e)
 | 0,i,h,out,hp,hm,ho=>by
  obtain rfl:i=S.length:=by omega
  rw[List.take_length]at hm
  refine ⟨out,bK (R:=some out) ?_,hp,hm⟩
  simp only[aR.b1]
  rw[if_neg (by simp)];rfl
 | d+1,i,h,out,hp,hm,ho=>by
  have hi:i < S.length:=by omega
  obtain ⟨o1,h1,h2,h3,h4⟩:=qh hok hl hi S[i].length 0 (by omega) out hp (fun e=>by rw[hm];simp) (by omega)
  obtain ⟨o2,q1,q2,q3⟩:=vh hok hl hs d (i+1) (by omega) o1 h2 h3 h4
  refine ⟨o2,?_,q2,q3⟩
  rw[← q1]
  refine bH ?_
  simp only[aR.b1]
  rw[if_pos (by simpa using hi)]
  refine h1.trans ?_
  unfold aR.k2
  rw[w64s (by omega)]
theorem af4 {S:List (List ak)} (hok:∀ x∈S.flatten,Ok x) (hl:S.flatten.length≤1000000) (hs:S.length≤1000000):∃ E,aJ S=some E∧aR S=some E∧E.Pairwise (· < ·)∧(∀ e,e∈E↔Edge S.flatten e)∧E.length≤2*S.flatten.length+1:=by
 obtain ⟨E,h1,h2,h3,h4⟩:=ao9 hok hl hs
 obtain ⟨D,q1,q2,q3⟩:=vh hok hl hs S.length 0 (by omega) [0] (List.pairwise_singleton _ _) (fun e=>by simp[Edge]) (by simp)
 have:D=E:=kH q2 h2 fun x=>by rw[q3,h3]
 subst this
 exact ⟨D,h1,q1,h2,h3,h4⟩
end Go.Val
namespace Go.Val
def addR {α K:Type} [DecidableEq K] (f:α→K) (L:List α) (a:α):List α:=if f a∈L.map f then L else L++[a]
def reps {α K:Type} [DecidableEq K] (f:α→K) (l:List α):List α:=l.foldl (addR f) []
theorem qx {α K:Type} [DecidableEq K] {f:α→K} {l:List α} {a:α}:reps f (l++[a])=addR f (reps f l) a:=by
 unfold reps;rw[List.foldl_append];rfl
theorem pL {α K:Type} [DecidableEq K] {f:α→K} {l:List α}:(reps f l).map f=firsts (l.map f):=by
 induction l using lR with
 | h0=>rfl
 | h1 l x ih=>
  rw[qx,List.map_append,List.map_singleton,dN,← ih]
  unfold addR addF
  split <;> simp
theorem adL {α K:Type} [DecidableEq K] {f:α→K} {l:List α}:(reps f l).length=(firsts (l.map f)).length:=by rw[← pL,List.length_map]
theorem ahB {K:Type} [DecidableEq K] {l:List K}:(firsts l).length≤l.length:=by
 induction l using lR with
 | h0=>simp[firsts]
 | h1 l x ih=>
  rw[dN]
  unfold addF
  split
  ·simp;omega
  ·simp;omega
def mkI (S:List (List ak)) (r:Int):Int:=((lZ S r S.length:Nat):Int)
def pieces (f:Int→Int) (E:List Int) (k:Nat):List cF:=(List.range k).map fun i=>⟨bnd E i,bnd E (i+1) - 1,UInt8.ofNat (pos (firsts (E.map f)) (f (bnd E i)))⟩
theorem ri {f:Int→Int} {E:List Int} {k:Nat}:pieces f E (k+1)=pieces f E k++[⟨bnd E k,bnd E (k+1) - 1,UInt8.ofNat (pos (firsts (E.map f)) (f (bnd E k)))⟩]:=by
 unfold pieces;rw[List.range_succ,List.map_append];rfl
theorem sU {f:Int→Int} {E:List Int} {k:Nat}:(pieces f E k).length=k:=by simp[pieces]
theorem xh {f:Int→Int} {E:List Int} (k:Nat):firsts ((E.take k).map f) <+: firsts (E.map f):=by
 have:E.map f=(E.take k).map f++(E.drop k).map f:=by rw[← List.map_append,List.take_append_drop]
 rw[this];exact ou
variable {S:List (List ak)} {E:List Int}
theorem apt {k c:Nat} {L M:List Int} {m:List (Int×Int)} (hk:k < E.length) (hb:∀ e∈E,0≤e∧e≤1114111) (hE:E.length≤4096) (hm:m.length≤200) (hc:c < 256) (hp:c=pos (firsts (E.map (mkI S))) (mkI S (bnd E k))):
  aA.k3 E (pieces (mkI S) E k) (k:Int) E[k] (c:Int) M L m=some (.next (pieces (mkI S) E (k+1),((k+1:Nat):Int),M,L,m)):=by
 unfold aA.k3
 rw[if_neg (by simp;omega),w64s (by omega)]
 have h4:∀ h:Int,h=bnd E (k+1) - 1→aA.k4 (pieces (mkI S) E k) (k:Int) E[k] (c:Int) M L m h=some (.next (pieces (mkI S) E (k+1),((k+1:Nat):Int),M,L,m)):=by
  intro h e
  unfold aA.k4
  rw[cy (by rw[sU];omega),Option.bind_some,w64s (by omega),tw hc,ri,← hp,fT hk,e]
 by_cases h1:k+1 < E.length
 ·have hx:=hb _ (List.getElem_mem h1)
  rw[if_pos (decide_eq_true (by omega)),bm,List.getElem?_eq_getElem h1,Option.bind_some]
  exact h4 _ (by rw[fT h1,w64 (by omega) (by omega)])
 ·rw[if_neg (by simp;omega)]
  have e:k+1=E.length:=by omega
  exact h4 _ (by rw[e,mO];rfl)
theorem tU (hn:∀ s∈S,Norm s) (hS:S.length≤60) (hb:∀ e∈E,0≤e∧e≤1114111) (hE:E.length≤4096):∀ (d k:Nat),k+d=E.length→∀ m:List (Int×Int),iJ m (firsts ((E.take k).map (mkI S)))→(firsts ((E.take k).map (mkI S))).length≤200→
  Loop (aA.b1 S E) (pieces (mkI S) E k,(k:Int),firsts ((E.take k).map (mkI S)),reps (mkI S) (E.take k),m)=if (firsts (E.map (mkI S))).length≤200 then aA.k2 (pieces (mkI S) E E.length) (firsts (E.map (mkI S))) (reps (mkI S) E)else some (none,3)
 | 0,k,h,m,hK,hF=>by
  obtain rfl:k=E.length:=by omega
  rw[List.take_length]at hF ⊢
  rw[if_pos hF]
  refine bK ?_
  simp only[aA.b1]
  rw[if_neg (by simp)]
 | d+1,k,h,m,hK,hF=>by
  have hk:k < E.length:=by omega
  have hmask:bG S E[k]=some (mkI S E[k]):=aqQ hn hS E[k]
  have htk:(E.take (k+1)).map (mkI S)=(E.take k).map (mkI S)++[mkI S E[k]]:=by rw[gQ hk,List.map_append];rfl
  have hr:reps (mkI S) (E.take (k+1))=addR (mkI S) (reps (mkI S) (E.take k)) E[k]:=by rw[gQ hk,qx]
  have hpre:=xh (f:=mkI S) (E:=E) (k+1)
  have hmem:mkI S E[k]∈firsts ((E.take (k+1)).map (mkI S)):=by rw[dR,htk];simp
  have hrl:=adL (f:=mkI S) (l:=E.take k)
  by_cases hin:mkI S E[k]∈firsts ((E.take k).map (mkI S))
  ·have e1:firsts ((E.take (k+1)).map (mkI S))=firsts ((E.take k).map (mkI S)):=by rw[htk,dN,addF,if_pos hin]
   have e2:reps (mkI S) (E.take (k+1))=reps (mkI S) (E.take k):=by rw[hr,addR,pL,if_pos hin]
   have ih:=tU hn hS hb hE d (k+1) (by omega) m (by rw[e1];exact hK) (by rw[e1];exact hF)
   rw[← ih,e1,e2]
   refine bH ?_
   simp only[aA.b1]
   rw[if_pos (by simpa using hk),bm,List.getElem?_eq_getElem hk,Option.bind_some,hmask,Option.bind_some,hK.some hin]
   simp only[Option.isSome_some,Bool.not_true,Bool.false_eq_true,if_false,Option.getD_some]
   have hlt:=wL hin
   refine apt hk hb hE (by rw[hK.1];exact hF) (by omega) ?_
   rw[fT hk,qD hpre hmem,e1]
  ·have e1:firsts ((E.take (k+1)).map (mkI S))=firsts ((E.take k).map (mkI S))++[mkI S E[k]]:=by rw[htk,dN,addF,if_neg hin]
   have e2:reps (mkI S) (E.take (k+1))=reps (mkI S) (E.take k)++[E[k]]:=by rw[hr,addR,pL,if_neg hin]
   have hK2:=hK.new hin
   have hstep:aA.b1 S E (pieces (mkI S) E k,(k:Int),firsts ((E.take k).map (mkI S)),reps (mkI S) (E.take k),m)=aA.k3 E (pieces (mkI S) E k) (k:Int) E[k] ((firsts ((E.take k).map (mkI S))).length:Int) (firsts ((E.take k).map (mkI S))++[mkI S E[k]]) (reps (mkI S) (E.take k)++[E[k]]) (aput (mkI S E[k]) ((firsts ((E.take k).map (mkI S))).length:Int) m):=by
    simp only[aA.b1]
    rw[if_pos (by simpa using hk),bm,List.getElem?_eq_getElem hk,Option.bind_some,hmask,Option.bind_some,hK.none hin]
    simp only[Option.isSome_none,Bool.not_false,if_true]
    rw[cy (by omega),Option.bind_some,cy (by omega),Option.bind_some,hK.1]
   by_cases hf:(firsts ((E.take k).map (mkI S))).length < 200
   ·have ih:=tU hn hS hb hE d (k+1) (by omega) _ (by rw[e1];exact hK2) (by rw[e1,List.length_append,List.length_singleton];omega)
    rw[← ih,e1,e2]
    refine bH (hstep.trans (apt hk hb hE (by rw[hK2.1,List.length_append,List.length_singleton];omega) (by omega) ?_))
    rw[fT hk,qD hpre hmem,e1,abz hin]
   ·have hlen:=hpre.length_le
    rw[e1,List.length_append,List.length_singleton]at hlen
    rw[if_neg (by omega)]
    refine cM (hstep.trans ?_)
    unfold aA.k3
    rw[if_pos (decide_eq_true (by rw[hK2.1,List.length_append,List.length_singleton];omega))]
end Go.Val
namespace Go.Val
variable {S:List (List ak)} {E:List Int}
theorem un (hp:E.Pairwise (· < ·)) (hE:∀ e∈E,e≤1114111):∀ (d i:Nat),i+d≤E.length→bnd E i≤bnd E (i+d)
 | 0,i,h=>Int.le_refl _
 | d+1,i,h=>by
  have h1:=un hp hE d i (by omega)
  have h2:=ajS hp hE (k:=i+d) (by omega)
  rw[← fT (by omega)]at h2
  rw[← Nat.add_assoc];omega
theorem aoC (hp:E.Pairwise (· < ·)) (hE:∀ e∈E,0≤e∧e≤1114111) (h0:(0:Int)∈E) {r:Int} (hr:0≤r) (hr2:r≤1114111):∃ k,k < E.length∧bnd E k≤r∧r < bnd E (k+1):=by
 have hpos:0 < E.length:=List.length_pos_of_mem h0
 have hz:bnd E 0=0:=by
  rw[fT hpos]
  obtain ⟨j,hj,e⟩:=List.getElem_of_mem h0
  have h1:=hE _ (List.getElem_mem hpos)
  rcases Nat.eq_zero_or_pos j with q | q
  ·subst q;exact e
  ·have:=(List.pairwise_iff_getElem.1 hp) 0 j hpos hj q
   omega
 have key:∀ n,n≤E.length→(∃ k,k < n∧bnd E k≤r∧r < bnd E (k+1))∨bnd E n≤r:=by
  intro n
  induction n with
  | zero=>exact fun _=>.inr (by omega)
  | succ n ih=>
   intro hn
   rcases ih (by omega)with ⟨k,h1,h2⟩ | h
   ·exact .inl ⟨k,by omega,h2⟩
   ·by_cases hc:bnd E (n+1)≤r
    ·exact .inr hc
    ·exact .inl ⟨n,by omega,h,by omega⟩
 rcases key E.length (Nat.le_refl _)with h | h
 ·exact h
 ·rw[mO]at h;omega
theorem tr {f:Int→Int} (hp:E.Pairwise (· < ·)) (hE:∀ e∈E,0≤e∧e≤1114111) {k:Nat} (hk:k < E.length) {r:Int} (h1:bnd E k≤r) (h2:r < bnd E (k+1)):∀ j,j≤E.length→valN (pieces f E j) r=if k < j then UInt8.ofNat (pos (firsts (E.map f)) (f (bnd E k)))else 0
 | 0,_=>by rw[if_neg (by omega)];rfl
 | j+1,hj=>by
  rw[ri,rH,tr hp hE hk h1 h2 j (by omega)]
  have hm:=fun d i=>un hp (fun e he=>(hE e he).2) d i
  by_cases e:j=k
  ·subst e
   rw[if_pos ⟨h1,by show r≤bnd E (j+1) - 1;omega⟩,if_pos (by omega)]
  ·rw[if_neg]
   ·by_cases hlt:k < j
    ·rw[if_pos hlt,if_pos (by omega)]
    ·rw[if_neg hlt,if_neg (by omega)]
   ·show ¬ (bnd E j≤r∧r≤bnd E (j+1) - 1)
    rintro ⟨a,b⟩
    rcases Nat.lt_or_ge j k with q | q
    ·have:=hm (k - (j+1)) (j+1) (by omega)
     rw[show j+1+(k - (j+1))=k by omega]at this;omega
    ·have:=hm (j - (k+1)) (k+1) (by omega)
     rw[show k+1+(j - (k+1))=j by omega]at this;omega
theorem ah9 {f:Int→Int} (hp:E.Pairwise (· < ·)) (hE:∀ e∈E,0≤e∧e≤1114111):∀ x∈pieces f E E.length,OkP x:=by
 intro x hx
 unfold pieces at hx
 obtain ⟨i,hi,rfl⟩:=List.mem_map.1 hx
 have hi2:i < E.length:=List.mem_range.1 hi
 have h1:=ajS hp (fun e he=>(hE e he).2) hi2
 have h2:=hE _ (List.getElem_mem hi2)
 unfold OkP
 simp only
 rw[← fT hi2]at h1 h2
 refine ⟨h2.1,by omega,?_⟩
 by_cases h3:i+1 < E.length
 ·have:=hE _ (List.getElem_mem h3)
  rw[fT h3];omega
 ·rw[show i+1=E.length by omega,mO];omega
end Go.Val
namespace Go.Val
theorem aje {P:Nat→Prop} {n:Nat} (h:∃ j,j < n∧¬ P j):∃ j,j < n∧¬ P j∧∀ i,i < j→P i:=by
 obtain ⟨j,hj⟩:=h
 induction j using Nat.strongRecOn with
 | _ j ih=>
  by_cases hc:∃ i,i < j∧¬ P i
  ·obtain ⟨i,hi,hP⟩:=hc
   exact ih i hi ⟨by omega,hP⟩
  ·exact ⟨j,hj.1,hj.2,fun i hi=>Classical.byContradiction fun hP=>hc ⟨i,hi,hP⟩⟩
theorem oI:aU=cb:=rfl
theorem akk {l:List ak} (hl:l.length≤1000000):∃ out e,cm l=some (out,e)∧bw l=some (out,e)∧Norm out∧out.length≤l.length∧(e=0→∀ t,In out t↔In l t)∧(e≠0→e=1∧out=[]∧¬ ∀ x∈l,Ok x):=by
 by_cases hok:∀ x∈l,Ok x
 ·obtain ⟨o,h1,h2,h3,h4⟩:=aja hok (by omega)
  obtain ⟨p,q1,q2,q3⟩:=aeB hok (by omega)
  have e:p=o:=Norm.unique q2 h2 fun r=>by rw[q3,h3]
  subst e
  exact ⟨p,0,h1,q1,h2,h4,fun _=>h3,fun h=>absurd rfl h⟩
 ·exact ⟨[],1,adu hok (by omega),zf hok (by omega),lJ,by simp,fun h=>by simp at h,fun _=>⟨rfl,rfl,hok⟩⟩
theorem wv {l out:List ak} {e:Int} (h:Norm l) (ho:Norm out) (h0:e=0→∀ t,In out t↔In l t) (h1:e≠0→e=1∧out=[]∧¬ ∀ x∈l,Ok x):e=0∧out=l:=by
 by_cases he:e=0
 ·exact ⟨he,Norm.unique ho h (h0 he)⟩
 ·exact absurd h.1 (h1 he).2.2
structure Good (S:List (List ak)):Prop where
 norm:∀ s∈S,Norm s
 few:S.length≤60
 small:S.flatten.length≤1200
theorem Good.ok {S:List (List ak)} (h:Good S):∀ x∈S.flatten,Ok x:=by
 intro x hx
 obtain ⟨s,hs,hx⟩:=List.mem_flatten.1 hx
 exact (h.norm s hs).1 x hx
noncomputable def edg (S:List (List ak)):List Int:=(aJ S).getD []
theorem ec {S:List (List ak)} (h:Good S):aJ S=some (edg S)∧aR S=some (edg S)∧(edg S).Pairwise (· < ·)∧(∀ e,e∈edg S↔Edge S.flatten e)∧(edg S).length≤2*S.flatten.length+1:=by
 obtain ⟨E,h1,h2,h3,h4,h5⟩:=af4 h.ok (by have:=h.small;omega) (by have:=h.few;omega)
 have:edg S=E:=by unfold edg;rw[h1];rfl
 rw[this];exact ⟨h1,h2,h3,h4,h5⟩
theorem jz {S:List (List ak)} (h:Good S):∀ e∈edg S,0≤e∧e≤1114111:=fun e he=>tb h.ok ((ec h).2.2.2.1 e |>.1 he)
noncomputable def cls (S:List (List ak)):List Int:=firsts ((edg S).map (mkI S))
noncomputable def lst (S:List (List ak)):List Int:=reps (mkI S) (edg S)
noncomputable def prp (S:List (List ak)):List cF:=pieces (mkI S) (edg S) (edg S).length
def nB:Nat:=4352
theorem vJ:nB=4352:=by unfold nB;rfl
def Fit (S:List (List ak)):Prop:=(cls S).length≤200∧(firsts (blks (prp S) nB)).length≤256
noncomputable def iW (S:List (List ak)) (r:Int):Nat:=pos (cls S) (mkI S r)
theorem rh {S:List (List ak)} (h:Good S) {k:Nat} (hk:k < (edg S).length) {r:Int} (h1:bnd (edg S) k≤r) (h2:r < bnd (edg S) (k+1)) (h3:r≤1114111):mkI S r=mkI S (bnd (edg S) k):=by
 have hs:=ec h
 rw[fT hk]at h1 ⊢
 unfold mkI
 have key:∀ n,lZ S r n=lZ S (edg S)[k] n:=by
  intro n
  induction n with
  | zero=>rfl
  | succ n ih=>
   simp only[lZ,ih]
   by_cases hn:n < S.length
   ·have hg:S.getD n []=S[n]:=by simp[List.getD_eq_getElem?_getD,List.getElem?_eq_getElem hn]
    rw[hg,uy h.ok hs.2.2.1 hs.2.2.2.1 (fun x hx=>pE hn hx) hk h1 h2 h3]
   ·have hg:S.getD n []=[]:=by simp[List.getD_eq_getElem?_getD,List.getElem?_eq_none (Nat.le_of_not_lt hn)]
    rw[hg];rfl
 rw[key]
theorem rn {S:List (List ak)} (h:Good S) {r:Int} (hr:0≤r) (hr2:r≤1114111):∃ k,k < (edg S).length∧bnd (edg S) k≤r∧r < bnd (edg S) (k+1):=aoC (ec h).2.2.1 (jz h) ((ec h).2.2.2.1 0 |>.2 (.inl rfl)) hr hr2
theorem uW {S:List (List ak)} (h:Good S) {r:Int} (hr:0≤r) (hr2:r≤1114111):mkI S r∈cls S:=by
 obtain ⟨k,hk,h1,h2⟩:=rn h hr hr2
 rw[rh h hk h1 h2 hr2,fT hk]
 unfold cls
 rw[dR]
 exact List.mem_map_of_mem (List.getElem_mem hk)
theorem abE {S:List (List ak)} (h:Good S) {r:Int} (hr:0≤r) (hr2:r≤1114111):valN (prp S) r=UInt8.ofNat (iW S r):=by
 obtain ⟨k,hk,h1,h2⟩:=rn h hr hr2
 unfold prp iW
 rw[tr (ec h).2.2.1 (jz h) hk h1 h2 _ (Nat.le_refl _),if_pos hk,rh h hk h1 h2 hr2];rfl
theorem atK {S:List (List ak)} (h:Good S):∀ x∈prp S,OkP x:=ah9 (ec h).2.2.1 (jz h)
theorem asj {S:List (List ak)} (h:Good S):(prp S).length≤2401:=by
 have:=(ec h).2.2.2.2
 have:=h.small
 unfold prp;rw[sU];omega
theorem amN {S:List (List ak)} (h:Good S):(prp S).length≤4096:=by have:=asj h;omega
theorem xH {N:Nat} (hN:N=4352) {l:List cF} (ho:∀ x∈l,OkP x) (hl:l.length≤4096):
  ((firsts (blks l N)).length≤256→∃ like',nd l like' N∧aI l=some (some ⟨like',firsts (blks l N)⟩,0))∧(¬ (firsts (blks l N)).length≤256→aI l=some (none,3)):=by
 have h:=anX hN ho hl
 constructor
 ·intro f;rw[if_pos f]at h;exact h
 ·intro f;rw[if_neg f]at h;exact h
theorem apQ {S:List (List ak)} (h:Good S):(Fit S→∃ like,nd (prp S) like nB∧aA.k1 S=some (some ⟨⟨like,firsts (blks (prp S) nB)⟩,cls S,lst S⟩,0))∧(¬ Fit S→aA.k1 S=some (none,3)):=by
 have hs:=ec h
 have hsm:=h.small
 have hloop:=tU (E:=edg S) h.norm h.few (jz h) (by omega) (edg S).length 0 (by omega) [] qM (by simp[firsts])
 have hk1:aA.k1 S=if (cls S).length≤200 then aA.k2 (prp S) (cls S) (lst S)else some (none,3):=by
  unfold aA.k1
  rw[hs.1,Option.bind_some];exact hloop
 have hb:=xH (N:=nB) vJ (atK h) (amN h)
 rw[hk1]
 constructor
 ·rintro ⟨f1,f2⟩
  obtain ⟨like,b1,b2⟩:=hb.1 f2
  refine ⟨like,b1,?_⟩
  rw[if_pos f1]
  unfold aA.k2
  rw[b2,Option.bind_some];rfl
 ·intro hf
  by_cases f1:(cls S).length≤200
  ·have f2:¬ (firsts (blks (prp S) nB)).length≤256:=fun f2=>hf ⟨f1,f2⟩
   rw[if_pos f1]
   unfold aA.k2
   rw[hb.2 f2,Option.bind_some];rfl
  ·rw[if_neg f1]
end Go.Val
namespace Go.Val
set_option linter.unusedSectionVars false
section
variable {α K K':Type} [DecidableEq K] [DecidableEq K']
theorem gx [DecidableEq α]:∀ {l m:List α},l.Nodup→(∀ x∈l,x∈m)→l.length≤m.length
 | [],m,_,_=>by simp
 | a::l,m,h,hs=>by
  rw[List.nodup_cons]at h
  have ha:=hs a (by simp)
  have ih:=gx (l:=l) (m:=m.erase a) h.2 fun x hx=>by
   have hne:x≠a:=fun e=>h.1 (e ▸ hx)
   exact (List.mem_erase_of_ne hne).2 (hs x (by simp[hx]))
  rw[List.length_erase_of_mem ha]at ih
  have:=List.length_pos_of_mem ha
  simp;omega
theorem aoN {f:α→K} {l:List α}:(reps f l).Sublist l:=by
 induction l using lR with
 | h0=>exact List.Sublist.refl _
 | h1 l a ih=>
  rw[qx,addR]
  split
  ·exact ih.trans (List.sublist_append_left _ _)
  ·exact List.Sublist.append ih (List.Sublist.refl _)
theorem anN {f:α→K} {l:List α} {x:α} (h:x∈l):∃ y,y∈reps f l∧f y=f x:=by
 have:f x∈(reps f l).map f:=by rw[pL,dR];exact List.mem_map_of_mem h
 obtain ⟨y,hy,e⟩:=List.mem_map.1 this
 exact ⟨y,hy,e⟩
theorem count_le {f:α→K} {g:α→K'} {l l':List α} (hs:∀ x∈l',x∈l) (h:∀ x∈l,∀ y∈l,f x=f y→g x=g y):(firsts (l'.map g)).length≤(firsts (l.map f)).length:=by
 rw[← adL (f:=f) (l:=l),← List.length_map (f:=g)]
 refine gx lq fun z hz=>?_
 rw[dR]at hz
 obtain ⟨x,hx,rfl⟩:=List.mem_map.1 hz
 obtain ⟨y,hy,e⟩:=anN (f:=f) (hs x hx)
 exact List.mem_map.2 ⟨y,hy,h y (aoN.subset hy) x (hs x hx) e⟩
end
theorem nz {S:List (List ak)} (h:Good S) {x:Int} (hx:0≤x∧x≤1114111):iW S x < (cls S).length:=wL (uW h hx.1 hx.2)
theorem qB {S:List (List ak)} (h:Good S) {k j:Nat} (hk:k < 4352) (hj:j < 256):(cE (prp S) k).toList[j]? =some (UInt8.ofNat (iW S ((k*256+j:Nat):Int))):=by
 rw[kJ _ _ _ hj,abE h (by omega) (by omega)]
theorem ofNat_inj {a b:Nat} (ha:a < 256) (hb:b < 256) (h:UInt8.ofNat a=UInt8.ofNat b):a=b:=by
 have:=congrArg UInt8.toNat h
 rw[UInt8.toNat_ofNat',UInt8.toNat_ofNat']at this
 omega
theorem auC {k j:Nat} (hk:k < 4352) (hj:j < 256):0≤((k*256+j:Nat):Int)∧((k*256+j:Nat):Int)≤1114111:=by omega
end Go.Val
namespace Go.Val
def IsA (S:List (List ak)) (A:aB):Prop:=∃ like,nd (prp S) like nB∧A=⟨⟨like,firsts (blks (prp S) nB)⟩,cls S,lst S⟩
def inR (r:Int):Prop:=0≤r∧r≤1114111
instance (r:Int):Decidable (inR r):=inferInstanceAs (Decidable (_∧_))
noncomputable def ofI (S:List (List ak)) (r:Int):Int:=if inR r then (iW S r:Int)else -1
variable {S:List (List ak)} {A:aB}
theorem awg (h:Good S) (hF:Fit S) (hA:IsA S A) (r:Int):dF A r=some (ofI S r):=by
 obtain ⟨like,hL,rfl⟩:=hA
 unfold dF ofI
 by_cases hr:inR r
 ·obtain ⟨h0,h1⟩:=hr
  rw[if_neg (by simp;omega),if_pos ⟨h0,h1⟩]
  simp only
  rw[vJ]at hL
  have hFb:=hF.2
  have hT:=vz (N:=4352) rfl hL (by rw[vJ]at hFb;exact hFb) h0 h1
  rw[vJ,hT,Option.bind_some,abE h h0 h1]
  have hlt:=nz h ⟨h0,h1⟩
  have hc:=hF.1
  rw[UInt8.toNat_ofNat',Nat.mod_eq_of_lt (by omega),w64 (by omega) (by omega)]
 ·rw[if_neg hr]
  unfold inR at hr
  rw[if_pos (by simp;omega)]
theorem anQ (hA:IsA S A):dm A=some ((cls S).length:Int):=by
 obtain ⟨like,hL,rfl⟩:=hA;rfl
theorem aic {a:List ak} (hl:a.length < 9223372036854775807):cb a a=some true:=by rw[yD hl];simp
theorem adh (h:Good S):aA S=aA.k1 S:=by
 unfold aA
 have hf:=h.few
 rw[if_neg (by simp;omega)]
 have hrun:=nf (b:=aA.b2 S) (i:=0) (n:=S.length) (Nat.zero_le _) (fun j _ hj=>by
  have hn:=h.norm _ (List.getElem_mem hj)
  have hlen:=hn.len
  have hsm:S[j].length≤S.flatten.length:=by have:=adm hj;omega
  have hs2:=h.small
  obtain ⟨out,e,m1,m2,m3,m4,m5,m6⟩:=akk (l:=S[j]) (by omega)
  obtain ⟨e1,e2⟩:=wv hn m3 m5 m6
  subst e1 e2
  simp only[aA.b2]
  rw[if_pos (by simpa using hj),bm,List.getElem?_eq_getElem hj,Option.bind_some,m1,Option.bind_some,if_neg (by simp),oI,aic (a:=S[j]) (by omega),Option.bind_some,Option.bind_some,if_neg (by simp),w64s (by omega)])
 simp only[Int.ofNat_zero,Int.natCast_zero]at hrun
 rw[hrun]
 refine bK ?_
 simp only[aA.b2]
 rw[if_neg (by simp)]
theorem atq (h:Good S) (hF:Fit S):∃ A,IsA S A∧aA S=some (some A,0):=by
 obtain ⟨like,h1,h2⟩:=(apQ h).1 hF
 exact ⟨_,⟨like,h1,rfl⟩,(adh h).trans h2⟩
theorem aiV (h:Good S) (hF:¬ Fit S):aA S=some (none,3):=(adh h).trans ((apQ h).2 hF)
end Go.Val
namespace Go.Val
noncomputable section
def dig7 (d:Nat):UInt8:=if d < 10 then UInt8.ofNat (48+d)else UInt8.ofNat (55+d)
def dv7 (c:UInt8):Nat:=if c.toNat < 58 then c.toNat - 48 else c.toNat - 55
theorem acN:∀ d:Fin 16,dv7 (dig7 d.1)=d.1∧dig7 d.1≠125∧([48,49,50,51,52,53,54,55,56,57,65,66,67,68,69,70]:Str)[d.1]? =some (dig7 d.1):=by decide
theorem tm {n:Nat} (h:n < 16):hexU n=[dig7 n]:=by rw[hexU,dif_pos h];rfl
theorem alN {n:Nat} (h:¬ n < 16):hexU n=hexU (n/16)++[dig7 (n%16)]:=by rw[hexU,dif_neg h,tm (n:=n%16) (by omega)]
def valH (l:Str):Nat:=l.foldl (fun a c=>a*16+dv7 c) 0
theorem iC:∀ (k n:Nat),n < 16^(k+1)→(hexU n).length≤k+1∧(∀ c∈hexU n,c≠125)∧valH (hexU n)=n
 | k,n,h=>by
  by_cases h16:n < 16
  ·obtain ⟨h1,h2,_⟩:=acN ⟨n,h16⟩
   simp only at h1 h2
   rw[tm h16]
   exact ⟨by simp,fun c hc=>by rw[List.mem_singleton.1 hc];exact h2,by simp[valH,h1]⟩
  ·cases k with
   | zero=>omega
   | succ k=>
    have hp:n/16 < 16^(k+1):=by rw[Nat.pow_succ]at h;omega
    obtain ⟨g1,g2,g3⟩:=iC k (n/16) hp
    obtain ⟨h1,h2,_⟩:=acN ⟨n%16,by omega⟩
    simp only at h1 h2
    rw[alN h16]
    refine ⟨by simp;omega,fun c hc=>?_,?_⟩
    ·rcases List.mem_append.1 hc with hc | hc
     ·exact g2 c hc
     ·rw[List.mem_singleton.1 hc];exact h2
    ·have:valH (hexU (n/16)++[dig7 (n%16)])=valH (hexU (n/16))*16+dv7 (dig7 (n%16)):=by unfold valH;rw[List.foldl_append];rfl
     rw[this,g3,h1];omega
theorem api {n m:Nat} (hn:n≤1114111) (hm:m≤1114111) (h:hexU n=hexU m):n=m:=by
 have h1:=(iC 5 n (by omega)).2.2
 rw[h,(iC 5 m (by omega)).2.2]at h1
 exact h1.symm
def encR (x:ak):Str:=hexX x.Low++if x.High=x.Low then []else 45::hexX x.High
theorem nD {n:Int} (h1:n≤1114111):(hexX n).length≤10:=by
 have:=(iC 5 n.toNat (by omega)).1
 unfold hexX;simp only[List.length_append,List.length_cons,List.length_nil];omega
theorem ti (l:List ak):jp l=91::(l.flatMap encR++[93]):=rfl
theorem zy {l:List ak} (ho:∀ x∈l,Ok x) (hl:l.length≤1200000):lB l=some (jp l):=by
 unfold lB
 rw[if_pos ⟨hl,fun x hx=>by have:=ho x hx;unfold Ok at this;omega⟩]
theorem acV {c:UInt8}:∀ {A B R S:Str},(∀ x∈A,x≠c)→(∀ x∈B,x≠c)→A++c::R=B++c::S→A=B∧R=S
 | [],[],R,S,_,_,h=>⟨rfl,by simpa using h⟩
 | [],b::B,R,S,_,hb,h=>by
  simp only[List.nil_append,List.cons_append,List.cons.injEq]at h
  exact absurd h.1.symm (hb b (by simp))
 | a::A,[],R,S,ha,_,h=>by
  simp only[List.nil_append,List.cons_append,List.cons.injEq]at h
  exact absurd h.1 (ha a (by simp))
 | a::A,b::B,R,S,ha,hb,h=>by
  simp only[List.cons_append,List.cons.injEq]at h
  obtain ⟨h1,h2⟩:=acV (fun x hx=>ha x (List.mem_cons_of_mem _ hx)) (fun x hx=>hb x (List.mem_cons_of_mem _ hx)) h.2
  exact ⟨by rw[h.1,h1],h2⟩
theorem sK {n m:Int} {A B:Str} (hn:0≤n∧n≤1114111) (hm:0≤m∧m≤1114111) (h:hexX n++A=hexX m++B):n=m∧A=B:=by
 unfold hexX at h
 simp only[List.cons_append,List.nil_append,List.append_assoc,List.cons.injEq,true_and]at h
 obtain ⟨h1,h2⟩:=acV (iC 5 n.toNat (by omega)).2.1 (iC 5 m.toNat (by omega)).2.1 h
 have:=api (by omega) (by omega) h1
 exact ⟨by omega,h2⟩
theorem ww (l:List ak):∃ c r,l.flatMap encR++[93]=c::r∧c≠45:=by
 cases l with
 | nil=>exact ⟨93,[],rfl,by decide⟩
 | cons x l=>exact ⟨92,_,rfl,by decide⟩
theorem acM:∀ {l m:List ak},(∀ x∈l,Ok x)→(∀ x∈m,Ok x)→l.flatMap encR++[93]=m.flatMap encR++[93]→l=m
 | [],[],_,_,_=>rfl
 | [],y::m,_,_,h=>by
  have h2:(93:UInt8)::[]=92::_:=h
  simp at h2
 | x::l,[],_,_,h=>by
  have h2:(92:UInt8)::_=93::[]:=h
  simp at h2
 | x::l,y::m,hl,hm,h=>by
  have hx:=hl x (by simp)
  have hy:=hm y (by simp)
  unfold Ok at hx hy
  simp only[List.flatMap_cons]at h
  unfold encR at h
  simp only[List.append_assoc]at h
  obtain ⟨h1,h2⟩:=sK (by omega) (by omega) h
  obtain ⟨c,r,hc,hc2⟩:=ww l
  obtain ⟨d,q,hd,hd2⟩:=ww m
  have ih:=acM (l:=l) (m:=m) (fun z hz=>hl z (by simp[hz])) (fun z hz=>hm z (by simp[hz]))
  unfold encR at ih hc hd
  by_cases ex:x.High=x.Low
  ·rw[if_pos ex,List.nil_append]at h2
   by_cases ey:y.High=y.Low
   ·rw[if_pos ey,List.nil_append]at h2
    rw[ih h2]
    have:x=y:=by cases x;cases y;simp_all
    rw[this]
   ·rw[if_neg ey,hc]at h2
    simp only[List.cons_append,List.cons.injEq]at h2
    exact absurd h2.1 hc2
  ·rw[if_neg ex]at h2
   by_cases ey:y.High=y.Low
   ·rw[if_pos ey,List.nil_append,hd]at h2
    simp only[List.cons_append,List.cons.injEq]at h2
    exact absurd h2.1.symm hd2
   ·rw[if_neg ey]at h2
    simp only[List.cons_append,List.cons.injEq,true_and]at h2
    obtain ⟨h3,h4⟩:=sK (by omega) (by omega) h2
    rw[ih h4]
    have:x=y:=by cases x;cases y;simp_all
    rw[this]
theorem zS {l m:List ak} (hl:∀ x∈l,Ok x) (hm:∀ x∈m,Ok x) (h:jp l=jp m):l=m:=by
 rw[ti,ti]at h
 simp only[List.cons.injEq,true_and]at h
 exact acM hl hm h
end
end Go.Val
namespace Go.Val
noncomputable section
theorem aE.ind {P:aE→Prop} (h:∀ n:aE,(∀ k∈n.Kids,P k)→P n):∀ n,P n:=by
 intro n
 have key:∀ m (n:aE),SizeOf.sizeOf n < m→P n:=by
  intro m
  induction m with
  | zero=>intro n hn;omega
  | succ m ih=>
   intro n hn
   refine h n fun k hk=>ih k ?_
   have h1:=List.sizeOf_lt_of_mem hk
   cases n with
   | mk a b ks=>
    simp only[aE.mk.sizeOf_spec]at hn h1
    omega
 exact key _ n (Nat.lt_succ_self _)
mutual
def di:aE→Nat
 | ⟨_,_,ks⟩=>1+dt ks
def dt:List aE→Nat
 | []=>0
 | x::xs=>di x+dt xs
end
theorem jj (n:aE):di n=1+dt n.Kids:=by cases n;rw[di]
theorem xI:∀ {l:List aE} {x:aE},x∈l→di x≤dt l
 | y::l,x,h=>by
  rw[dt]
  rcases List.mem_cons.1 h with rfl | h
  ·omega
  ·have:=xI h;omega
theorem gB (n:aE):1≤di n:=by rw[jj];omega
theorem eE {n x:aE} (h:x∈n.Kids):di x < di n:=by
 have:=xI h
 rw[jj n];omega
theorem dJ {α:Type} {l:List α} {s:Nat} (h:s < l.length):l.take (s+1)=l.take s++[l[s]]:=by rw[List.take_add_one,List.getElem?_eq_getElem h];rfl
structure FewP (p:bP):Prop where
 sets:p.Sets.length≤70
 rules:p.Rules.length≤70
 each:∀ s∈p.Sets,s.length≤40
 nodes:∀ r∈p.Rules,di r.Left < 150∧di r.Right < 150
structure FewR (p:bP):Prop where
 sets:p.Sets.length≤8
 rules:p.Rules.length≤6
 each:∀ s∈p.Sets,s.length≤8
 nodes:∀ r∈p.Rules,di r.Left < 15∧di r.Right < 15
theorem FewR.few {p:bP} (h:FewR p):FewP p:=⟨by have:=h.sets;omega,by have:=h.rules;omega,fun s hs=>by have:=h.each s hs;omega,fun r hr=>by have:=h.nodes r hr;omega⟩
end
end Go.Val
namespace Go.Val
noncomputable section
def as9 (k:Int) (x:aE):Bool:=decide (x.Kind=2)||(decide (x.Kind=0)&& !decide (k=2))
def ad6 (k:Int):Bool:=decide (3≤k)&&decide (k≤5)
def zA (k:Int) (m:Nat):Bool:=if k=0 then !decide (m=1)else if k=2 then decide (1 < m)else ad6 k&&decide (m=1)
def jV (k:Int) (g:Nat):Nat:=if ad6 k then g+1 else 0
def rZ (k:Int) (x:aE) (d:Nat):Nat:=if as9 k x then d+1 else d
mutual
def lX (sets:Nat):aE→Nat→Nat→Bool
 | ⟨k,s,ks⟩,d,g=>if k=1 then ks.isEmpty&&(decide (0≤s)&&decide (s < (sets:Int)))else decide (s=0)&&(zA k ks.length&&(decide (jV k g≤3)&&pt sets k ks d (jV k g)))
def pt (sets:Nat) (k:Int):List aE→Nat→Nat→Bool
 | [],_,_=>true
 | x::xs,d,g=>decide (rZ k x d≤20)&&(lX sets x (rZ k x d) g&&pt sets k xs d g)
end
theorem ug (sets:Nat) (n:aE) (d g:Nat):lX sets n d g=if n.Kind=1 then n.Kids.isEmpty&&(decide (0≤n.Set)&&decide (n.Set < (sets:Int)))else decide (n.Set=0)&&(zA n.Kind n.Kids.length&&(decide (jV n.Kind g≤3)&&pt sets n.Kind n.Kids d (jV n.Kind g))):=by
 cases n;rw[lX]
mutual
def metS:aE→Nat→Option Nat
 | ⟨k,s,ks⟩,a=>if k=1 then (if s > (a:Int)then none else some (max a (s.toNat+1)))else metL ks a
def metL:List aE→Nat→Option Nat
 | [],a=>some a
 | x::xs,a=>(metS x a).bind (metL xs)
end
theorem aiX (n:aE) (a:Nat):metS n a=if n.Kind=1 then (if n.Set > (a:Int)then none else some (max a (n.Set.toNat+1)))else metL n.Kids a:=by
 cases n;rw[metS]
theorem auj (of n:aE):kb of n=some (as9 of.Kind n):=rfl
theorem aac (n:aE):gj n=some (ad6 n.Kind):=rfl
theorem awv {n:aE} (h:n.Kids.length≤1000000):iK n=some (zA n.Kind n.Kids.length):=by
 unfold iK zA
 by_cases h0:n.Kind=0
 ·rw[if_pos (by simpa using h0),if_pos h0]
  congr 1
  rw[Bool.eq_iff_iff];simp;omega
 ·rw[if_neg (by simpa using h0),if_neg h0]
  by_cases h2:n.Kind=2
  ·rw[if_pos (by simpa using h2),if_pos h2]
   congr 1
   rw[Bool.eq_iff_iff];simp;omega
  ·rw[if_neg (by simpa using h2),if_neg h2,aac,Option.bind_some]
   cases ad6 n.Kind with
   | true=>
    rw[if_pos rfl,Option.bind_some]
    congr 1
    rw[Bool.eq_iff_iff];simp;omega
   | false=>rw[if_neg (by simp),Option.bind_some];rfl
theorem oF (n:aE):n.Kids.length≤di n:=by
 have:∀ l:List aE,l.length≤dt l:=by
  intro l
  induction l with
  | nil=>simp
  | cons x l ih=>have:=gB x;rw[dt,List.length_cons];omega
 have:=this n.Kids
 rw[jj];omega
theorem drop_cons {n:aE} {i:Nat} {x:aE} {l:List aE} (h:n.Kids.drop i=x::l):∃ hi:i < n.Kids.length,n.Kids[i]=x∧n.Kids.drop (i+1)=l:=by
 have hil:i < n.Kids.length:=by
  rcases Nat.lt_or_ge i n.Kids.length with q | q
  ·exact q
  ·rw[List.drop_eq_nil_of_le q]at h;cases h
 have hd:=List.drop_eq_getElem_cons hil
 rw[h]at hd
 simp only[List.cons.injEq]at hd
 exact ⟨hil,hd.1.symm,hd.2.symm⟩
theorem yj (sets:Nat):∀ (n:aE) (d g a m:Nat),lX sets n d g=true→a≤sets→metS n a=some m→m≤sets:=by
 refine aE.ind fun n ih=>?_
 intro d g a m hf ha hm
 rw[ug]at hf
 rw[aiX]at hm
 by_cases h1:n.Kind=1
 ·rw[if_pos h1]at hf hm
  simp at hf
  split at hm
  ·cases hm
  ·obtain rfl:=Option.some.inj hm;omega
 ·rw[if_neg h1]at hf hm
  simp only[Bool.and_eq_true]at hf
  have loop:∀ (l:List aE) (a:Nat),(∀ x∈l,x∈n.Kids)→pt sets n.Kind l d (jV n.Kind g)=true→a≤sets→metL l a=some m→m≤sets:=by
   intro l
   induction l with
   | nil=>intro a _ _ ha hm;rw[metL]at hm;obtain rfl:=Option.some.inj hm;exact ha
   | cons x l ihl=>
    intro a hs hf ha hm
    rw[pt]at hf
    simp only[Bool.and_eq_true]at hf
    rw[metL,Option.bind_eq_some_iff]at hm
    obtain ⟨q,hq,hm⟩:=hm
    exact ihl q (fun y hy=>hs y (by simp[hy])) hf.2.2 (ih x (hs x (by simp)) _ _ a q hf.2.1 ha hq) hm
  exact loop n.Kids a (fun _ h=>h) hf.2.2.2 ha hm
def lm (sets:Nat) (b:Bool) (m:Option Nat) (r:Option (Bool×aM)):Prop:=
 match b,m with
 | true,some q=>r=some (true,⟨(sets:Int),(q:Int)⟩)
 | _,_=>∃ c,r=some (false,c)
theorem aqe (sets:Nat) (hsets:sets≤100):∀ (n:aE) (fu d g a:Nat),di n≤fu→di n≤1000→d≤20→g≤3→a≤sets→lm sets (lX sets n d g) (metS n a) (aa.r fu ⟨(sets:Int),(a:Int)⟩ n (d:Int) (g:Int)):=by
 refine aE.ind fun n ih=>?_
 intro fu d g a hfu hsz hd hg ha
 have hp:=gB n
 obtain ⟨fu,rfl⟩:∃ k,fu=k+1:=⟨fu - 1,by omega⟩
 have hkl:=oF n
 simp only[aa.r]
 rw[ug,aiX]
 by_cases h1:n.Kind=1
 ·rw[if_pos h1,if_pos h1,if_pos (show (n.Kind==1)=true by simpa using h1)]
  by_cases hok:n.Kids.length=0∧0≤n.Set∧n.Set < (sets:Int)
  ·have hempty:n.Kids.isEmpty=true:=by rw[List.isEmpty_iff];exact List.length_eq_zero_iff.1 hok.1
   rw[hempty,decide_eq_true hok.2.1,decide_eq_true hok.2.2]
   by_cases hc:n.Set > (a:Int)
   ·rw[if_pos hc]
    have e:decide (n.Set≤(a:Int))=false:=decide_eq_false (by omega)
    exact ⟨⟨(sets:Int),mx (a:Int) (IntKind.i64.wrap (mn n.Set (sets:Int)+1))⟩,by simp[e]⟩
   ·rw[if_neg hc]
    have e:decide (n.Set≤(a:Int))=true:=decide_eq_true (by omega)
    have e1:mn n.Set (sets:Int)=n.Set:=by unfold mn;rw[if_neg (by omega)]
    have e2:mx (a:Int) (n.Set+1)=((max a (n.Set.toNat+1):Nat):Int):=by unfold mx;split <;> omega
    show some _=some (true,(⟨(sets:Int),((max a (n.Set.toNat+1):Nat):Int)⟩:aM))
    rw[e1,w64 (by omega) (by omega),e2,e,hok.1]
    rfl
  ·have hb:(n.Kids.isEmpty&&(decide (0≤n.Set)&&decide (n.Set < (sets:Int))))=false:=by
    rw[Bool.eq_false_iff]
    intro h
    simp only[Bool.and_eq_true,List.isEmpty_iff,decide_eq_true_eq]at h
    exact hok ⟨by rw[h.1];rfl,h.2⟩
   rw[hb]
   refine ⟨_,Prod.ext ?_ rfl |> congrArg some⟩
   rw[Bool.eq_false_iff]
   intro h
   simp only[Bool.and_eq_true,decide_eq_true_eq,beq_iff_eq]at h
   exact hok ⟨by omega,h.2.1,h.2.2.1⟩
 ·rw[if_neg h1,if_neg h1,if_neg (show ¬ (n.Kind==1)=true by simpa using h1),aac,Option.bind_some]
  have loop:∀ (g2:Nat),g2≤3→∀ (l:List aE) (i a:Nat),n.Kids.drop i=l→a≤sets→lm sets (pt sets n.Kind l d g2) (metL l a) (Loop (aa.b1 (aa.r fu) n (d:Int) (g2:Int)) ((i:Int),(sets:Int),(a:Int))):=by
   intro g2 hg2 l
   induction l with
   | nil=>
    intro i a hl ha
    have hi:n.Kids.length≤i:=List.drop_eq_nil_iff.1 hl
    rw[pt,metL]
    refine bK (R:=some (true,(⟨(sets:Int),(a:Int)⟩:aM))) ?_
    simp only[aa.b1]
    rw[if_neg (by simp;omega)];rfl
   | cons x l ihl=>
    intro i a hl ha
    obtain ⟨hil,hx,hdr⟩:=drop_cons hl
    have hmem:x∈n.Kids:=by rw[← hx];exact List.getElem_mem hil
    have hb:aa.b1 (aa.r fu) n (d:Int) (g2:Int) ((i:Int),(sets:Int),(a:Int))=aa.k3 (aa.r fu) (g2:Int) (i:Int) (sets:Int) (a:Int) x ((rZ n.Kind x d:Nat):Int):=by
     simp only[aa.b1]
     rw[if_pos (by simpa using hil),bm,List.getElem?_eq_getElem hil,Option.bind_some,auj,Option.bind_some,hx]
     unfold rZ
     cases as9 n.Kind x with
     | true=>rw[if_pos rfl,if_pos rfl,w64s (by omega)]
     | false=>rw[if_neg (by simp),if_neg (by simp)]
    rw[pt,metL]
    by_cases hm:rZ n.Kind x d≤20
    ·have hkid:=ih x hmem fu (rZ n.Kind x d) g2 a (by have:=eE hmem;omega) (by have:=eE hmem;omega) hm hg2 ha
     rw[decide_eq_true hm,Bool.true_and]
     have hbad:(∃ c,aa.r fu ⟨(sets:Int),(a:Int)⟩ x ((rZ n.Kind x d:Nat):Int) (g2:Int)=some (false,c))→∃ c,Loop (aa.b1 (aa.r fu) n (d:Int) (g2:Int)) ((i:Int),(sets:Int),(a:Int))=some (false,c):=fun ⟨c,hc⟩=>by
      refine ⟨c,cM (hb.trans ?_)⟩
      unfold aa.k3
      rw[if_neg (by simp;omega),hc];rfl
     cases hf:lX sets x (rZ n.Kind x d) g2 with
     | false=>
      rw[hf]at hkid
      rw[Bool.false_and]
      exact hbad hkid
     | true=>
      rw[hf]at hkid
      rw[Bool.true_and]
      cases hq:metS x a with
      | none=>
       rw[hq]at hkid
       have:=hbad hkid
       cases pt sets n.Kind l d g2 <;> exact this
      | some q=>
       rw[hq]at hkid
       have hkid':aa.r fu ⟨(sets:Int),(a:Int)⟩ x ((rZ n.Kind x d:Nat):Int) (g2:Int)=some (true,⟨(sets:Int),(q:Int)⟩):=hkid
       have hnext:aa.b1 (aa.r fu) n (d:Int) (g2:Int) ((i:Int),(sets:Int),(a:Int))=some (.next (((i+1:Nat):Int),(sets:Int),(q:Int))):=by
        refine hb.trans ?_
        unfold aa.k3
        rw[if_neg (by simp;omega),hkid']
        simp only[Option.bind_some,Bool.not_true]
        rw[if_neg (by simp),w64s (by omega)]
       rw[bH hnext]
       exact ihl (i+1) q hdr (yj sets x _ _ a q hf ha hq)
    ·rw[decide_eq_false hm,Bool.false_and]
     refine ⟨(⟨(sets:Int),(a:Int)⟩:aM),cM (hb.trans ?_)⟩
     unfold aa.k3
     rw[if_pos (by simp;omega)];rfl
  have hk1:∀ g1:Nat,g1≤4→g1=jV n.Kind g→lm sets (decide (n.Set=0)&&(zA n.Kind n.Kids.length&&(decide (jV n.Kind g≤3)&&pt sets n.Kind n.Kids d (jV n.Kind g)))) (metL n.Kids a) (aa.k1 (aa.r fu) ⟨(sets:Int),(a:Int)⟩ n (d:Int) (g1:Int)):=fun g1 hg1 e=>by
   subst e
   unfold aa.k1
   rw[awv (by omega),Option.bind_some]
   cases hf:zA n.Kind n.Kids.length with
   | false=>
    rw[if_pos (by simp),Option.bind_some,if_pos rfl,Bool.false_and,Bool.and_false]
    exact ⟨_,rfl⟩
   | true=>
    rw[if_neg (by simp),Bool.true_and]
    by_cases hs:n.Set=0
    ·rw[if_neg (by simpa using hs),Option.bind_some,decide_eq_true hs,Bool.true_and]
     by_cases hg3:jV n.Kind g≤3
     ·rw[if_neg (by simp;omega),decide_eq_true hg3,Bool.true_and]
      exact loop _ hg3 n.Kids 0 a rfl ha
     ·rw[if_pos (by simp;omega),decide_eq_false hg3,Bool.false_and]
      exact ⟨_,rfl⟩
    ·rw[if_pos (by simpa using hs),Option.bind_some,if_pos rfl,decide_eq_false hs,Bool.false_and]
     exact ⟨_,rfl⟩
  cases hb:ad6 n.Kind with
  | true=>
   have hsn:jV n.Kind g=g+1:=by unfold jV;rw[hb];rfl
   rw[if_neg (by simp),w64s (by omega)]
   exact hk1 (g+1) (by omega) hsn.symm
  | false=>
   have hsn:jV n.Kind g=0:=by unfold jV;rw[hb];rfl
   rw[if_pos (by simp)]
   exact hk1 0 (by omega) hsn.symm
end
end Go.Val
namespace Go.Val
noncomputable section
theorem alj {l:List ak} (hl:l.length≤1000000):∃ out e,cm l=some (out,e)∧Norm out∧out.length≤l.length∧(e=0→∀ t,In out t↔In l t)∧(e≠0→e=1∧out=[]∧¬ ∀ x∈l,Ok x):=by
 by_cases hok:∀ x∈l,Ok x
 ·obtain ⟨o,h1,h2,h3,h4⟩:=aja hok (by omega)
  exact ⟨o,0,h1,h2,h4,fun _=>h3,fun h=>absurd rfl h⟩
 ·exact ⟨[],1,adu hok (by omega),lJ,by simp,fun h=>by simp at h,fun _=>⟨rfl,rfl,hok⟩⟩
open Classical in
def adW (s:List ak):Bool:=decide (Norm s)
theorem np {s:List ak}:adW s=true↔Norm s:=by unfold adW;simp
theorem pSet {s:List ak} (hl:s.length≤40):jD s=some (adW s):=by
 obtain ⟨out,e,m1,m3,m4,m5,m6⟩:=alj (l:=s) (by omega)
 unfold jD
 rw[m1,Option.bind_some]
 by_cases hn:Norm s
 ·obtain ⟨e1,e2⟩:=wv hn m3 m5 m6
  subst e1 e2
  rw[if_pos (by simp),oI,yD (a:=out) (by omega),Option.bind_some,Option.bind_some,np.2 hn]
  simp
 ·have hb:adW s=false:=by rw[Bool.eq_false_iff];exact fun h=>hn (np.1 h)
  have hne:out≠s:=fun e=>hn (e ▸ m3)
  rw[hb]
  by_cases he:e=0
  ·subst he
   rw[if_pos (by simp),oI,yD (a:=out) (by omega),Option.bind_some,Option.bind_some]
   simp[hne]
  ·rw[if_neg (by simpa using he)];rfl
theorem rW {s1 s2:aM→aE→Int→Int→Option (Bool×aM)} {n:aE} (h:∀ x∈n.Kids,∀ c d g,s1 c x d g=s2 c x d g) (d g:Int):aa.b1 s1 n d g=aa.b1 s2 n d g:=by
 funext ⟨v,a,b⟩
 simp only[aa.b1]
 by_cases hc:v < (n.Kids.length:Int)
 ·rw[if_pos (decide_eq_true hc),if_pos (decide_eq_true hc)]
  cases hi:idx n.Kids v with
  | none=>rfl
  | some x=>
   have hx:x∈n.Kids:=by
    unfold idx at hi
    split at hi
    ·cases hi
    ·exact List.mem_of_getElem? hi
   have hk:∀ more,aa.k3 s1 g v a b x more=aa.k3 s2 g v a b x more:=fun more=>by
    unfold aa.k3
    rw[h x hx]
   rw[Option.bind_some,Option.bind_some,auj,Option.bind_some,Option.bind_some]
   split
   ·exact hk _
   ·exact hk _
 ·rw[if_neg (by simpa using hc),if_neg (by simpa using hc)]
theorem vt:∀ (n:aE) (fu:Nat),di n≤fu→∀ c d g,aa.r fu c n d g=aa.r (di n) c n d g:=by
 refine aE.ind fun n ih=>?_
 intro fu hfu c d g
 have hp:=gB n
 obtain ⟨fu,rfl⟩:∃ k,fu=k+1:=⟨fu - 1,by omega⟩
 obtain ⟨m,hm⟩:∃ k,di n=k+1:=⟨di n - 1,by omega⟩
 rw[hm]
 simp only[aa.r]
 have hk1:∀ g1,aa.k1 (aa.r fu) c n d g1=aa.k1 (aa.r m) c n d g1:=fun g1=>by
  unfold aa.k1
  rw[rW (s1:=aa.r fu) (s2:=aa.r m) fun x hx c d g=>by
   have hlt:=eE hx
   rw[ih x hx fu (by omega),ih x hx m (by omega)]]
 rw[aac,Option.bind_some,Option.bind_some]
 simp only[hk1]
theorem ajZ {sets:Nat} {b:Bool} {m:Option Nat} {n:aE} {c:aM} {d g:Int} (h:∀ fu,di n≤fu→lm sets b m (aa.r fu c n d g)):lm sets b m (aa c n d g):=by
 have h0:=h (di n) (Nat.le_refl _)
 have hv:∃ w,aa.r (di n) c n d g=some w:=by
  unfold lm at h0
  split at h0
  ·exact ⟨_,h0⟩
  ·obtain ⟨c',hc⟩:=h0;exact ⟨_,hc⟩
 obtain ⟨w,hw⟩:=hv
 have hl:aa c n d g=some w:=tg (di n) fun k hk=>by rw[vt n k hk,hw]
 rw[hl,← hw];exact h0
def oU (sets:Nat):List lV→Nat→Option Nat
 | [],a=>some a
 | r::rs,a=>if lX sets r.Left 0 0&&lX sets r.Right 0 0 then (metS r.Left a).bind fun q=>(metS r.Right q).bind (oU sets rs)else none
def gC (p:bP):Prop:=p.Sets.length≤60∧p.Rules.length≤64∧(∀ s∈p.Sets,Norm s)∧p.Sets.Nodup∧oU p.Sets.length p.Rules 0=some p.Sets.length
theorem rI {sets:Nat}:∀ {l:List lV} {a m:Nat},oU sets l a=some m→∀ r∈l,lX sets r.Left 0 0=true∧lX sets r.Right 0 0=true
 | [],_,_,_,r,h=>by cases h
 | x::l,a,m,h,r,hr=>by
  rw[oU]at h
  split at h
  ·rename_i hf
   simp only[Bool.and_eq_true]at hf
   simp only[Option.bind_eq_some_iff]at h
   obtain ⟨q,_,q2,_,h⟩:=h
   rcases List.mem_cons.1 hr with rfl | hr
   ·exact hf
   ·exact rI h r hr
  ·cases h
theorem lL {α:Type} {xs:List α} {i:Nat} {x:α} {l:List α} (h:xs.drop i=x::l):∃ hi:i < xs.length,xs[i]=x∧xs.drop (i+1)=l:=by
 have hil:i < xs.length:=by
  rcases Nat.lt_or_ge i xs.length with q | q
  ·exact q
  ·rw[List.drop_eq_nil_of_le q]at h;cases h
 have hd:=List.drop_eq_getElem_cons hil
 rw[h]at hd
 simp only[List.cons.injEq]at hd
 exact ⟨hil,hd.1.symm,hd.2.symm⟩
theorem avM {p:bP} {m:List (Str×Bool)} (hf:FewP p) (hs60:p.Sets.length≤60):∀ (l:List lV) (i a:Nat),p.Rules.drop i=l→a≤p.Sets.length→Loop (bg.b1 p m) ((i:Int),(p.Sets.length:Int),(a:Int))=some (((m.length:Int)==(p.Sets.length:Int))&&decide (oU p.Sets.length l a=some p.Sets.length)):=by
 intro l
 induction l with
 | nil=>
  intro i a hl ha
  have hi:p.Rules.length≤i:=List.drop_eq_nil_iff.1 hl
  refine bK (R:=some _) ?_
  simp only[bg.b1]
  rw[if_neg (by simp;omega),oU]
  unfold bg.k2
  simp only[Option.map_some]
  congr 3
  rw[Bool.eq_iff_iff]
  simp
  omega
 | cons r l ih=>
  intro i a hl ha
  obtain ⟨hil,hx,hdr⟩:=lL hl
  have hmem:r∈p.Rules:=by rw[← hx];exact List.getElem_mem hil
  obtain ⟨n1,n2⟩:=hf.nodes r hmem
  have hrl:=hf.rules
  have hR:∀ (n:aE) (a:Nat),di n≤1000→a≤p.Sets.length→lm p.Sets.length (lX p.Sets.length n 0 0) (metS n a) (aa ⟨(p.Sets.length:Int),(a:Int)⟩ n 0 0):=fun n a hn ha=>by
   have h1:∀ fu,di n≤fu→lm p.Sets.length (lX p.Sets.length n 0 0) (metS n a) (aa.r fu ⟨(p.Sets.length:Int),(a:Int)⟩ n 0 0):=fun fu hfu=>aqe _ (by omega) n fu 0 0 a hfu hn (by omega) (by omega) ha
   exact ajZ h1
  have hL:=hR r.Left a (by omega) ha
  have hbad:(∃ c,aa ⟨(p.Sets.length:Int),(a:Int)⟩ r.Left 0 0=some (false,c))→Loop (bg.b1 p m) ((i:Int),(p.Sets.length:Int),(a:Int))=some false:=fun ⟨c,hc⟩=>by
   refine cM ?_
   simp only[bg.b1]
   rw[if_pos (by simpa using hil),bm,List.getElem?_eq_getElem hil,Option.bind_some,hx,hc]
   rfl
  rw[oU]
  cases f1:lX p.Sets.length r.Left 0 0 with
  | false=>
   rw[f1]at hL
   rw[if_neg (by simp),hbad hL];simp
  | true=>
   rw[f1]at hL
   cases hm:metS r.Left a with
   | none=>
    rw[hm]at hL
    rw[hbad hL]
    split <;> simp
   | some q=>
    rw[hm]at hL
    have hL':aa ⟨(p.Sets.length:Int),(a:Int)⟩ r.Left 0 0=some (true,⟨(p.Sets.length:Int),(q:Int)⟩):=hL
    have hq:=yj _ _ _ _ _ _ f1 ha hm
    have hRr:=hR r.Right q (by omega) hq
    have hbad2:(∃ c,aa ⟨(p.Sets.length:Int),(q:Int)⟩ r.Right 0 0=some (false,c))→Loop (bg.b1 p m) ((i:Int),(p.Sets.length:Int),(a:Int))=some false:=fun ⟨c,hc⟩=>by
     refine cM ?_
     simp only[bg.b1]
     rw[if_pos (by simpa using hil),bm,List.getElem?_eq_getElem hil,Option.bind_some,hx,hL']
     simp only[Option.bind_some,Bool.not_true,Bool.false_eq_true,if_false]
     rw[hc];rfl
    cases f2:lX p.Sets.length r.Right 0 0 with
    | false=>
     rw[f2]at hRr
     rw[if_neg (by simp),hbad2 hRr];simp
    | true=>
     rw[f2]at hRr
     rw[if_pos (by simp),Option.bind_some]
     cases hm2:metS r.Right q with
     | none=>
      rw[hm2]at hRr
      rw[hbad2 hRr];simp
     | some q2=>
      rw[hm2]at hRr
      have hR':aa ⟨(p.Sets.length:Int),(q:Int)⟩ r.Right 0 0=some (true,⟨(p.Sets.length:Int),(q2:Int)⟩):=hRr
      have hq2:=yj _ _ _ _ _ _ f2 hq hm2
      rw[Option.bind_some,← ih (i+1) q2 hdr hq2]
      refine bH ?_
      simp only[bg.b1]
      rw[if_pos (by simpa using hil),bm,List.getElem?_eq_getElem hil,Option.bind_some,hx,hL']
      simp only[Option.bind_some,Bool.not_true,Bool.false_eq_true,if_false]
      rw[hR']
      simp only[Option.bind_some,Bool.not_true,Bool.false_eq_true,if_false]
      rw[w64s (by omega)]
theorem adO {k a:Str} {v:Bool}:∀ {m:List (Str×Bool)},a∈(aput k v m).map (·.1)↔a∈m.map (·.1)∨a=k
 | []=>by simp[aput]
 | (k',v')::m=>by
  simp only[aput]
  by_cases h:k=k'
  ·rw[if_pos h]
   simp only[List.map_cons,List.mem_cons]
   rw[h]
   constructor
   ·rintro (h | h)
    ·exact .inr h
    ·exact .inl (.inr h)
   ·rintro ((h | h) | h)
    ·exact .inl h
    ·exact .inr h
    ·exact .inl h
  ·rw[if_neg h]
   simp only[List.map_cons,List.mem_cons,adO (m:=m)]
   exact or_assoc.symm
theorem uf {k:Str} {v:Bool}:∀ {m:List (Str×Bool)},(aput k v m).length=if k∈m.map (·.1)then m.length else m.length+1
 | []=>by simp[aput]
 | (k',v')::m=>by
  simp only[aput]
  by_cases h:k=k'
  ·rw[if_pos h,if_pos (by simp[h])];rfl
  ·rw[if_neg h]
   simp only[List.length_cons,uf (m:=m),List.map_cons,List.mem_cons,h,false_or]
   split <;> rfl
theorem ahu {α:Type} {l:List α} {a:α}:(l++[a]).Nodup↔l.Nodup∧a∉l:=by
 rw[List.nodup_append]
 constructor
 ·rintro ⟨h1,_,h2⟩
  exact ⟨h1,fun h=>h2 a h a (by simp) rfl⟩
 ·rintro ⟨h1,h2⟩
  exact ⟨h1,by simp,fun x hx y hy=>by simp at hy;subst hy;rintro rfl;exact h2 hx⟩
open Classical in
theorem aup {p:bP} (hf:FewP p) (hs60:p.Sets.length≤60):∀ (d i:Nat) (m:List (Str×Bool)),i+d=p.Sets.length→(∀ s∈p.Sets.take i,Norm s)→(∀ a,a∈m.map (·.1)↔a∈(p.Sets.take i).map jp)→m.length≤i→(m.length=i↔(p.Sets.take i).Nodup)→
  if ∀ s∈p.Sets,Norm s then Loop (bg.b2 p) ((i:Int),m)=some (decide (p.Sets.Nodup)&&decide (oU p.Sets.length p.Rules 0=some p.Sets.length))else Loop (bg.b2 p) ((i:Int),m)=some false
 | 0,i,m,h,hn,hk,hl,hd=>by
  obtain rfl:i=p.Sets.length:=by omega
  rw[List.take_length]at hn hd
  rw[if_pos hn]
  have hr:=avM (m:=m) hf hs60 p.Rules 0 0 rfl (Nat.zero_le _)
  refine bK ?_
  simp only[bg.b2]
  rw[if_neg (by simp)]
  unfold bg.k1
  have e:(((0:Nat):Int),(p.Sets.length:Int),((0:Nat):Int))=((0:Int),(p.Sets.length:Int),(0:Int)):=rfl
  rw[e]at hr
  rw[hr]
  simp only[Option.map_some]
  congr 3
  rw[Bool.eq_iff_iff]
  simp only[beq_iff_eq,decide_eq_true_eq]
  rw[← hd]
  omega
 | d+1,i,m,h,hn,hk,hl,hd=>by
  have hi:i < p.Sets.length:=by omega
  have h40:=hf.each _ (List.getElem_mem hi)
  have hstart:bg.b2 p ((i:Int),m)=if !adW p.Sets[i]then some (Step.done false)else (lB p.Sets[i]).bind fun r3=>some (Step.next ((IntKind.i64.wrap ((i:Int)+(1:Int))),(aput r3 true m))):=by
   simp only[bg.b2]
   rw[if_pos (by simpa using hi),bm,List.getElem?_eq_getElem hi,Option.bind_some,pSet h40,Option.bind_some]
  by_cases hnorm:Norm p.Sets[i]
  ·rw[np.2 hnorm,if_neg (by simp),zy hnorm.1 (by omega),Option.bind_some,w64s (by omega)]at hstart
   have htk:p.Sets.take (i+1)=p.Sets.take i++[p.Sets[i]]:=dJ hi
   have hmem:jp p.Sets[i]∈m.map (·.1)↔p.Sets[i]∈p.Sets.take i:=by
    rw[hk]
    constructor
    ·intro h
     obtain ⟨s,hs,e⟩:=List.mem_map.1 h
     rw[← zS (hn s hs).1 hnorm.1 e];exact hs
    ·exact fun h=>List.mem_map_of_mem h
   rw[bH hstart]
   refine aup hf hs60 d (i+1) _ (by omega) ?_ ?_ ?_ ?_
   ·intro s hs
    rw[htk]at hs
    rcases List.mem_append.1 hs with h | h
    ·exact hn s h
    ·simp at h;subst h;exact hnorm
   ·intro a
    rw[adO,hk,htk,List.map_append,List.mem_append];simp
   ·rw[uf];split <;> omega
   ·rw[uf,htk,ahu]
    by_cases hin:p.Sets[i]∈p.Sets.take i
    ·rw[if_pos (hmem.2 hin)]
     exact ⟨fun h=>by omega,fun h=>absurd hin h.2⟩
    ·rw[if_neg (fun h=>hin (hmem.1 h))]
     constructor
     ·exact fun h=>⟨hd.1 (by omega),hin⟩
     ·exact fun h=>by have:=hd.2 h.1;omega
  ·have hb:adW p.Sets[i]=false:=by rw[Bool.eq_false_iff];exact fun h=>hnorm (np.1 h)
   rw[hb,if_pos (by simp)]at hstart
   rw[if_neg (fun h=>hnorm (h _ (List.getElem_mem hi)))]
   exact cM hstart
open Classical in
open Classical in
open Classical in
theorem afG {p:bP} (hf:FewP p):bg p=some (decide (gC p)):=by
 unfold bg
 by_cases hc:p.Sets.length≤60∧p.Rules.length≤64
 ·obtain ⟨h60,h64⟩:=hc
  rw[if_neg (by simp;omega)]
  have h1:=aup hf h60 p.Sets.length 0 [] (by omega) (by simp) (by simp) (by simp) (by simp)
  have e0:(((0:Nat):Int),([]:List (Str×Bool)))=((0:Int),[]):=rfl
  rw[e0]at h1
  by_cases hn:∀ s∈p.Sets,Norm s
  ·rw[if_pos hn]at h1
   rw[h1]
   by_cases hd:p.Sets.Nodup
   ·congr 1
    rw[Bool.eq_iff_iff]
    simp only[Bool.and_eq_true,decide_eq_true_eq]
    exact ⟨fun h=>⟨h60,h64,hn,h.1,h.2⟩,fun h=>⟨h.2.2.2.1,h.2.2.2.2⟩⟩
   ·have hR:¬ gC p:=fun h=>hd h.2.2.2.1
    rw[decide_eq_false hR,decide_eq_false hd]
    rfl
  ·have hR:¬ gC p:=fun h=>hn h.2.2.1
   rw[if_neg hn]at h1
   rw[h1,decide_eq_false hR]
 ·have hR:¬ gC p:=fun h=>hc ⟨h.1,h.2.1⟩
  rw[if_pos (by simp;omega),decide_eq_false hR]
end
end Go.Val

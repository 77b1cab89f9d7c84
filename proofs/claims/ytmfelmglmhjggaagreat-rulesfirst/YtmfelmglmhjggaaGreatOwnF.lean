/- A value semantics of the model's programs, sound against it, and functions read off the given program with the proofs that it runs so; no condition. -/
import Derived.Test.YtmfelmglmhjggaaGreatOwnC
import Derived.Test.YtmfelmglmhjggaaGreatOwnD
import Derived.Test.YtmfelmglmhjggaaGreatOwnE
import Derived.Sort.AssemblyPlain
set_option linter.all false
set_option linter.unnecessarySimpa false
set_option linter.unusedVariables false
set_option linter.unusedSimpArgs false
namespace Go.Val
set_option maxRecDepth 20000
open Go.Proofs
theorem qO (d:fa) {h:ax} {a:(fa×Int)} (e:bC d=some a):
  cp CT 89 [.cv (.val (.agg [.sl (List.map (eL eI) d.Next),.sl (List.map eB d.Final)]))] h fun o h'=>o=[.cv (.val (.agg [.sl (List.map (eL eI) a.1.Next),.sl (List.map eB a.1.Final)])),.cv (.val (.int .i64 a.2))]∧h'=h:=by
 refine bv Tryz.func89 fun hwf hu=>?_
 obtain ⟨D,hD,hr⟩:=Holds.one e
 dsimp only[bC]at hr
 change aR _ _ _ _ _ ⟨[(0,.cv (.val (.agg [.sl (List.map (eL eI) d.Next),.sl (List.map eB d.Final)])))],h.on []⟩
 refine A_s ?_
 refine aj ?_
 refine aj ?_
 refine bE ?_
 refine aw 1 ?_
 obtain ⟨r,eF1,hr⟩:=hr.bind
 refine be (out:=?o_eF1) (hp:=?p_eF1) ?c_eF1 ?d_eF1 ?_
 case c_eF1=>exact pK d eF1
 case d_eF1=>rfl
 refine ae ?_
 refine w_n ?_
 refine au hr (fun cF2 hr=>?_) (fun cF2 hr=>?_)
 ·refine aj ?_
  refine ah ?_
  refine w_n ?_
  refine bu ?_
  obtain rfl:=hD _ hr
  exact (cw (fq (ai (os':=[none,some (.cells [.val (.sl (List.map (eL eI) ([]:List (List Int)))),.val (.sl (List.map eB ([]:List Bool)))])]) (sl:=[(2,.cv (.val (.ptr (some (h.n+1,0))))),(3,.cv (.val (.int .i64 (1:Int))))]) hwf) (by simp (disch:=(apply bJ.mk;decide)) only[go_sem,Nat.reduceAdd,Nat.reduceLT,Nat.reduceMul,Nat.reduceLeDiff,Int.reduceToNat,Int.reduceLT,Int.reduceLE,Tryz.results89,af uo,dV,eT.eq_2,df,cF2]) (Drops.on (os:=[none,some (.cells [.val (.sl (List.map (eL eI) ([]:List (List Int)))),.val (.sl (List.map eB ([]:List Bool)))])]) (os':=[]) hwf (Nat.le_refl _) (by simp (disch:=(apply bJ.mk;decide)) only[go_sem,Nat.reduceAdd,Nat.reduceLT,Nat.reduceMul,Nat.reduceLeDiff,Int.reduceToNat,Int.reduceLT,Int.reduceLE,cF2])) ⟨rfl,aK hwf⟩))
 ·refine aL ?_
  refine w_n ?_
  refine aj ?_
  refine bE ?_
  refine aw 1 ?_
  obtain ⟨r1,eF3,hr⟩:=hr.bind
  refine be (out:=?o_eF3) (hp:=?p_eF3) ?c_eF3 ?d_eF3 ?_
  case c_eF3=>exact oS d eF3
  case d_eF3=>rfl
  refine ae ?_
  refine w_n ?_
  iterate 4 refine A_s ?_
  refine aj ?_
  refine sO (s1:=⟨[(1,.cv (.val (.ptr (some (h.n+0,0))))),(2,.cv (.val (.ptr (some (h.n+1,0))))),(6,.cv (.val (.ptr (some (h.n+5,0))))),(7,.cv (.val (.fn 164 [] [.ptr (some (h.n+4,0)),.ptr (some (h.n+2,0)),.ptr (some (h.n+5,0))]))),(8,.cv (.val (.ptr (some (h.n+6,0)))))],h.on [some (.cells [.val (.sl (List.map (eL eI) d.Next)),.val (.sl (List.map eB d.Final))]),some (.cells [.nil,.nil]),some (.cells [.val (.sl (List.map eI r1))]),some (.map 3 (eZ eI eI [])),some (.cells [.val (.map (some (h.n+3)))]),some (.cells [.row 3 (List.map eI [])]),some (.cells [.nil,.nil])]⟩) (ai hwf) ?_
  refine bE ?_
  refine aw 1 ?_
  obtain ⟨r2,eF4,hr⟩:=hr.bind
  refine be (out:=?o_eF4) (hp:=?p_eF4) ?c_eF4 ?d_eF4 ?_
  case c_eF4=>(refine jW (0:Int) [] r1 [] (h.n+4) (h.n+3) (h.n+2) (h.n+5) ?_ ?_ ?_ ?_ ?_ ?_ ?_ ?_ ?_ ?_ eF4;(simp (disch:=(apply bJ.mk;decide)) only[go_sem,Nat.reduceAdd,Nat.reduceLT,Nat.reduceMul,Nat.reduceLeDiff,Int.reduceToNat,Int.reduceLT,Int.reduceLE]);(simp (disch:=(apply bJ.mk;decide)) only[go_sem,Nat.reduceAdd,Nat.reduceLT,Nat.reduceMul,Nat.reduceLeDiff,Int.reduceToNat,Int.reduceLT,Int.reduceLE]);(simp (disch:=(apply bJ.mk;decide)) only[go_sem,Nat.reduceAdd,Nat.reduceLT,Nat.reduceMul,Nat.reduceLeDiff,Int.reduceToNat,Int.reduceLT,Int.reduceLE]);(simp (disch:=(apply bJ.mk;decide)) only[go_sem,Nat.reduceAdd,Nat.reduceLT,Nat.reduceMul,Nat.reduceLeDiff,Int.reduceToNat,Int.reduceLT,Int.reduceLE]);(first | omega | assumption | exact Ne.symm (by assumption));(first | omega | assumption | exact Ne.symm (by assumption));(first | omega | assumption | exact Ne.symm (by assumption));(first | omega | assumption | exact Ne.symm (by assumption));(first | omega | assumption | exact Ne.symm (by assumption));(first | omega | assumption | exact Ne.symm (by assumption)))
  case d_eF4=>rfl
  refine de ?_
  refine w_n ?_
  refine aj ?_
  refine A_s ?_
  refine w_K (D:=D) (fun xX:(List (List Int)×List Bool)=>⟨[(2,.cv (.val (.ptr (some (h.n+1,0))))),(8,.cv (.val (.ptr (some (h.n+6,0)))))],h.on [none,some (.cells [.nil,.nil]),none,none,none,none,some (.cells [.row 26 (List.map (eL eI) xX.1),.row 4 (List.map eB xX.2)])]⟩) (fun xX:(List (List Int)×List Bool)=>bC.k1 xX.1 xX.2) (fun xX s' hr ht=>?_) ?_
  ·obtain ⟨Next,Final⟩:=xX
   dsimp only[bC.k1]at hr ht
   refine (eO ht ?_)
   refine aj ?_
   refine sO (.fix _ _ (.cell (h.n+6) 0) 26 _ (by simp (disch:=(apply bJ.mk;decide)) only[go_sem,Nat.reduceAdd,Nat.reduceLT,Nat.reduceMul,Nat.reduceLeDiff,Int.reduceToNat,Int.reduceLT,Int.reduceLE,cF2];rfl) (.refl _)) ?_
   refine sO (.fix _ _ (.cell (h.n+6) 1) 4 _ (by simp (disch:=(apply bJ.mk;decide)) only[go_sem,Nat.reduceAdd,Nat.reduceLT,Nat.reduceMul,Nat.reduceLeDiff,Int.reduceToNat,Int.reduceLT,Int.reduceLE,cF2];rfl) (.refl _)) ?_
   refine ah ?_
   refine w_n ?_
   refine bu ?_
   obtain rfl:=hD _ hr
   exact (fq (ai (os':=[none,some (.cells [.val (.sl (List.map (eL eI) (fa.mk Next Final).Next)),.val (.sl (List.map eB (fa.mk Next Final).Final))])]) (sl:=[(2,.cv (.val (.ptr (some (h.n+1,0))))),(3,.cv (.val (.int .i64 (0:Int))))]) hwf) (by simp (disch:=(apply bJ.mk;decide)) only[go_sem,Nat.reduceAdd,Nat.reduceLT,Nat.reduceMul,Nat.reduceLeDiff,Int.reduceToNat,Int.reduceLT,Int.reduceLE,Tryz.results89,af uo,dV,eT.eq_2,df,cF2]) (Drops.on (os:=[none,some (.cells [.val (.sl (List.map (eL eI) (fa.mk Next Final).Next)),.val (.sl (List.map eB (fa.mk Next Final).Final))])]) (os':=[]) hwf (Nat.le_refl _) (by simp (disch:=(apply bJ.mk;decide)) only[go_sem,Nat.reduceAdd,Nat.reduceLT,Nat.reduceMul,Nat.reduceLeDiff,Int.reduceToNat,Int.reduceLT,Int.reduceLE,cF2])) ⟨rfl,aK hwf⟩)
  ·refine aI ?_
   refine cI (fun xX:(Int×List (Int×Int)×List Int×List (List Int)×List Bool)=>⟨[(1,.cv (.val (.ptr (some (h.n+0,0))))),(2,.cv (.val (.ptr (some (h.n+1,0))))),(6,.cv (.val (.ptr (some (h.n+5,0))))),(7,.cv (.val (.fn 164 [] [.ptr (some (h.n+4,0)),.ptr (some (h.n+2,0)),.ptr (some (h.n+5,0))]))),(8,.cv (.val (.ptr (some (h.n+6,0))))),(9,.cv (.val (.int .i64 xX.1)))],h.on [some (.cells [.val (.sl (List.map (eL eI) d.Next)),.val (.sl (List.map eB d.Final))]),some (.cells [.nil,.nil]),some (.cells [.val (.sl (List.map eI r1))]),some (.map 3 (eZ eI eI xX.2.1)),some (.cells [.val (.map (some (h.n+3)))]),some (.cells [.row 3 (List.map eI xX.2.2.1)]),some (.cells [.row 26 (List.map (eL eI) xX.2.2.2.1),.row 4 (List.map eB xX.2.2.2.2)])]⟩) hr (ai hwf) (fun W1 xX hr=>?_)
   obtain ⟨i,m,v,Next1,Final1⟩:=xX
   dsimp only[bC.b1]at hr
   refine aj ?_
   refine A_s ?_
   refine au hr (fun cF5 hr=>?_) (fun cF5 hr=>?_)
   ·refine aL ?_
    refine w_n ?_
    refine aj ?_
    refine w_K (D:=(Aft W1 D)) (fun xX:(List (Int×Int)×List Int×List (List Int)×List Bool)=>⟨[(1,.cv (.val (.ptr (some (h.n+0,0))))),(2,.cv (.val (.ptr (some (h.n+1,0))))),(6,.cv (.val (.ptr (some (h.n+5,0))))),(7,.cv (.val (.fn 164 [] [.ptr (some (h.n+4,0)),.ptr (some (h.n+2,0)),.ptr (some (h.n+5,0))]))),(8,.cv (.val (.ptr (some (h.n+6,0))))),(9,.cv (.val (.int .i64 i)))],h.on [some (.cells [.val (.sl (List.map (eL eI) d.Next)),.val (.sl (List.map eB d.Final))]),some (.cells [.nil,.nil]),some (.cells [.val (.sl (List.map eI r1))]),some (.map 3 (eZ eI eI xX.1)),some (.cells [.val (.map (some (h.n+3)))]),some (.cells [.row 3 (List.map eI xX.2.1)]),some (.cells [.row 26 (List.map (eL eI) xX.2.2.1),.row 4 (List.map eB xX.2.2.2)])]⟩) (fun xX:(List (Int×Int)×List Int×List (List Int)×List Bool)=>bC.k2 i xX.1 xX.2.1 xX.2.2.1 xX.2.2.2) (fun xX s' hr ht=>?_) ?_
    ·obtain ⟨m1,v1,Next2,Final2⟩:=xX
     dsimp only[bC.k2]at hr ht
     refine (eO ht ?_)
     refine ah ?_
     exact (w_k ⟨((IntKind.i64.wrap (i+(1:Int))),m1,v1,Next2,Final2),hr,(ai hwf)⟩)
    ·refine aI ?_
     refine A_s ?_
     refine aj ?_
     refine aj ?_
     refine cW [0,1,2,3,4,5,6,7,8,9] (by rfl) ?_
     obtain ⟨n,nF6,eF7,gF8,hr⟩:=hr.idx
     obtain ⟨xs,nF9,eF10,gF11,hr⟩:=hr.idx
     refine bV [0,1,2,3,4,5,6,7,8,9] [9,8,7,6,5,4,3,2,1,0] ?_
     refine dw ?_
     refine w_n ?_
     refine w_K (D:=(Aft W1 D)) (fun xX:(List Int×List (Int×Int)×List Int)=>⟨[(1,.cv (.val (.ptr (some (h.n+0,0))))),(2,.cv (.val (.ptr (some (h.n+1,0))))),(6,.cv (.val (.ptr (some (h.n+5,0))))),(7,.cv (.val (.fn 164 [] [.ptr (some (h.n+4,0)),.ptr (some (h.n+2,0)),.ptr (some (h.n+5,0))]))),(8,.cv (.val (.ptr (some (h.n+6,0))))),(9,.cv (.val (.int .i64 i))),(10,.cv (.row 3 (List.map eI xX.1)))],h.on [some (.cells [.val (.sl (List.map (eL eI) d.Next)),.val (.sl (List.map eB d.Final))]),some (.cells [.nil,.nil]),some (.cells [.val (.sl (List.map eI r1))]),some (.map 3 (eZ eI eI xX.2.1)),some (.cells [.val (.map (some (h.n+3)))]),some (.cells [.row 3 (List.map eI xX.2.2)]),some (.cells [.row 26 (List.map (eL eI) Next1),.row 4 (List.map eB Final1)])]⟩) (fun xX:(List Int×List (Int×Int)×List Int)=>bC.k3 d i Next1 Final1 xX.1 xX.2.1 xX.2.2) (fun xX s' hr ht=>?_) ?_
     ·obtain ⟨row,m2,v2⟩:=xX
      dsimp only[bC.k3]at hr ht
      refine (eO ht ?_)
      refine sO (.fix _ _ (.slot 10) 3 _ (by simp (disch:=(apply bJ.mk;decide)) only[go_sem,Nat.reduceAdd,Nat.reduceLT,Nat.reduceMul,Nat.reduceLeDiff,Int.reduceToNat,Int.reduceLT,Int.reduceLE,cF2,cF5];rfl) (.refl _)) ?_
      refine cW [0,1,2,3,5,6,7,8,9,10,11,12,13,14,15,4,17,16,18,19,20] (by rfl) ?_
      obtain ⟨n1,nF12,eF13,gF14,hr⟩:=hr.idx
      obtain ⟨b,nF15,eF16,gF17,hr⟩:=hr.idx
      obtain ⟨nF18,hr⟩:=hr.room
      obtain ⟨nF19,hr⟩:=hr.room
      refine bV [0,1,2,3,5,6,7,8,9,10,11,12,13,14,15] [15,14,13,12,11,10,9,8,7,6,5,3,2,1,0] ?_
      refine dp [15,14,13,12,11,10,9,8,7,6,5] ?_
      refine bV [17] [17,15,14,13,12,11,10,9,8,7,6,5] ?_
      refine dp [17] ?_
      refine dp [] ?_
      refine bV [19] [19] ?_
      refine dp [] ?_
      refine dw ?_
      exact (eY (w_k ⟨(m2,v2,(Next1++([row])),(Final1++([b]))),hr,(ai hwf)⟩))
     ·refine aI ?_
      refine cI (fun xX:(List Int×Int×List (Int×Int)×List Int)=>⟨[(1,.cv (.val (.ptr (some (h.n+0,0))))),(2,.cv (.val (.ptr (some (h.n+1,0))))),(6,.cv (.val (.ptr (some (h.n+5,0))))),(7,.cv (.val (.fn 164 [] [.ptr (some (h.n+4,0)),.ptr (some (h.n+2,0)),.ptr (some (h.n+5,0))]))),(8,.cv (.val (.ptr (some (h.n+6,0))))),(9,.cv (.val (.int .i64 i))),(10,.cv (.row 3 (List.map eI xX.1))),(36,.cv (.val (.sl (List.map eI xs)))),(37,.cv (.val (.int .i64 (xs.length:Int)))),(38,.cv (.val (.int .i64 xX.2.1)))],h.on [some (.cells [.val (.sl (List.map (eL eI) d.Next)),.val (.sl (List.map eB d.Final))]),some (.cells [.nil,.nil]),some (.cells [.val (.sl (List.map eI r1))]),some (.map 3 (eZ eI eI xX.2.2.1)),some (.cells [.val (.map (some (h.n+3)))]),some (.cells [.row 3 (List.map eI xX.2.2.2)]),some (.cells [.row 26 (List.map (eL eI) Next1),.row 4 (List.map eB Final1)])]⟩) hr (ai hwf) (fun W2 xX hr=>?_)
      obtain ⟨row1,v3,m3,v4⟩:=xX
      dsimp only[bC.b2]at hr
      refine A_s ?_
      refine aj ?_
      refine au hr (fun cF20 hr=>?_) (fun cF20 hr=>?_)
      ·refine aL ?_
       refine w_n ?_
       refine aj ?_
       refine aI ?_
       refine aj ?_
       obtain ⟨n2,nF21,eF22,gF23,hr⟩:=hr.idx
       refine ah ?_
       refine w_n ?_
       refine bE ?_
       refine aw 3 ?_
       obtain ⟨r3,eF24,hr⟩:=hr.bind
       refine be (out:=?o_eF24) (hp:=?p_eF24) ?c_eF24 ?d_eF24 ?_
       case c_eF24=>(refine jW n2 m3 r1 v4 (h.n+4) (h.n+3) (h.n+2) (h.n+5) ?_ ?_ ?_ ?_ ?_ ?_ ?_ ?_ ?_ ?_ eF24;(simp (disch:=(apply bJ.mk;decide)) only[go_sem,Nat.reduceAdd,Nat.reduceLT,Nat.reduceMul,Nat.reduceLeDiff,Int.reduceToNat,Int.reduceLT,Int.reduceLE]);(simp (disch:=(apply bJ.mk;decide)) only[go_sem,Nat.reduceAdd,Nat.reduceLT,Nat.reduceMul,Nat.reduceLeDiff,Int.reduceToNat,Int.reduceLT,Int.reduceLE]);(simp (disch:=(apply bJ.mk;decide)) only[go_sem,Nat.reduceAdd,Nat.reduceLT,Nat.reduceMul,Nat.reduceLeDiff,Int.reduceToNat,Int.reduceLT,Int.reduceLE]);(simp (disch:=(apply bJ.mk;decide)) only[go_sem,Nat.reduceAdd,Nat.reduceLT,Nat.reduceMul,Nat.reduceLeDiff,Int.reduceToNat,Int.reduceLT,Int.reduceLE]);(first | omega | assumption | exact Ne.symm (by assumption));(first | omega | assumption | exact Ne.symm (by assumption));(first | omega | assumption | exact Ne.symm (by assumption));(first | omega | assumption | exact Ne.symm (by assumption));(first | omega | assumption | exact Ne.symm (by assumption));(first | omega | assumption | exact Ne.symm (by assumption)))
       case d_eF24=>rfl
       obtain ⟨nF25,hr⟩:=hr.room
       refine ae ?_
       refine (eY (w_n ?_))
       refine ah ?_
       exact (w_k ⟨((row1++([r3.1])),(IntKind.i64.wrap (v3+(1:Int))),r3.2.1,r3.2.2),hr,(ai hwf)⟩)
      ·refine cG ?_
       exact (dG (dG (iy (w_k ⟨(row1,m3,v4),(hr).map,(ai hwf)⟩))))
   ·refine cG ?_
    exact (dG (dG (iy (w_k ⟨(Next1,Final1),(hr).map,(ai hwf)⟩))))
theorem ic (n:az) (masks:List Int) (limit:Int) {h:ax} {a:(fa×Int)} (e:dH n masks limit=some a):
  cp CT 36 [.cv (.val (.agg [.int .i64 n.Kind,.int .i64 n.Set,.sl (List.map bR n.Kids)])),.cv (.val (.sl (List.map (eK .u64) masks))),.cv (.val (.int .i64 limit))] h fun o h'=>o=[.cv (.val (.agg [.sl (List.map (eL eI) a.1.Next),.sl (List.map eB a.1.Final)])),.cv (.val (.int .i64 a.2))]∧h'=h:=by
 refine bv Tryz.func36 fun hwf hu=>?_
 obtain ⟨D,hD,hr⟩:=Holds.one e
 dsimp only[dH]at hr
 change aR _ _ _ _ _ ⟨[(0,.cv (.val (.agg [.int .i64 n.Kind,.int .i64 n.Set,.sl (List.map bR n.Kids)]))),(1,.cv (.val (.sl (List.map (eK .u64) masks)))),(2,.cv (.val (.int .i64 limit)))],h.on []⟩
 refine A_s ?_
 refine aj ?_
 refine bE ?_
 refine aw 1 ?_
 obtain ⟨r,eF1,hr⟩:=hr.bind
 refine be (out:=?o_eF1) (hp:=?p_eF1) ?c_eF1 ?d_eF1 ?_
 case c_eF1=>exact pG n eF1
 case d_eF1=>rfl
 refine ae ?_
 refine w_n ?_
 refine aj ?_
 refine A_s ?_
 refine au hr (fun cF2 hr=>?_) (fun cF2 hr=>?_)
 ·refine aj ?_
  refine ah ?_
  refine w_n ?_
  refine bu ?_
  obtain rfl:=hD _ hr
  exact (cw (fq (ai (os':=[none,some (.cells [.val (.sl (List.map (eL eI) ([]:List (List Int)))),.val (.sl (List.map eB ([]:List Bool)))])]) (sl:=[(6,.cv (.val (.ptr (some (h.n+1,0))))),(7,.cv (.val (.int .i64 r.2)))]) hwf) (by simp (disch:=(apply bJ.mk;decide)) only[go_sem,Nat.reduceAdd,Nat.reduceLT,Nat.reduceMul,Nat.reduceLeDiff,Int.reduceToNat,Int.reduceLT,Int.reduceLE,Tryz.results36,af pT,dV,eT.eq_2,df,cF2]) (Drops.on (os:=[none,some (.cells [.val (.sl (List.map (eL eI) ([]:List (List Int)))),.val (.sl (List.map eB ([]:List Bool)))])]) (os':=[]) hwf (Nat.le_refl _) (by simp (disch:=(apply bJ.mk;decide)) only[go_sem,Nat.reduceAdd,Nat.reduceLT,Nat.reduceMul,Nat.reduceLeDiff,Int.reduceToNat,Int.reduceLT,Int.reduceLE,cF2])) ⟨rfl,aK hwf⟩))
 ·refine aL ?_
  refine w_n ?_
  refine aj ?_
  refine bE ?_
  refine aw 3 ?_
  obtain ⟨r1,eF3,hr⟩:=hr.bind
  refine be (out:=?o_eF3) (hp:=?p_eF3) ?c_eF3 ?d_eF3 ?_
  case c_eF3=>exact qc r.1 masks true limit eF3
  case d_eF3=>rfl
  refine ae ?_
  refine w_n ?_
  refine aj ?_
  refine A_s ?_
  refine au hr (fun cF4 hr=>?_) (fun cF4 hr=>?_)
  ·refine aj ?_
   refine ah ?_
   refine w_n ?_
   refine bu ?_
   obtain rfl:=hD _ hr
   exact (cw (fq (ai (os':=[none,some (.cells [.val (.sl (List.map (eL eI) ([]:List (List Int)))),.val (.sl (List.map eB ([]:List Bool)))])]) (sl:=[(6,.cv (.val (.ptr (some (h.n+1,0))))),(7,.cv (.val (.int .i64 r1.2)))]) hwf) (by simp (disch:=(apply bJ.mk;decide)) only[go_sem,Nat.reduceAdd,Nat.reduceLT,Nat.reduceMul,Nat.reduceLeDiff,Int.reduceToNat,Int.reduceLT,Int.reduceLE,Tryz.results36,af pT,dV,eT.eq_2,df,cF2,cF4]) (Drops.on (os:=[none,some (.cells [.val (.sl (List.map (eL eI) ([]:List (List Int)))),.val (.sl (List.map eB ([]:List Bool)))])]) (os':=[]) hwf (Nat.le_refl _) (by simp (disch:=(apply bJ.mk;decide)) only[go_sem,Nat.reduceAdd,Nat.reduceLT,Nat.reduceMul,Nat.reduceLeDiff,Int.reduceToNat,Int.reduceLT,Int.reduceLE,cF2,cF4])) ⟨rfl,aK hwf⟩))
  ·refine aL ?_
   refine w_n ?_
   refine aj ?_
   refine bE ?_
   refine aw 1 ?_
   obtain ⟨r2,eF5,hr⟩:=hr.bind
   refine be (out:=?o_eF5) (hp:=?p_eF5) ?c_eF5 ?d_eF5 ?_
   case c_eF5=>exact qO r1.1 eF5
   case d_eF5=>rfl
   refine ae ?_
   refine w_n ?_
   refine bu ?_
   obtain rfl:=hD _ hr
   exact (fq (ai (os':=[none,some (.cells [.val (.sl (List.map (eL eI) r2.1.Next)),.val (.sl (List.map eB r2.1.Final))])]) (sl:=[(6,.cv (.val (.ptr (some (h.n+1,0))))),(7,.cv (.val (.int .i64 r2.2)))]) hwf) (by simp (disch:=(apply bJ.mk;decide)) only[go_sem,Nat.reduceAdd,Nat.reduceLT,Nat.reduceMul,Nat.reduceLeDiff,Int.reduceToNat,Int.reduceLT,Int.reduceLE,Tryz.results36,af pT,dV,eT.eq_2,df,cF2,cF4]) (Drops.on (os:=[none,some (.cells [.val (.sl (List.map (eL eI) r2.1.Next)),.val (.sl (List.map eB r2.1.Final))])]) (os':=[]) hwf (Nat.le_refl _) (by simp (disch:=(apply bJ.mk;decide)) only[go_sem,Nat.reduceAdd,Nat.reduceLT,Nat.reduceMul,Nat.reduceLeDiff,Int.reduceToNat,Int.reduceLT,Int.reduceLE,cF2,cF4])) ⟨rfl,aK hwf⟩)
theorem kH (t:bB) (r:Int) (l0:Nat) {h:ax} (ha0:h.at_ l0=some (.cells (bQ eU t.like++([.val (.sl (List.map (eA eU) t.first))]:List CV)))) {a:UInt8} (e:fE t r=some a):
  cp CT 153 [.cv (.val (.ptr (some (l0,0)))),.cv (.val (.int .i64 r))] h fun o h'=>o=[.cv (.val (.int .u8 (a.toNat:Int)))]∧h'=h:=by
 refine bv Tryz.func153 fun hwf hu=>?_
 have hl0:=(hwf _ _ ha0).1
 have kl0:=lQ hl0
 obtain ⟨D,hD,hr⟩:=Holds.one e
 dsimp only[fE]at hr
 change aR _ _ _ _ _ ⟨[(0,.cv (.val (.ptr (some (l0,0))))),(1,.cv (.val (.int .i64 r)))],h.on []⟩
 refine A_s ?_
 refine aj ?_
 refine cq (sj:=⟨[(0,.cv (.val (.ptr (some (l0,0))))),(1,.cv (.val (.int .i64 r))),(10,.cv (.val (.bool ((decide (r < (0:Int)))||(decide (r > (1114111:Int)))))))],h.on []⟩) (bE ?_) ?_
 ·refine aw 3 ?_
  rcases Bool.eq_false_or_eq_true (decide (r < (0:Int)))with cF1 | cF1
  ·refine ae ?_
   exact w_k (ai hwf)
  ·refine ae ?_
   exact w_k (ai hwf)
 refine au hr (fun cF2 hr=>?_) (fun cF2 hr=>?_)
 ·refine aj ?_
  refine ah ?_
  refine w_n ?_
  refine bu ?_
  obtain rfl:=hD _ hr
  exact (cw (ba (ai (os':=[]) (sl:=[(4,.cv (.val (.int .u8 (0:Int))))]) hwf) ⟨rfl,aK hwf⟩))
 ·refine aL ?_
  refine w_n ?_
  refine aj ?_
  refine cW [0,1,2,3,4,5,6,7,8,9,10,11,12,13,14,15,16] (by rfl) ?_
  obtain ⟨n,nF3,eF4,gF5,hr⟩:=hr.idx
  have qF6:(Int.toNat (IntKind.i64.wrap (Int.tdiv r (256:Int))) < 4352)=True:=eq_true (oZ eF4)
  have qF7:=tU (e:=eU) (cs:=([.val (.sl (List.map (eA eU) t.first))]:List CV)) eF4
  obtain ⟨y,nF8,eF9,gF10,hr⟩:=hr.idx
  obtain ⟨n1,nF11,eF12,gF13,hr⟩:=hr.idx
  have qF14:(Int.toNat (Int.tmod r (256:Int)) < 256)=True:=eq_true (oZ eF12)
  have qF15:=ara (e:=eU) eF12
  refine aqi (l:=[0,1,2,3,4,5,6,7,8,9,10,11,12,13,14,15]) (pend':=[15,14,13,12,11,10,9,8,7,6,5,4,3,2,1,0]) (by simp (disch:=(apply bJ.mk;decide)) only[go_sem,Nat.reduceAdd,Nat.reduceLT,Nat.reduceMul,Nat.reduceLeDiff,Int.reduceToNat,Int.reduceLT,Int.reduceLE,ha0,ez hl0,eP hl0,iQ hl0,(eq_false (by decide:¬ ((256:Int)=0))),nF3,eF4,gF5,qF6,Nat.mul_one,Nat.zero_add,qF7,nF8,eF9,gF10,nF11,eF12,gF13,qF14,qF15];rfl) rfl ?_
  refine awl (pend':=[]) rfl (by simp (disch:=(apply bJ.mk;decide)) only[go_sem,Nat.reduceAdd,Nat.reduceLT,Nat.reduceMul,Nat.reduceLeDiff,Int.reduceToNat,Int.reduceLT,Int.reduceLE,ha0,ez hl0,eP hl0,iQ hl0,(eq_false (by decide:¬ ((256:Int)=0))),nF3,eF4,gF5,qF6,Nat.mul_one,Nat.zero_add,qF7,nF8,eF9,gF10,nF11,eF12,gF13,qF14,qF15]) (by simp (disch:=(apply bJ.mk;decide)) only[go_sem,Nat.reduceAdd,Nat.reduceLT,Nat.reduceMul,Nat.reduceLeDiff,Int.reduceToNat,Int.reduceLT,Int.reduceLE,ha0,ez hl0,eP hl0,iQ hl0,(eq_false (by decide:¬ ((256:Int)=0))),nF3,eF4,gF5,qF6,Nat.mul_one,Nat.zero_add,qF7,nF8,eF9,gF10,nF11,eF12,gF13,qF14,qF15];rfl) (by rfl) ?_
  refine aqQ (by simp (disch:=(apply bJ.mk;decide)) only[go_sem,Nat.reduceAdd,Nat.reduceLT,Nat.reduceMul,Nat.reduceLeDiff,Int.reduceToNat,Int.reduceLT,Int.reduceLE,ha0,ez hl0,eP hl0,iQ hl0,(eq_false (by decide:¬ ((256:Int)=0))),nF3,eF4,gF5,qF6,Nat.mul_one,Nat.zero_add,qF7,(eq_false (by decide:¬ ((256:Int)=0))),nF8,eF9,gF10,nF11,eF12,gF13,qF14,Nat.mul_one,Nat.zero_add,qF15]) ?_
  refine w_n ?_
  refine bu ?_
  obtain rfl:=hD _ hr
  exact (ba (ai (os':=[]) (sl:=[(4,.cv (.val (.int .u8 (n1.toNat:Int))))]) hwf) ⟨rfl,aK hwf⟩)
theorem ke (a_:aH) (r:Int) (l0:Nat) (l0p0:Nat) {h:ax} (ha0:h.at_ l0=some (.cells [.val (.ptr (some (l0p0,0))),.val (.sl (List.map (eK .u64) a_.masks)),.val (.sl (List.map eI a_.least))])) (ha0p0:h.at_ l0p0=some (.cells (bQ eU a_.trie.like++([.val (.sl (List.map (eA eU) a_.trie.first))]:List CV)))) (hn0_0p0:l0≠l0p0) {a:Int} (e:dS a_ r=some a):
  cp CT 85 [.cv (.val (.ptr (some (l0,0)))),.cv (.val (.int .i64 r))] h fun o h'=>o=[.cv (.val (.int .i64 a))]∧h'=h:=by
 refine bv Tryz.func85 fun hwf hu=>?_
 have hl0:=(hwf _ _ ha0).1
 have kl0:=lQ hl0
 have hl0p0:=(hwf _ _ ha0p0).1
 have kl0p0:=lQ hl0p0
 obtain ⟨D,hD,hr⟩:=Holds.one e
 dsimp only[dS]at hr
 change aR _ _ _ _ _ ⟨[(0,.cv (.val (.ptr (some (l0,0))))),(1,.cv (.val (.int .i64 r)))],h.on []⟩
 refine A_s ?_
 refine aj ?_
 refine cq (sj:=⟨[(0,.cv (.val (.ptr (some (l0,0))))),(1,.cv (.val (.int .i64 r))),(10,.cv (.val (.bool ((decide (r < (0:Int)))||(decide (r > (1114111:Int)))))))],h.on []⟩) (bE ?_) ?_
 ·refine aw 3 ?_
  rcases Bool.eq_false_or_eq_true (decide (r < (0:Int)))with cF1 | cF1
  ·refine ae ?_
   exact w_k (ai hwf)
  ·refine ae ?_
   exact w_k (ai hwf)
 refine au hr (fun cF2 hr=>?_) (fun cF2 hr=>?_)
 ·refine aj ?_
  refine ah ?_
  refine w_n ?_
  refine bu ?_
  obtain rfl:=hD _ hr
  exact (cw (ba (ai (os':=[]) (sl:=[(4,.cv (.val (.int .i64 (-1:Int))))]) hwf) ⟨rfl,aK hwf⟩))
 ·refine aL ?_
  refine w_n ?_
  refine aj ?_
  refine bE ?_
  refine aw 5 ?_
  obtain ⟨r1,eF3,hr⟩:=hr.bind
  refine be (out:=?o_eF3) (hp:=?p_eF3) ?c_eF3 ?d_eF3 ?_
  case c_eF3=>(refine kH a_.trie r (l0p0) ?_ eF3;exact cE)
  case d_eF3=>rfl
  refine ae ?_
  refine w_n ?_
  refine bu ?_
  obtain rfl:=hD _ hr
  exact (ba (ai (os':=[]) (sl:=[(4,.cv (.val (.int .i64 (IntKind.i64.wrap (r1.toNat:Int)))))]) hwf) ⟨rfl,aK hwf⟩)
theorem jU (a_:aH) (sets:List (List ak)) (l0:Nat) (l0p0:Nat) {h:ax} (ha0:h.at_ l0=some (.cells [.val (.ptr (some (l0p0,0))),.val (.sl (List.map (eK .u64) a_.masks)),.val (.sl (List.map eI a_.least))])) (ha0p0:h.at_ l0p0=some (.cells (bQ eU a_.trie.like++([.val (.sl (List.map (eA eU) a_.trie.first))]:List CV)))) (hn0_0p0:l0≠l0p0) {a:Option bB} (e:aA a_ sets=some a):
  cp CT 33 [.cv (.val (.ptr (some (l0,0)))),.cv (.val (.sl (List.map (eL bi) sets)))] h fun o h'=>match a with | none=>o=[.cv (.val (.ptr none))]∧h'=h | some y=>o=[.cv (.val (.ptr (some (h.n+0,0))))]∧h'=h.on [some (.cells (bQ eU y.like++([.val (.sl (List.map (eA eU) y.first))]:List CV)))]:=by
 refine bv Tryz.func33 fun hwf hu=>?_
 have hl0:=(hwf _ _ ha0).1
 have kl0:=lQ hl0
 have hl0p0:=(hwf _ _ ha0p0).1
 have kl0p0:=lQ hl0p0
 obtain ⟨D,hD,hr⟩:=Holds.one e
 dsimp only[aA]at hr
 change aR _ _ _ _ _ ⟨[(0,.cv (.val (.ptr (some (l0,0))))),(1,.cv (.val (.sl (List.map (eL bi) sets))))],h.on []⟩
 iterate 2 refine A_s ?_
 refine aj ?_
 refine A_s ?_
 refine w_K (D:=D) (fun xX:List Int=>⟨[(0,.cv (.val (.ptr (some (l0,0))))),(5,.cv (.row 3 (List.map eI xX)))],h.on []⟩) (fun xX:List Int=>aA.k1 a_ xX) (fun xX s' hr ht=>?_) ?_
 ·obtain ⟨edges,rfl⟩:∃ z,z=xX:=⟨xX,rfl⟩
  dsimp only[aA.k1]at hr ht
  refine (eO ht ?_)
  refine aj ?_
  refine bE ?_
  refine aw 1 ?_
  obtain ⟨l,eF1,hr⟩:=hr.bind
  refine ajs (g:=83) (ds:=[]) (k:=3) rfl (by simp (disch:=(apply bJ.mk;decide)) only[go_sem,Nat.reduceAdd,Nat.reduceLT,Nat.reduceMul,Nat.reduceLeDiff,Int.reduceToNat,Int.reduceLT,Int.reduceLE,ha0,ez hl0,eP hl0,iQ hl0,ha0p0,ez hl0p0,eP hl0p0,iQ hl0p0,Option.getD_some] <;> rfl) rfl (by simp (disch:=(apply bJ.mk;decide)) only[go_sem,Nat.reduceAdd,Nat.reduceLT,Nat.reduceMul,Nat.reduceLeDiff,Int.reduceToNat,Int.reduceLT,Int.reduceLE,ha0,ez hl0,eP hl0,iQ hl0,ha0p0,ez hl0p0,eP hl0p0,iQ hl0p0,Option.getD_some] <;> rfl) (by simp (disch:=(apply bJ.mk;decide)) only[go_sem,Nat.reduceAdd,Nat.reduceLT,Nat.reduceMul,Nat.reduceLeDiff,Int.reduceToNat,Int.reduceLT,Int.reduceLE,ha0,ez hl0,eP hl0,iQ hl0,ha0p0,ez hl0p0,eP hl0p0,iQ hl0p0,Option.getD_some] <;> rfl) (by simp (disch:=(apply bJ.mk;decide)) only[go_sem,Nat.reduceAdd,Nat.reduceLT,Nat.reduceMul,Nat.reduceLeDiff,Int.reduceToNat,Int.reduceLT,Int.reduceLE,ha0,ez hl0,eP hl0,iQ hl0,ha0p0,ez hl0p0,eP hl0p0,iQ hl0p0,Option.getD_some] <;> rfl) (by rfl) (yt eF1) ?_
  refine de ?_
  refine w_n ?_
  refine A_s ?_
  refine aj ?_
  refine aj ?_
  refine bE ?_
  refine aw 1 ?_
  obtain ⟨r,eF2,hr⟩:=hr.bind
  refine be (out:=?o_eF2) (hp:=?p_eF2) ?c_eF2 ?d_eF2 ?_
  case c_eF2=>exact fM l eF2
  case d_eF2=>rfl
  refine ae ?_
  refine w_n ?_
  refine w_K (D:=D) (fun xX:List cQ=>⟨[(10,.cv (.row 115 (List.map iv xX)))],h.on []⟩) (fun xX:List cQ=>aA.k2 xX) (fun xX s' hr ht=>?_) ?_
  ·obtain ⟨props,rfl⟩:∃ z,z=xX:=⟨xX,rfl⟩
   dsimp only[aA.k2]at hr ht
   refine (eO ht ?_)
   refine aj ?_
   refine bE ?_
   refine aw 1 ?_
   obtain ⟨r1,eF3,hr⟩:=hr.bind
   try dsimp only at hr
   rcases xF4:r1.1 with _ | y
   ·rw[xF4]at hr
    dsimp only at hr
    refine be (out:=?o_eF3a) (hp:=?p_eF3a) ?c_eF3a ?d_eF3a ?_
    case c_eF3a=>exact jb props eF3 xF4
    case d_eF3a=>rfl
    refine ae ?_
    refine w_n ?_
    refine A_s ?_
    refine bu ?_
    obtain rfl:=hD _ hr
    exact (ba (ai (os':=[]) (sl:=[(4,.cv (.val (.ptr none)))]) hwf) ⟨rfl,aK hwf⟩)
   ·rw[xF4]at hr
    dsimp only at hr
    refine be (out:=?o_eF3b) (hp:=?p_eF3b) ?c_eF3b ?d_eF3b ?_
    case c_eF3b=>exact ja props eF3 xF4
    case d_eF3b=>rfl
    refine ae ?_
    refine w_n ?_
    refine A_s ?_
    refine bu ?_
    obtain rfl:=hD _ hr
    exact (yx (ai (os':=[some (.cells (bQ eU y.like++([.val (.sl (List.map (eA eU) y.first))]:List CV)))]) (sl:=[(4,.cv (.val (.ptr (some (h.n+0,0)))))]) hwf) cE ⟨rfl,rfl⟩)
  ·refine aI ?_
   refine cI (fun xX:(List cQ×Int)=>⟨[(0,.cv (.val (.ptr (some (l0,0))))),(10,.cv (.row 115 (List.map iv xX.1))),(41,.cv (.val (.sl (List.map eI r)))),(42,.cv (.val (.int .i64 (r.length:Int)))),(43,.cv (.val (.int .i64 xX.2)))],h.on []⟩) hr (ai hwf) (fun W1 xX hr=>?_)
   obtain ⟨props1,v⟩:=xX
   dsimp only[aA.b1]at hr
   refine A_s ?_
   refine aj ?_
   refine au hr (fun cF5 hr=>?_) (fun cF5 hr=>?_)
   ·refine aL ?_
    refine w_n ?_
    refine aj ?_
    refine w_K (D:=(Aft W1 D)) (fun xX:List cQ=>⟨[(0,.cv (.val (.ptr (some (l0,0))))),(10,.cv (.row 115 (List.map iv xX))),(41,.cv (.val (.sl (List.map eI r)))),(42,.cv (.val (.int .i64 (r.length:Int)))),(43,.cv (.val (.int .i64 v)))],h.on []⟩) (fun xX:List cQ=>aA.k3 v xX) (fun xX s' hr ht=>?_) ?_
    ·obtain ⟨props2,rfl⟩:∃ z,z=xX:=⟨xX,rfl⟩
     dsimp only[aA.k3]at hr ht
     refine (eO ht ?_)
     refine ah ?_
     exact (w_k ⟨(props2,(IntKind.i64.wrap (v+(1:Int)))),hr,(ai hwf)⟩)
    ·refine aI ?_
     refine aj ?_
     obtain ⟨n,nF6,eF7,gF8,hr⟩:=hr.idx
     refine ah ?_
     refine w_n ?_
     refine A_s ?_
     refine au hr (fun cF9 hr=>?_) (fun cF9 hr=>?_)
     ·refine bE ?_
      refine aw 4 ?_
      obtain ⟨r2,eF10,hr⟩:=hr.bind
      refine be (out:=?o_eF10) (hp:=?p_eF10) ?c_eF10 ?d_eF10 ?_
      case c_eF10=>(refine ke a_ n (l0) (l0p0) ?_ ?_ ?_ eF10;exact cE;exact cE;exact pk)
      case d_eF10=>rfl
      obtain ⟨nF11,hr⟩:=hr.room
      refine ae ?_
      exact (eY (w_k ⟨(props1++([(cQ.mk n (1114111:Int) (u8 (IntKind.u8.wrap r2)))])),hr,(ai hwf)⟩))
     ·refine aL ?_
      exact (eY (w_k ⟨props1,hr,(ai hwf)⟩))
   ·refine cG ?_
    exact (dG (dG (iy (w_k ⟨props1,(hr).map,(ai hwf)⟩))))
 ·refine aI ?_
  refine cI (fun xX:(List Int×Int)=>⟨[(0,.cv (.val (.ptr (some (l0,0))))),(5,.cv (.row 3 (List.map eI xX.1))),(16,.cv (.val (.sl (List.map (eL bi) sets)))),(17,.cv (.val (.int .i64 (sets.length:Int)))),(18,.cv (.val (.int .i64 xX.2)))],h.on []⟩) hr (ai hwf) (fun W2 xX hr=>?_)
  obtain ⟨edges1,v1⟩:=xX
  dsimp only[aA.b2]at hr
  refine A_s ?_
  refine aj ?_
  refine au hr (fun cF12 hr=>?_) (fun cF12 hr=>?_)
  ·refine aL ?_
   refine w_n ?_
   refine aj ?_
   refine w_K (D:=(Aft W2 D)) (fun xX:List Int=>⟨[(0,.cv (.val (.ptr (some (l0,0))))),(5,.cv (.row 3 (List.map eI xX))),(16,.cv (.val (.sl (List.map (eL bi) sets)))),(17,.cv (.val (.int .i64 (sets.length:Int)))),(18,.cv (.val (.int .i64 v1)))],h.on []⟩) (fun xX:List Int=>aA.k4 v1 xX) (fun xX s' hr ht=>?_) ?_
   ·obtain ⟨edges2,rfl⟩:∃ z,z=xX:=⟨xX,rfl⟩
    dsimp only[aA.k4]at hr ht
    refine (eO ht ?_)
    refine ah ?_
    exact (w_k ⟨(edges2,(IntKind.i64.wrap (v1+(1:Int)))),hr,(ai hwf)⟩)
   ·refine aI ?_
    refine aj ?_
    obtain ⟨xs,nF13,eF14,gF15,hr⟩:=hr.idx
    refine ah ?_
    refine w_n ?_
    refine A_s ?_
    refine aI ?_
    refine cI (fun xX:(List Int×Int)=>⟨[(0,.cv (.val (.ptr (some (l0,0))))),(5,.cv (.row 3 (List.map eI xX.1))),(16,.cv (.val (.sl (List.map (eL bi) sets)))),(17,.cv (.val (.int .i64 (sets.length:Int)))),(18,.cv (.val (.int .i64 v1))),(22,.cv (.val (.sl (List.map bi xs)))),(23,.cv (.val (.int .i64 (xs.length:Int)))),(24,.cv (.val (.int .i64 xX.2)))],h.on []⟩) hr (ai hwf) (fun W3 xX hr=>?_)
    obtain ⟨edges3,v2⟩:=xX
    dsimp only[aA.b3]at hr
    refine A_s ?_
    refine aj ?_
    refine au hr (fun cF16 hr=>?_) (fun cF16 hr=>?_)
    ·refine aL ?_
     refine w_n ?_
     refine aj ?_
     refine aI ?_
     refine aj ?_
     obtain ⟨x,nF17,eF18,gF19,hr⟩:=hr.idx
     refine ah ?_
     refine w_n ?_
     obtain ⟨nF20,hr⟩:=hr.room
     refine ah ?_
     refine (eY (w_n ?_))
     refine ah ?_
     exact (w_k ⟨((edges3++([x.Low,(IntKind.i64.wrap (x.High+(1:Int)))])),(IntKind.i64.wrap (v2+(1:Int)))),hr,(ai hwf)⟩)
    ·refine cG ?_
     exact (dG (dG (iy (eY (w_k ⟨edges3,(hr).map,(ai hwf)⟩)))))
  ·refine cG ?_
   exact (dG (dG (iy (w_k ⟨edges1,(hr).map,(ai hwf)⟩))))
theorem kZ (a_:aH) (sets:List (List ak)) (l0:Nat) (l0p0:Nat) {h:ax} (ha0:h.at_ l0=some (.cells [.val (.ptr (some (l0p0,0))),.val (.sl (List.map (eK .u64) a_.masks)),.val (.sl (List.map eI a_.least))])) (ha0p0:h.at_ l0p0=some (.cells (bQ eU a_.trie.like++([.val (.sl (List.map (eA eU) a_.trie.first))]:List CV)))) (hn0_0p0:l0≠l0p0) {a:Option bB} (e:aA a_ sets=some a) (hx:a=none):
  cp CT 33 [.cv (.val (.ptr (some (l0,0)))),.cv (.val (.sl (List.map (eL bi) sets)))] h fun o h'=>o=[.cv (.val (.ptr none))]∧h'=h:=by
 have:=jU (h:=h) a_ sets l0 l0p0 ha0 ha0p0 hn0_0p0 e
 subst hx
 exact this
theorem lp (a_:aH) (sets:List (List ak)) (l0:Nat) (l0p0:Nat) {h:ax} (ha0:h.at_ l0=some (.cells [.val (.ptr (some (l0p0,0))),.val (.sl (List.map (eK .u64) a_.masks)),.val (.sl (List.map eI a_.least))])) (ha0p0:h.at_ l0p0=some (.cells (bQ eU a_.trie.like++([.val (.sl (List.map (eA eU) a_.trie.first))]:List CV)))) (hn0_0p0:l0≠l0p0) {a:Option bB} {y:bB} (e:aA a_ sets=some a) (hx:a=some y):
  cp CT 33 [.cv (.val (.ptr (some (l0,0)))),.cv (.val (.sl (List.map (eL bi) sets)))] h fun o h'=>o=[.cv (.val (.ptr (some (h.n+0,0))))]∧h'=h.on [some (.cells (bQ eU y.like++([.val (.sl (List.map (eA eU) y.first))]:List CV)))]:=by
 have:=jU (h:=h) a_ sets l0 l0p0 ha0 ha0p0 hn0_0p0 e
 subst hx
 exact this
end Go.Val
namespace Go.Val
set_option maxRecDepth 20000
set_option maxHeartbeats 2000000
open Go.Proofs
theorem jO (p:aW) (limit:Int) {h:ax} {a:(Option aS×Int)} (e:ay p limit=some a):
  cp CT 11 [.cv (.val (.agg [.sl (List.map (eL bi) p.Sets),.sl (List.map fp p.Rules)])),.cv (.val (.int .i64 limit))] h fun o h'=>match a.1 with | none=>o=[.cv (.val (.ptr none)),.cv (.val (.int .i64 a.2))]∧h'=h | some y=>o=[.cv (.val (.ptr (some (h.n+4,0)))),.cv (.val (.int .i64 a.2))]∧h'=h.on [none,none,none,some (.cells (bQ eU y.trie.like++([.val (.sl (List.map (eA eU) y.trie.first))]:List CV))),some (.cells [.val (.sl (List.map bD y.rules)),.val (.ptr (some (h.n+3,0))),.val (.int .i64 y.classes)])]:=by
 refine bv Tryz.func11 fun hwf hu=>?_
 obtain ⟨D,hD,hr⟩:=Holds.one e
 dsimp only[ay]at hr
 change aR _ _ _ _ _ ⟨[(0,.cv (.val (.agg [.sl (List.map (eL bi) p.Sets),.sl (List.map fp p.Rules)]))),(1,.cv (.val (.int .i64 limit)))],h.on []⟩
 refine A_s ?_
 refine aj ?_
 obtain ⟨v,vF4,hr⟩:=hr.bind
 refine cq (sj:=⟨[(1,.cv (.val (.int .i64 limit))),(2,.cv (.val (.ptr (some (h.n+0,0))))),(24,.cv (.val (.bool v)))],h.on [some (.cells [.val (.sl (List.map (eL bi) p.Sets)),.val (.sl (List.map fp p.Rules))])]⟩) (bE ?_) ?_
 ·have hr:=Holds.intro (D:=fun z=>z=v) vF4 rfl
  refine aw 1 ?_
  obtain ⟨r,eF1,hr⟩:=hr.bind
  refine be (out:=?o_eF1) (hp:=?p_eF1) ?c_eF1 ?d_eF1 ?_
  case c_eF1=>exact pE p eF1
  case d_eF1=>rfl
  refine aw 2 ?_
  rcases hr.ite with ⟨cF2,hr⟩ | ⟨cF2,hr⟩
  ·refine ae ?_
   obtain rfl:_=v:=hr
   exact w_k (ai hwf)
  ·refine aw 4 ?_
   rcases hr.ite with ⟨cF3,hr⟩ | ⟨cF3,hr⟩
   ·refine ae ?_
    obtain rfl:_=v:=hr
    exact w_k (ai hwf)
   ·refine ae ?_
    obtain rfl:_=v:=hr
    exact w_k (ai hwf)
 refine au hr (fun cF5 hr=>?_) (fun cF5 hr=>?_)
 ·refine aj ?_
  refine ah ?_
  refine w_n ?_
  refine bu ?_
  obtain rfl:=hD _ hr
  exact (cw (ba (ai (os':=[]) (sl:=[(4,.cv (.val (.ptr none))),(5,.cv (.val (.int .i64 (1:Int))))]) hwf) ⟨rfl,aK hwf⟩))
 ·refine aL ?_
  refine w_n ?_
  refine aj ?_
  refine bE ?_
  refine aw 2 ?_
  obtain ⟨r1,eF6,hr⟩:=hr.bind
  try dsimp only at hr
  rcases xF47:r1.1 with _ | y
  ·rw[xF47]at hr
   dsimp only at hr
   refine be (out:=?o_eF6a) (hp:=?p_eF6a) ?c_eF6a ?d_eF6a ?_
   case c_eF6a=>exact lW p.Sets eF6 xF47
   case d_eF6a=>rfl
   refine ae ?_
   refine w_n ?_
   refine aj ?_
   refine A_s ?_
   refine au hr (fun cF7 hr=>?_) (fun cF7 hr=>?_)
   ·refine aj ?_
    refine ah ?_
    refine w_n ?_
    refine bu ?_
    obtain rfl:=hD _ hr
    exact (cw (ba (ai (os':=[]) (sl:=[(4,.cv (.val (.ptr none))),(5,.cv (.val (.int .i64 r1.2)))]) hwf) ⟨rfl,aK hwf⟩))
   ·refine aL ?_
    refine w_n ?_
    refine aj ?_
    exact hr.elim
  ·rw[xF47]at hr
   dsimp only at hr
   refine be (out:=?o_eF6b) (hp:=?p_eF6b) ?c_eF6b ?d_eF6b ?_
   case c_eF6b=>exact lZ p.Sets eF6 xF47
   case d_eF6b=>rfl
   refine ae ?_
   refine w_n ?_
   refine aj ?_
   refine A_s ?_
   refine au hr (fun cF8 hr=>?_) (fun cF8 hr=>?_)
   ·refine aj ?_
    refine ah ?_
    refine w_n ?_
    refine bu ?_
    obtain rfl:=hD _ hr
    exact (cw (ba (ai (os':=[]) (sl:=[(4,.cv (.val (.ptr none))),(5,.cv (.val (.int .i64 r1.2)))]) hwf) ⟨rfl,aK hwf⟩))
   ·refine aL ?_
    refine w_n ?_
    refine aj ?_
    refine bE ?_
    refine aw 3 ?_
    obtain ⟨r2,eF9,hr⟩:=hr.bind
    try dsimp only at hr
    rcases xF46:r2 with _ | y1
    ·rw[xF46]at hr
     dsimp only at hr
     refine be (out:=?o_eF9a) (hp:=?p_eF9a) ?c_eF9a ?d_eF9a ?_
     case c_eF9a=>(refine kZ y p.Sets (h.n+1) (h.n+2) ?_ ?_ ?_ eF9 xF46;exact cE;exact cE;exact pk)
     case d_eF9a=>rfl
     refine aw 1 ?_
     obtain ⟨r3,eF10,hr⟩:=hr.bind
     refine be (out:=?o_eF10) (hp:=?p_eF10) ?c_eF10 ?d_eF10 ?_
     case c_eF10=>(refine fx y (h.n+1) (h.n+2) ?_ ?_ ?_ eF10;exact cE;exact cE;exact pk)
     case d_eF10=>rfl
     refine ae ?_
     refine w_n ?_
     refine aj ?_
     refine A_s ?_
     refine w_K (D:=D) (fun xX:List bA=>⟨[(8,.cv (.val (.ptr (some (h.n+3,0)))))],h.on [none,none,none,some (.cells [.row 75 (List.map bD xX),.val (.ptr none),.val (.int .i64 r3)])]⟩) (fun xX:List bA=>ay.k1 xX) (fun xX s' hr ht=>?_) ?_
     ·obtain ⟨rules,rfl⟩:∃ z,z=xX:=⟨xX,rfl⟩
      dsimp only[ay.k1]at hr ht
      refine (eO ht ?_)
      refine A_s ?_
      refine bu ?_
      exact hr.elim
     ·refine aI ?_
      refine cI (fun xX:(Int×List bA)=>⟨[(1,.cv (.val (.int .i64 limit))),(6,.cv (.val (.ptr (some (h.n+1,0))))),(8,.cv (.val (.ptr (some (h.n+3,0))))),(43,.cv (.val (.sl (List.map fp p.Rules)))),(44,.cv (.val (.int .i64 (p.Rules.length:Int)))),(45,.cv (.val (.int .i64 xX.1)))],h.on [none,some (.cells [.val (.ptr (some (h.n+2,0))),.val (.sl (List.map (eK .u64) y.masks)),.val (.sl (List.map eI y.least))]),some (.cells (bQ eU y.trie.like++([.val (.sl (List.map (eA eU) y.trie.first))]:List CV))),some (.cells [.row 75 (List.map bD xX.2),.val (.ptr none),.val (.int .i64 r3)])]⟩) hr (ai hwf) (fun W1 xX hr=>?_)
      obtain ⟨v1,rules1⟩:=xX
      dsimp only[ay.b1]at hr
      refine A_s ?_
      refine aj ?_
      refine au hr (fun cF12 hr=>?_) (fun cF12 hr=>?_)
      ·refine aL ?_
       refine w_n ?_
       refine aj ?_
       refine w_K (D:=(Aft W1 D)) (fun xX:List bA=>⟨[(1,.cv (.val (.int .i64 limit))),(6,.cv (.val (.ptr (some (h.n+1,0))))),(8,.cv (.val (.ptr (some (h.n+3,0))))),(43,.cv (.val (.sl (List.map fp p.Rules)))),(44,.cv (.val (.int .i64 (p.Rules.length:Int)))),(45,.cv (.val (.int .i64 v1)))],h.on [none,some (.cells [.val (.ptr (some (h.n+2,0))),.val (.sl (List.map (eK .u64) y.masks)),.val (.sl (List.map eI y.least))]),some (.cells (bQ eU y.trie.like++([.val (.sl (List.map (eA eU) y.trie.first))]:List CV))),some (.cells [.row 75 (List.map bD xX),.val (.ptr none),.val (.int .i64 r3)])]⟩) (fun xX:List bA=>ay.k2 v1 xX) (fun xX s' hr ht=>?_) ?_
       ·obtain ⟨rules2,rfl⟩:∃ z,z=xX:=⟨xX,rfl⟩
        dsimp only[ay.k2]at hr ht
        refine (eO ht ?_)
        refine ah ?_
        exact (w_k ⟨((IntKind.i64.wrap (v1+(1:Int))),rules2),hr,(ai hwf)⟩)
       ·refine aI ?_
        refine aj ?_
        obtain ⟨x,nF13,eF14,gF15,hr⟩:=hr.idx
        refine ah ?_
        refine w_n ?_
        refine A_s ?_
        refine aj ?_
        refine aj ?_
        refine cW [0,1,2,3,6,4,5] (by rfl) ?_
        refine bV [0,1,2,3,6] [6,3,2,1,0] ?_
        obtain ⟨r5,eF16,hr⟩:=hr.bind
        refine dI [6,1,0] (out:=?o_eF16) (hp:=?p_eF16) ?c_eF16 ?d_eF16 ?_
        case c_eF16=>exact mc x.Right eF16
        case d_eF16=>rfl
        refine bV [5] [5,6,1,0] ?_
        refine dw ?_
        refine w_n ?_
        refine w_K (D:=(Aft W1 D)) (fun xX:(List (List Int)×List Bool×List (List Int)×List Bool)=>⟨[(1,.cv (.val (.int .i64 limit))),(6,.cv (.val (.ptr (some (h.n+1,0))))),(8,.cv (.val (.ptr (some (h.n+3,0))))),(11,.cv (.val (.ptr (some (h.n+5,0))))),(43,.cv (.val (.sl (List.map fp p.Rules)))),(44,.cv (.val (.int .i64 (p.Rules.length:Int)))),(45,.cv (.val (.int .i64 v1)))],h.on [none,some (.cells [.val (.ptr (some (h.n+2,0))),.val (.sl (List.map (eK .u64) y.masks)),.val (.sl (List.map eI y.least))]),some (.cells (bQ eU y.trie.like++([.val (.sl (List.map (eA eU) y.trie.first))]:List CV))),some (.cells [.row 75 (List.map bD rules1),.val (.ptr none),.val (.int .i64 r3)]),none,some (.cells [.val (.bool x.Break),.val (.sl (List.map (eL eI) xX.1)),.val (.sl (List.map eB xX.2.1)),.val (.sl (List.map (eL eI) xX.2.2.1)),.val (.sl (List.map eB xX.2.2.2))])]⟩) (fun xX:(List (List Int)×List Bool×List (List Int)×List Bool)=>ay.k3 v1 rules1 x xX.1 xX.2.1 xX.2.2.1 xX.2.2.2) (fun xX s' hr ht=>?_) ?_
        ·obtain ⟨Next,Final,Next1,Final1⟩:=xX
         dsimp only[ay.k3]at hr ht
         refine (eO ht ?_)
         refine cW [0,1,2,3,4,5,6,7,8,9,10] (by rfl) ?_
         obtain ⟨nF17,hr⟩:=hr.room
         refine bV [0,1,2,3,4,5,6] [6,5,4,3,2,1,0] ?_
         refine dp [0] ?_
         refine bV [8,9] [9,8,0] ?_
         refine dp [] ?_
         refine dw ?_
         exact (eY (w_k ⟨(rules1++([(bA.mk x.Break (ui.mk (fa.mk Next Final) (fa.mk Next1 Final1)))])),hr,(ai hwf)⟩))
        ·refine aI ?_
         refine pR ?_
         refine A_s ?_
         refine aj ?_
         refine jP true (fun _=>?_) (fun cF18=>by cases cF18)
         refine aL ?_
         refine w_n ?_
         refine aj ?_
         refine aI ?_
         refine A_s ?_
         refine aj ?_
         refine cW [0,1,2,4,9,3,5,6,7,8,10,11,12] (by rfl) ?_
         refine bV [0,1,2,4,9] [9,4,2,1,0] ?_
         obtain ⟨r6,eF19,hr⟩:=hr.bind
         refine dI [9,4,1,0] (out:=?o_eF19) (hp:=?p_eF19) ?c_eF19 ?d_eF19 ?_
         case c_eF19=>(refine dy y (h.n+1) (h.n+2) ?_ ?_ ?_ eF19;exact cE;exact cE;exact pk)
         case d_eF19=>rfl
         obtain ⟨r7,eF20,hr⟩:=hr.bind
         refine dI [9,0] (out:=?o_eF20) (hp:=?p_eF20) ?c_eF20 ?d_eF20 ?_
         case c_eF20=>exact ic ((lG.mk x.Left r5).v0) r6 limit eF20
         case d_eF20=>rfl
         refine bV [6,7,8,10] [10,8,7,6,9,0] ?_
         refine dp [8] ?_
         refine dp [] ?_
         refine dw ?_
         refine w_n ?_
         refine A_s ?_
         refine au hr (fun cF21 hr=>?_) (fun cF21 hr=>?_)
         ·refine aj ?_
          refine ah ?_
          refine w_n ?_
          refine bu ?_
          obtain rfl:=hD _ hr
          exact (fQ (cw (cw (fQ (cw (cw (fQ (cw (cw (cw (fQ (cw (cw (ba (ai (os':=[]) (sl:=[(4,.cv (.val (.ptr none))),(5,.cv (.val (.int .i64 r7.2)))]) hwf) ⟨rfl,aK hwf⟩))))))))))))))
         ·refine aL ?_
          refine (eY (w_n ?_))
          have qF22:IntKind.i64.wrap ((0:Int)+(1:Int))=(1:Int):=by decide
          refine ah ?_
          refine (w_k ?_)
          refine pR ?_
          refine A_s ?_
          refine aj ?_
          refine jP true (fun _=>?_) (fun cF23=>by cases cF23)
          refine aL ?_
          refine w_n ?_
          refine aj ?_
          refine aI ?_
          refine A_s ?_
          refine aj ?_
          refine cW [0,1,2,4,9,3,5,6,7,8,10,11,12] (by rfl) ?_
          refine bV [0,1,2,4,9] [9,4,2,1,0] ?_
          obtain ⟨r8,eF24,hr⟩:=hr.bind
          refine dI [9,4,1,0] (out:=?o_eF24) (hp:=?p_eF24) ?c_eF24 ?d_eF24 ?_
          case c_eF24=>(refine dy y (h.n+1) (h.n+2) ?_ ?_ ?_ eF24;exact cE;exact cE;exact pk)
          case d_eF24=>rfl
          obtain ⟨r9,eF25,hr⟩:=hr.bind
          refine dI [9,0] (out:=?o_eF25) (hp:=?p_eF25) ?c_eF25 ?d_eF25 ?_
          case c_eF25=>exact ic ((lG.mk x.Left r5).v1) r8 limit eF25
          case d_eF25=>rfl
          refine bV [6,7,8,10] [10,8,7,6,9,0] ?_
          refine dp [8] ?_
          refine dp [] ?_
          refine dw ?_
          refine w_n ?_
          refine A_s ?_
          refine au hr (fun cF26 hr=>?_) (fun cF26 hr=>?_)
          ·refine aj ?_
           refine ah ?_
           refine w_n ?_
           refine bu ?_
           obtain rfl:=hD _ hr
           exact (fQ (cw (cw (fQ (cw (cw (fQ (cw (cw (cw (fQ (cw (cw (ba (ai (os':=[]) (sl:=[(4,.cv (.val (.ptr none))),(5,.cv (.val (.int .i64 r9.2)))]) hwf) ⟨rfl,aK hwf⟩))))))))))))))
          ·refine aL ?_
           refine (eY (w_n ?_))
           have qF27:IntKind.i64.wrap ((1:Int)+(1:Int))=(2:Int):=by decide
           refine ah ?_
           refine (w_k ?_)
           refine pR ?_
           refine A_s ?_
           refine aj ?_
           refine jP false (fun cF28=>by cases cF28) (fun _=>?_)
           refine cG ?_
           exact (dG (dG (iy (w_k ⟨(r7.1.Next,r7.1.Final,r9.1.Next,r9.1.Final),hr,(ai hwf)⟩))))
      ·refine cG ?_
       exact (dG (dG (iy (w_k ⟨rules1,(hr).map,(ai hwf)⟩))))
    ·rw[xF46]at hr
     dsimp only at hr
     refine be (out:=?o_eF9b) (hp:=?p_eF9b) ?c_eF9b ?d_eF9b ?_
     case c_eF9b=>(refine lp y p.Sets (h.n+1) (h.n+2) ?_ ?_ ?_ eF9 xF46;exact cE;exact cE;exact pk)
     case d_eF9b=>rfl
     refine aw 1 ?_
     obtain ⟨r4,eF11,hr⟩:=hr.bind
     refine be (out:=?o_eF11) (hp:=?p_eF11) ?c_eF11 ?d_eF11 ?_
     case c_eF11=>(refine fx y (h.n+1) (h.n+2) ?_ ?_ ?_ eF11;exact cE;exact cE;exact pk)
     case d_eF11=>rfl
     refine ae ?_
     refine w_n ?_
     refine aj ?_
     refine A_s ?_
     refine w_K (D:=D) (fun xX:List bA=>⟨[(8,.cv (.val (.ptr (some (h.n+4,0)))))],h.on [none,none,none,some (.cells (bQ eU y1.like++([.val (.sl (List.map (eA eU) y1.first))]:List CV))),some (.cells [.row 75 (List.map bD xX),.val (.ptr (some (h.n+3,0))),.val (.int .i64 r4)])]⟩) (fun xX:List bA=>ay.k4 y1 r4 xX) (fun xX s' hr ht=>?_) ?_
     ·obtain ⟨rules3,rfl⟩:∃ z,z=xX:=⟨xX,rfl⟩
      dsimp only[ay.k4]at hr ht
      refine (eO ht ?_)
      refine A_s ?_
      refine bu ?_
      obtain rfl:=hD _ hr
      exact (yx (.fix _ _ (.cell (h.n+4) 0) 75 _ pw (ai (os':=[none,none,none,some (.cells (bQ eU y1.like++([.val (.sl (List.map (eA eU) y1.first))]:List CV))),some (.cells [.val (.sl (List.map bD rules3)),.val (.ptr (some (h.n+3,0))),.val (.int .i64 r4)])]) (sl:=[(4,.cv (.val (.ptr (some (h.n+4,0))))),(5,.cv (.val (.int .i64 (0:Int))))]) hwf)) cE ⟨rfl,rfl⟩)
     ·refine aI ?_
      refine cI (fun xX:(Int×List bA)=>⟨[(1,.cv (.val (.int .i64 limit))),(6,.cv (.val (.ptr (some (h.n+1,0))))),(8,.cv (.val (.ptr (some (h.n+4,0))))),(43,.cv (.val (.sl (List.map fp p.Rules)))),(44,.cv (.val (.int .i64 (p.Rules.length:Int)))),(45,.cv (.val (.int .i64 xX.1)))],h.on [none,some (.cells [.val (.ptr (some (h.n+2,0))),.val (.sl (List.map (eK .u64) y.masks)),.val (.sl (List.map eI y.least))]),some (.cells (bQ eU y.trie.like++([.val (.sl (List.map (eA eU) y.trie.first))]:List CV))),some (.cells (bQ eU y1.like++([.val (.sl (List.map (eA eU) y1.first))]:List CV))),some (.cells [.row 75 (List.map bD xX.2),.val (.ptr (some (h.n+3,0))),.val (.int .i64 r4)])]⟩) hr (ai hwf) (fun W2 xX hr=>?_)
      obtain ⟨v2,rules4⟩:=xX
      dsimp only[ay.b2]at hr
      refine A_s ?_
      refine aj ?_
      refine au hr (fun cF29 hr=>?_) (fun cF29 hr=>?_)
      ·refine aL ?_
       refine w_n ?_
       refine aj ?_
       refine w_K (D:=(Aft W2 D)) (fun xX:List bA=>⟨[(1,.cv (.val (.int .i64 limit))),(6,.cv (.val (.ptr (some (h.n+1,0))))),(8,.cv (.val (.ptr (some (h.n+4,0))))),(43,.cv (.val (.sl (List.map fp p.Rules)))),(44,.cv (.val (.int .i64 (p.Rules.length:Int)))),(45,.cv (.val (.int .i64 v2)))],h.on [none,some (.cells [.val (.ptr (some (h.n+2,0))),.val (.sl (List.map (eK .u64) y.masks)),.val (.sl (List.map eI y.least))]),some (.cells (bQ eU y.trie.like++([.val (.sl (List.map (eA eU) y.trie.first))]:List CV))),some (.cells (bQ eU y1.like++([.val (.sl (List.map (eA eU) y1.first))]:List CV))),some (.cells [.row 75 (List.map bD xX),.val (.ptr (some (h.n+3,0))),.val (.int .i64 r4)])]⟩) (fun xX:List bA=>ay.k5 v2 xX) (fun xX s' hr ht=>?_) ?_
       ·obtain ⟨rules5,rfl⟩:∃ z,z=xX:=⟨xX,rfl⟩
        dsimp only[ay.k5]at hr ht
        refine (eO ht ?_)
        refine ah ?_
        exact (w_k ⟨((IntKind.i64.wrap (v2+(1:Int))),rules5),hr,(ai hwf)⟩)
       ·refine aI ?_
        refine aj ?_
        obtain ⟨x1,nF30,eF31,gF32,hr⟩:=hr.idx
        refine ah ?_
        refine w_n ?_
        refine A_s ?_
        refine aj ?_
        refine aj ?_
        refine cW [0,1,2,3,6,4,5] (by rfl) ?_
        refine bV [0,1,2,3,6] [6,3,2,1,0] ?_
        obtain ⟨r10,eF33,hr⟩:=hr.bind
        refine dI [6,1,0] (out:=?o_eF33) (hp:=?p_eF33) ?c_eF33 ?d_eF33 ?_
        case c_eF33=>exact mc x1.Right eF33
        case d_eF33=>rfl
        refine bV [5] [5,6,1,0] ?_
        refine dw ?_
        refine w_n ?_
        refine w_K (D:=(Aft W2 D)) (fun xX:(List (List Int)×List Bool×List (List Int)×List Bool)=>⟨[(1,.cv (.val (.int .i64 limit))),(6,.cv (.val (.ptr (some (h.n+1,0))))),(8,.cv (.val (.ptr (some (h.n+4,0))))),(11,.cv (.val (.ptr (some (h.n+6,0))))),(43,.cv (.val (.sl (List.map fp p.Rules)))),(44,.cv (.val (.int .i64 (p.Rules.length:Int)))),(45,.cv (.val (.int .i64 v2)))],h.on [none,some (.cells [.val (.ptr (some (h.n+2,0))),.val (.sl (List.map (eK .u64) y.masks)),.val (.sl (List.map eI y.least))]),some (.cells (bQ eU y.trie.like++([.val (.sl (List.map (eA eU) y.trie.first))]:List CV))),some (.cells (bQ eU y1.like++([.val (.sl (List.map (eA eU) y1.first))]:List CV))),some (.cells [.row 75 (List.map bD rules4),.val (.ptr (some (h.n+3,0))),.val (.int .i64 r4)]),none,some (.cells [.val (.bool x1.Break),.val (.sl (List.map (eL eI) xX.1)),.val (.sl (List.map eB xX.2.1)),.val (.sl (List.map (eL eI) xX.2.2.1)),.val (.sl (List.map eB xX.2.2.2))])]⟩) (fun xX:(List (List Int)×List Bool×List (List Int)×List Bool)=>ay.k6 v2 rules4 x1 xX.1 xX.2.1 xX.2.2.1 xX.2.2.2) (fun xX s' hr ht=>?_) ?_
        ·obtain ⟨Next2,Final2,Next3,Final3⟩:=xX
         dsimp only[ay.k6]at hr ht
         refine (eO ht ?_)
         refine cW [0,1,2,3,4,5,6,7,8,9,10] (by rfl) ?_
         obtain ⟨nF34,hr⟩:=hr.room
         refine bV [0,1,2,3,4,5,6] [6,5,4,3,2,1,0] ?_
         refine dp [0] ?_
         refine bV [8,9] [9,8,0] ?_
         refine dp [] ?_
         refine dw ?_
         exact (eY (w_k ⟨(rules4++([(bA.mk x1.Break (ui.mk (fa.mk Next2 Final2) (fa.mk Next3 Final3)))])),hr,(ai hwf)⟩))
        ·refine aI ?_
         refine pR ?_
         refine A_s ?_
         refine aj ?_
         refine jP true (fun _=>?_) (fun cF35=>by cases cF35)
         refine aL ?_
         refine w_n ?_
         refine aj ?_
         refine aI ?_
         refine A_s ?_
         refine aj ?_
         refine cW [0,1,2,4,9,3,5,6,7,8,10,11,12] (by rfl) ?_
         refine bV [0,1,2,4,9] [9,4,2,1,0] ?_
         obtain ⟨r11,eF36,hr⟩:=hr.bind
         refine dI [9,4,1,0] (out:=?o_eF36) (hp:=?p_eF36) ?c_eF36 ?d_eF36 ?_
         case c_eF36=>(refine dy y (h.n+1) (h.n+2) ?_ ?_ ?_ eF36;exact cE;exact cE;exact pk)
         case d_eF36=>rfl
         obtain ⟨r12,eF37,hr⟩:=hr.bind
         refine dI [9,0] (out:=?o_eF37) (hp:=?p_eF37) ?c_eF37 ?d_eF37 ?_
         case c_eF37=>exact ic ((lG.mk x1.Left r10).v0) r11 limit eF37
         case d_eF37=>rfl
         refine bV [6,7,8,10] [10,8,7,6,9,0] ?_
         refine dp [8] ?_
         refine dp [] ?_
         refine dw ?_
         refine w_n ?_
         refine A_s ?_
         refine au hr (fun cF38 hr=>?_) (fun cF38 hr=>?_)
         ·refine aj ?_
          refine ah ?_
          refine w_n ?_
          refine bu ?_
          obtain rfl:=hD _ hr
          exact (fQ (cw (cw (fQ (cw (cw (fQ (cw (cw (cw (fQ (cw (cw (ba (ai (os':=[]) (sl:=[(4,.cv (.val (.ptr none))),(5,.cv (.val (.int .i64 r12.2)))]) hwf) ⟨rfl,aK hwf⟩))))))))))))))
         ·refine aL ?_
          refine (eY (w_n ?_))
          have qF39:IntKind.i64.wrap ((0:Int)+(1:Int))=(1:Int):=by decide
          refine ah ?_
          refine (w_k ?_)
          refine pR ?_
          refine A_s ?_
          refine aj ?_
          refine jP true (fun _=>?_) (fun cF40=>by cases cF40)
          refine aL ?_
          refine w_n ?_
          refine aj ?_
          refine aI ?_
          refine A_s ?_
          refine aj ?_
          refine cW [0,1,2,4,9,3,5,6,7,8,10,11,12] (by rfl) ?_
          refine bV [0,1,2,4,9] [9,4,2,1,0] ?_
          obtain ⟨r13,eF41,hr⟩:=hr.bind
          refine dI [9,4,1,0] (out:=?o_eF41) (hp:=?p_eF41) ?c_eF41 ?d_eF41 ?_
          case c_eF41=>(refine dy y (h.n+1) (h.n+2) ?_ ?_ ?_ eF41;exact cE;exact cE;exact pk)
          case d_eF41=>rfl
          obtain ⟨r14,eF42,hr⟩:=hr.bind
          refine dI [9,0] (out:=?o_eF42) (hp:=?p_eF42) ?c_eF42 ?d_eF42 ?_
          case c_eF42=>exact ic ((lG.mk x1.Left r10).v1) r13 limit eF42
          case d_eF42=>rfl
          refine bV [6,7,8,10] [10,8,7,6,9,0] ?_
          refine dp [8] ?_
          refine dp [] ?_
          refine dw ?_
          refine w_n ?_
          refine A_s ?_
          refine au hr (fun cF43 hr=>?_) (fun cF43 hr=>?_)
          ·refine aj ?_
           refine ah ?_
           refine w_n ?_
           refine bu ?_
           obtain rfl:=hD _ hr
           exact (fQ (cw (cw (fQ (cw (cw (fQ (cw (cw (cw (fQ (cw (cw (ba (ai (os':=[]) (sl:=[(4,.cv (.val (.ptr none))),(5,.cv (.val (.int .i64 r14.2)))]) hwf) ⟨rfl,aK hwf⟩))))))))))))))
          ·refine aL ?_
           refine (eY (w_n ?_))
           have qF44:IntKind.i64.wrap ((1:Int)+(1:Int))=(2:Int):=by decide
           refine ah ?_
           refine (w_k ?_)
           refine pR ?_
           refine A_s ?_
           refine aj ?_
           refine jP false (fun cF45=>by cases cF45) (fun _=>?_)
           refine cG ?_
           exact (dG (dG (iy (w_k ⟨(r12.1.Next,r12.1.Final,r14.1.Next,r14.1.Final),hr,(ai hwf)⟩))))
      ·refine cG ?_
       exact (dG (dG (iy (w_k ⟨rules4,(hr).map,(ai hwf)⟩))))
theorem bX (p:aW) (limit:Int) {h:ax} {a:(Option aS×Int)} (e:ay p limit=some a) (hx:a.1=none):
  cp CT 11 [.cv (.val (.agg [.sl (List.map (eL bi) p.Sets),.sl (List.map fp p.Rules)])),.cv (.val (.int .i64 limit))] h fun o h'=>o=[.cv (.val (.ptr none)),.cv (.val (.int .i64 a.2))]∧h'=h:=by
 have:=jO (h:=h) p limit e
 rw[hx]at this
 exact this
theorem bY (p:aW) (limit:Int) {h:ax} {a:(Option aS×Int)} {y:aS} (e:ay p limit=some a) (hx:a.1=some y):
  cp CT 11 [.cv (.val (.agg [.sl (List.map (eL bi) p.Sets),.sl (List.map fp p.Rules)])),.cv (.val (.int .i64 limit))] h fun o h'=>o=[.cv (.val (.ptr (some (h.n+4,0)))),.cv (.val (.int .i64 a.2))]∧h'=h.on [none,none,none,some (.cells (bQ eU y.trie.like++([.val (.sl (List.map (eA eU) y.trie.first))]:List CV))),some (.cells [.val (.sl (List.map bD y.rules)),.val (.ptr (some (h.n+3,0))),.val (.int .i64 y.classes)])]:=by
 have:=jO (h:=h) p limit e
 rw[hx]at this
 exact this
end Go.Val
namespace Go.Val
set_option maxRecDepth 20000
open Go.Proofs
theorem pq (r:Int) {h:ax} {a:Bool} (e:iR r=some a):
  cp CT 92 [.cv (.val (.int .i64 r))] h fun o h'=>o=[.cv (.val (.bool a))]∧h'=h:=by
 refine bv Tryz.func92 fun hwf hu=>?_
 obtain ⟨D,hD,hr⟩:=Holds.one e
 dsimp only[iR]at hr
 change aR _ _ _ _ _ ⟨[(0,.cv (.val (.int .i64 r)))],h.on []⟩
 refine A_s ?_
 refine cq (sj:=⟨[(2,.cv (.val (.bool ((decide (r < (0:Int)))||(decide (r > (1114111:Int)))))))],h.on []⟩) (bE ?_) ?_
 ·refine aw 3 ?_
  rcases Bool.eq_false_or_eq_true (decide (r < (0:Int)))with cF1 | cF1
  ·refine ae ?_
   exact w_k (ai hwf)
  ·refine ae ?_
   exact w_k (ai hwf)
 refine bu ?_
 obtain rfl:=hD _ hr
 exact (ba (ai (os':=[]) (sl:=[(2,.cv (.val (.bool ((decide (r < (0:Int)))||(decide (r > (1114111:Int)))))))]) hwf) ⟨rfl,aK hwf⟩)
theorem rF (l:List Int) {h:ax} {a:Bool} (e:kS l=some a):
  cp CT 38 [.cv (.val (.sl (List.map eI l)))] h fun o h'=>o=[.cv (.val (.bool a))]∧h'=h:=by
 refine bv Tryz.func38 fun hwf hu=>?_
 obtain ⟨D,hD,hr⟩:=Holds.one e
 dsimp only[kS]at hr
 change aR _ _ _ _ _ ⟨[(0,.cv (.val (.sl (List.map eI l))))],h.on []⟩
 refine A_s ?_
 refine aj ?_
 refine bE ?_
 refine aw 1 ?_
 obtain ⟨r,eF1,hr⟩:=hr.bind
 refine be (out:=?o_eF1) (hp:=?p_eF1) ?c_eF1 ?d_eF1 ?_
 case c_eF1=>(refine dE l (iR) _ _ ?_ ?_ eF1;(exact (fun os x0 r e=>pq x0 e));(exact (fun i=>by simp[CT])))
 case d_eF1=>rfl
 refine ae ?_
 refine w_n ?_
 refine bu ?_
 obtain rfl:=hD _ hr
 exact (ba (ai (os':=[]) (sl:=[(2,.cv (.val (.bool (!r))))]) hwf) ⟨rfl,aK hwf⟩)
theorem eF (i:Int) (p1:Int) (p2:List Int) (l1:Nat) (l2:Nat) {h:ax} (ha1:h.at_ l1=some (.cells [.val (.int .i64 p1)])) (ha2:h.at_ l2=some (.cells [.val (.sl (List.map eI p2))])) (hn1_2:l1≠l2) {a:Int} (e:dh i p1 p2=some a):
  cp CT 166 [.cv (.val (.int .i64 i)),.cv (.val (.ptr (some (l1,0)))),.cv (.val (.ptr (some (l2,0))))] h fun o h'=>o=[.cv (.val (.int .i64 a))]∧h'=h:=by
 refine bv Tryz.func166 fun hwf hu=>?_
 have hl1:=(hwf _ _ ha1).1
 have kl1:=lQ hl1
 have hl2:=(hwf _ _ ha2).1
 have kl2:=lQ hl2
 obtain ⟨D,hD,hr⟩:=Holds.one e
 dsimp only[dh]at hr
 change aR _ _ _ _ _ ⟨[(0,.cv (.val (.int .i64 i))),(1,.cv (.val (.ptr (some (l1,0))))),(2,.cv (.val (.ptr (some (l2,0)))))],h.on []⟩
 refine A_s ?_
 refine aj ?_
 refine A_s ?_
 refine au hr (fun cF1 hr=>?_) (fun cF1 hr=>?_)
 ·refine aj ?_
  refine ah ?_
  refine w_n ?_
  refine bu ?_
  obtain rfl:=hD _ hr
  exact (cw (ba (ai (os':=[]) (sl:=[(4,.cv (.val (.int .i64 (IntKind.i64.wrap ((p2.length:Int) - i)))))]) hwf) ⟨rfl,aK hwf⟩))
 ·refine aL ?_
  refine w_n ?_
  refine A_s ?_
  refine bu ?_
  obtain rfl:=hD _ hr
  exact (ba (ai (os':=[]) (sl:=[(4,.cv (.val (.int .i64 i)))]) hwf) ⟨rfl,aK hwf⟩)
theorem gW (m:aS) (l:List Int) (d:fa) (which:Int) (l0:Nat) (l0p1:Nat) {h:ax} (ha0:h.at_ l0=some (.cells [.val (.sl (List.map bD m.rules)),.val (.ptr (some (l0p1,0))),.val (.int .i64 m.classes)])) (ha0p1:h.at_ l0p1=some (.cells (bQ eU m.trie.like++([.val (.sl (List.map (eA eU) m.trie.first))]:List CV)))) (hn0_0p1:l0≠l0p1) {a:List Bool} (e:bc m l d which=some a):
  cp CT 93 [.cv (.val (.ptr (some (l0,0)))),.cv (.val (.sl (List.map eI l))),.cv (.val (.agg [.sl (List.map (eL eI) d.Next),.sl (List.map eB d.Final)])),.cv (.val (.int .i64 which))] h fun o h'=>o=[.cv (.val (.sl (List.map eB a)))]∧h'=h:=by
 refine bv Tryz.func93 fun hwf hu=>?_
 have hl0:=(hwf _ _ ha0).1
 have kl0:=lQ hl0
 have hl0p1:=(hwf _ _ ha0p1).1
 have kl0p1:=lQ hl0p1
 obtain ⟨D,hD,hr⟩:=Holds.one e
 dsimp only[bc]at hr
 change aR _ _ _ _ _ ⟨[(0,.cv (.val (.ptr (some (l0,0))))),(1,.cv (.val (.sl (List.map eI l)))),(2,.cv (.val (.agg [.sl (List.map (eL eI) d.Next),.sl (List.map eB d.Final)]))),(3,.cv (.val (.int .i64 which)))],h.on []⟩
 refine A_s ?_
 refine aj ?_
 obtain ⟨nF1,nF2,hr⟩:=hr.mk
 refine ah ?_
 refine w_n ?_
 iterate 2 refine A_s ?_
 refine aj ?_
 refine A_s ?_
 refine w_K (D:=D) (fun xX:List Bool=>⟨[(9,.cv (.row 4 (List.map eB xX)))],h.on []⟩) (fun xX:List Bool=>bc.k1 xX) (fun xX s' hr ht=>?_) ?_
 ·obtain ⟨out,rfl⟩:∃ z,z=xX:=⟨xX,rfl⟩
  dsimp only[bc.k1]at hr ht
  refine (eO ht ?_)
  refine A_s ?_
  refine bu ?_
  obtain rfl:=hD _ hr
  exact (ba (.fix _ _ (.slot 8) 4 _ pw (ai (os':=[]) (sl:=[(8,.cv (.val (.sl (List.map eB out))))]) hwf)) ⟨rfl,aK hwf⟩)
 ·refine aI ?_
  refine cI (fun xX:(List Bool×Int×Int)=>⟨[(0,.cv (.val (.ptr (some (l0,0))))),(5,.cv (.val (.ptr (some (h.n+0,0))))),(6,.cv (.val (.ptr (some (h.n+1,0))))),(9,.cv (.row 4 (List.map eB xX.1))),(10,.cv (.val (.int .i64 xX.2.1))),(11,.cv (.val (.fn 166 [] [.ptr (some (h.n+2,0)),.ptr (some (h.n+0,0))]))),(19,.cv (.val (.int .i64 ((List.replicate (Int.toNat (IntKind.i64.wrap ((l.length:Int)+(1:Int)))) false).length:Int)))),(20,.cv (.val (.int .i64 xX.2.2)))],h.on [some (.cells [.val (.sl (List.map eI l))]),some (.cells [.val (.sl (List.map (eL eI) d.Next)),.val (.sl (List.map eB d.Final))]),some (.cells [.val (.int .i64 which)])]⟩) hr (ai hwf) (fun W1 xX hr=>?_)
  obtain ⟨out1,s,v⟩:=xX
  dsimp only[bc.b1]at hr
  refine A_s ?_
  refine aj ?_
  refine au hr (fun cF3 hr=>?_) (fun cF3 hr=>?_)
  ·refine aL ?_
   refine w_n ?_
   refine aj ?_
   refine w_K (D:=(Aft W1 D)) (fun xX:(List Bool×Int)=>⟨[(0,.cv (.val (.ptr (some (l0,0))))),(5,.cv (.val (.ptr (some (h.n+0,0))))),(6,.cv (.val (.ptr (some (h.n+1,0))))),(9,.cv (.row 4 (List.map eB xX.1))),(10,.cv (.val (.int .i64 xX.2))),(11,.cv (.val (.fn 166 [] [.ptr (some (h.n+2,0)),.ptr (some (h.n+0,0))]))),(19,.cv (.val (.int .i64 ((List.replicate (Int.toNat (IntKind.i64.wrap ((l.length:Int)+(1:Int)))) false).length:Int)))),(20,.cv (.val (.int .i64 v)))],h.on [some (.cells [.val (.sl (List.map eI l))]),some (.cells [.val (.sl (List.map (eL eI) d.Next)),.val (.sl (List.map eB d.Final))]),some (.cells [.val (.int .i64 which)])]⟩) (fun xX:(List Bool×Int)=>bc.k2 v xX.1 xX.2) (fun xX s' hr ht=>?_) ?_
   ·obtain ⟨out2,s1⟩:=xX
    dsimp only[bc.k2]at hr ht
    refine (eO ht ?_)
    refine ah ?_
    exact (w_k ⟨(out2,s1,(IntKind.i64.wrap (v+(1:Int)))),hr,(ai hwf)⟩)
   ·refine aI ?_
    refine A_s ?_
    refine aj ?_
    refine cW [0,1,2,4,5,6,7,8,3,9,10] (by rfl) ?_
    obtain ⟨b,nF4,eF5,gF6,hr⟩:=hr.idx
    refine bV [0,1,2,4,5,6,7,8] [8,7,6,5,4,2,1,0] ?_
    obtain ⟨r,eF7,hr⟩:=hr.bind
    refine dI [8,7,6,5,4,0] (out:=?o_eF7) (hp:=?p_eF7) ?c_eF7 ?d_eF7 ?_
    case c_eF7=>(refine eF v which l (h.n+2) (h.n+0) ?_ ?_ ?_ eF7;exact cE;exact cE;exact pk)
    case d_eF7=>rfl
    obtain ⟨b1,nF8,eF9,gF10,hr⟩:=hr.idx
    refine bV [9] [9,8,7,6,5,4,0] ?_
    refine dp [] ?_
    refine dw ?_
    refine w_n ?_
    refine A_s ?_
    refine au hr (fun cF11 hr=>?_) (fun cF11 hr=>?_)
    ·refine cW [0,1,2,3,4,5,6,7,8,9,10,11,13,14,15,12,16,17,18,19,20,21,22,23] (by rfl) ?_
     obtain ⟨xs,nF12,eF13,gF14,hr⟩:=hr.idx
     refine bV [0,1,2,3,4,5,6,7,8,9,10,11,13,14,15] [15,14,13,11,10,9,8,7,6,5,4,3,2,1,0] ?_
     obtain ⟨r1,eF15,hr⟩:=hr.bind
     refine dI [15,14,13,9,8,7,6,5,4,3,2,1,0] (out:=?o_eF15) (hp:=?p_eF15) ?c_eF15 ?d_eF15 ?_
     case c_eF15=>(refine eF v which l (h.n+2) (h.n+0) ?_ ?_ ?_ eF15;exact cE;exact cE;exact pk)
     case d_eF15=>rfl
     obtain ⟨r2,eF16,hr⟩:=hr.bind
     refine dI [9,8,7,6,5,4,3,2,1,0] (out:=?o_eF16) (hp:=?p_eF16) ?c_eF16 ?d_eF16 ?_
     case c_eF16=>(refine eF (IntKind.i64.wrap (v+(1:Int))) which l (h.n+2) (h.n+0) ?_ ?_ ?_ eF16;exact cE;exact cE;exact pk)
     case d_eF16=>rfl
     obtain ⟨n,nF17,eF18,gF19,hr⟩:=hr.idx
     refine bV [17,18,19] [19,18,17,9,8,7,6,5,4,3,2,1,0] ?_
     obtain ⟨r3,eF20,hr⟩:=hr.bind
     refine dI [4,3,2,1,0] (out:=?o_eF20) (hp:=?p_eF20) ?c_eF20 ?d_eF20 ?_
     case c_eF20=>(refine kH m.trie n (l0p1) ?_ eF20;exact cE)
     case d_eF20=>rfl
     obtain ⟨n1,nF21,eF22,gF23,hr⟩:=hr.idx
     refine bV [21,22] [22,21,4,3,2,1,0] ?_
     refine dp [] ?_
     refine dw ?_
     exact (eY (w_k ⟨((List.set out1 (Int.toNat r) b),n1),hr,(ai hwf)⟩))
    ·refine aL ?_
     exact (eY (w_k ⟨((List.set out1 (Int.toNat r) b),s),hr,(ai hwf)⟩))
  ·refine cG ?_
   exact (dG (dG (iy (w_k ⟨out1,(hr).map,(ai hwf)⟩))))
theorem kU (m:aS) (l:List Int) (l0:Nat) (l0p1:Nat) {h:ax} (ha0:h.at_ l0=some (.cells [.val (.sl (List.map bD m.rules)),.val (.ptr (some (l0p1,0))),.val (.int .i64 m.classes)])) (ha0p1:h.at_ l0p1=some (.cells (bQ eU m.trie.like++([.val (.sl (List.map (eA eU) m.trie.first))]:List CV)))) (hn0_0p1:l0≠l0p1) {a:List Int} (e:aq m l=some a):
  cp CT 39 [.cv (.val (.ptr (some (l0,0)))),.cv (.val (.sl (List.map eI l)))] h fun o h'=>o=[.cv (.val (.sl (List.map eI a)))]∧h'=h:=by
 refine bv Tryz.func39 fun hwf hu=>?_
 have hl0:=(hwf _ _ ha0).1
 have kl0:=lQ hl0
 have hl0p1:=(hwf _ _ ha0p1).1
 have kl0p1:=lQ hl0p1
 obtain ⟨D,hD,hr⟩:=Holds.one e
 dsimp only[aq]at hr
 change aR _ _ _ _ _ ⟨[(0,.cv (.val (.ptr (some (l0,0))))),(1,.cv (.val (.sl (List.map eI l))))],h.on []⟩
 refine A_s ?_
 refine aj ?_
 obtain ⟨nF1,nF2,hr⟩:=hr.mk
 refine ah ?_
 refine w_n ?_
 refine aj ?_
 refine A_s ?_
 refine w_K (D:=D) (fun xX:List Int=>⟨[(0,.cv (.val (.ptr (some (l0,0))))),(1,.cv (.val (.sl (List.map eI l)))),(5,.cv (.row 3 (List.map eI xX)))],h.on []⟩) (fun xX:List Int=>aq.k1 m l xX) (fun xX s' hr ht=>?_) ?_
 ·obtain ⟨out,rfl⟩:∃ z,z=xX:=⟨xX,rfl⟩
  dsimp only[aq.k1]at hr ht
  refine (eO ht ?_)
  refine aj ?_
  refine A_s ?_
  refine w_K (D:=D) (fun xX:List Int=>⟨[(5,.cv (.row 3 (List.map eI xX)))],h.on []⟩) (fun xX:List Int=>aq.k2 xX) (fun xX s' hr ht=>?_) ?_
  ·obtain ⟨out1,rfl⟩:∃ z,z=xX:=⟨xX,rfl⟩
   dsimp only[aq.k2]at hr ht
   refine (eO ht ?_)
   refine A_s ?_
   refine bu ?_
   obtain rfl:=hD _ hr
   exact (ba (.fix _ _ (.slot 4) 3 _ pw (ai (os':=[]) (sl:=[(4,.cv (.val (.sl (List.map eI out1))))]) hwf)) ⟨rfl,aK hwf⟩)
  ·refine aI ?_
   refine cI (fun xX:(List Int×Int)=>⟨[(0,.cv (.val (.ptr (some (l0,0))))),(1,.cv (.val (.sl (List.map eI l)))),(5,.cv (.row 3 (List.map eI xX.1))),(7,.cv (.val (.int .i64 xX.2)))],h.on []⟩) hr (ai hwf) (fun W1 xX hr=>?_)
   obtain ⟨out2,k⟩:=xX
   dsimp only[aq.b1]at hr
   refine aj ?_
   refine A_s ?_
   refine au hr (fun cF3 hr=>?_) (fun cF3 hr=>?_)
   ·refine aL ?_
    refine w_n ?_
    refine aj ?_
    refine w_K (D:=(Aft W1 D)) (fun xX:List Int=>⟨[(0,.cv (.val (.ptr (some (l0,0))))),(1,.cv (.val (.sl (List.map eI l)))),(5,.cv (.row 3 (List.map eI xX))),(7,.cv (.val (.int .i64 k)))],h.on []⟩) (fun xX:List Int=>aq.k3 k xX) (fun xX s' hr ht=>?_) ?_
    ·obtain ⟨out3,rfl⟩:∃ z,z=xX:=⟨xX,rfl⟩
     dsimp only[aq.k3]at hr ht
     refine (eO ht ?_)
     refine ah ?_
     exact (w_k ⟨(out3,(IntKind.i64.wrap (k - (1:Int)))),hr,(ai hwf)⟩)
    ·refine aI ?_
     refine aj ?_
     refine cW [0,1,2,3,4,5,6,7,8,9,10,12,13,14,15,16,17,18,19,20,21,22,11,23,24,25] (by rfl) ?_
     obtain ⟨x,nF4,eF5,gF6,hr⟩:=hr.idx
     refine bV [0,1,2,3,4,5,6,7,8,9,10,12,13,14,15,16,17,18,19,20,21,22] [22,21,20,19,18,17,16,15,14,13,12,10,9,8,7,6,5,4,3,2,1,0] ?_
     obtain ⟨r,eF7,hr⟩:=hr.bind
     refine dI [22,21,20,19,18,17,16,15,14,13,12] (out:=?o_eF7) (hp:=?p_eF7) ?c_eF7 ?d_eF7 ?_
     case c_eF7=>(refine gW m l x.states.v0 (0:Int) (l0) (l0p1) ?_ ?_ ?_ eF7;exact cE;exact cE;exact pk)
     case d_eF7=>rfl
     obtain ⟨r1,eF8,hr⟩:=hr.bind
     refine dI [] (out:=?o_eF8) (hp:=?p_eF8) ?c_eF8 ?d_eF8 ?_
     case c_eF8=>(refine gW m l x.states.v1 (1:Int) (l0) (l0p1) ?_ ?_ ?_ eF8;exact cE;exact cE;exact pk)
     case d_eF8=>rfl
     refine dp [] ?_
     refine dp [] ?_
     refine dw ?_
     refine w_n ?_
     refine A_s ?_
     refine aI ?_
     refine cI (fun xX:(List Int×Int)=>⟨[(0,.cv (.val (.ptr (some (l0,0))))),(1,.cv (.val (.sl (List.map eI l)))),(5,.cv (.row 3 (List.map eI xX.1))),(7,.cv (.val (.int .i64 k))),(8,.cv (.val (.sl (List.map eB r)))),(9,.cv (.val (.sl (List.map eB r1)))),(59,.cv (.val (.int .i64 (out2.length:Int)))),(60,.cv (.val (.int .i64 xX.2)))],h.on []⟩) hr (ai hwf) (fun W2 xX hr=>?_)
     obtain ⟨out4,v⟩:=xX
     dsimp only[aq.b2]at hr
     refine A_s ?_
     refine aj ?_
     refine au hr (fun cF9 hr=>?_) (fun cF9 hr=>?_)
     ·refine aL ?_
      refine w_n ?_
      refine aj ?_
      refine w_K (D:=(Aft W2 (Aft W1 D))) (fun xX:List Int=>⟨[(0,.cv (.val (.ptr (some (l0,0))))),(1,.cv (.val (.sl (List.map eI l)))),(5,.cv (.row 3 (List.map eI xX))),(7,.cv (.val (.int .i64 k))),(8,.cv (.val (.sl (List.map eB r)))),(9,.cv (.val (.sl (List.map eB r1)))),(59,.cv (.val (.int .i64 (out2.length:Int)))),(60,.cv (.val (.int .i64 v)))],h.on []⟩) (fun xX:List Int=>aq.k4 v xX) (fun xX s' hr ht=>?_) ?_
      ·obtain ⟨out5,rfl⟩:∃ z,z=xX:=⟨xX,rfl⟩
       dsimp only[aq.k4]at hr ht
       refine (eO ht ?_)
       refine ah ?_
       exact (w_k ⟨(out5,(IntKind.i64.wrap (v+(1:Int)))),hr,(ai hwf)⟩)
      ·refine aI ?_
       refine A_s ?_
       obtain ⟨v1,vF17,hr⟩:=hr.bind
       refine cq (sj:=⟨[(0,.cv (.val (.ptr (some (l0,0))))),(1,.cv (.val (.sl (List.map eI l)))),(5,.cv (.row 3 (List.map eI out4))),(7,.cv (.val (.int .i64 k))),(8,.cv (.val (.sl (List.map eB r)))),(9,.cv (.val (.sl (List.map eB r1)))),(10,.cv (.val (.int .i64 v))),(59,.cv (.val (.int .i64 (out2.length:Int)))),(60,.cv (.val (.int .i64 v))),(72,.cv (.val (.bool v1)))],h.on []⟩) (bE ?_) ?_
       ·have hr:=Holds.intro (D:=fun z=>z=v1) vF17 rfl
        obtain ⟨b,nF10,eF11,gF12,hr⟩:=hr.idx
        refine aw 5 ?_
        rcases hr.ite with ⟨cF13,hr⟩ | ⟨cF13,hr⟩
        ·obtain ⟨b1,nF14,eF15,gF16,hr⟩:=hr.idx
         refine ae ?_
         obtain rfl:_=v1:=hr
         exact w_k (ai hwf)
        ·refine ae ?_
         obtain rfl:_=v1:=hr
         exact w_k (ai hwf)
       refine au hr (fun cF18 hr=>?_) (fun cF18 hr=>?_)
       ·obtain ⟨n,nF19,eF20,gF21,hr⟩:=hr.idx
        refine ah ?_
        exact (eY (w_k ⟨(List.set out4 (Int.toNat v) k),hr,(ai hwf)⟩))
       ·refine aL ?_
        exact (eY (w_k ⟨out4,hr,(ai hwf)⟩))
     ·refine cG ?_
      exact (dG (dG (iy (eY (w_k ⟨out4,(hr).map,(ai hwf)⟩)))))
   ·refine cG ?_
    exact (dG (dG (iy (w_k ⟨out2,(hr).map,(ai hwf)⟩))))
 ·refine aI ?_
  refine cI (fun xX:(List Int×Int)=>⟨[(0,.cv (.val (.ptr (some (l0,0))))),(1,.cv (.val (.sl (List.map eI l)))),(5,.cv (.row 3 (List.map eI xX.1))),(16,.cv (.val (.int .i64 ((List.replicate (Int.toNat (IntKind.i64.wrap ((l.length:Int)+(1:Int)))) (0:Int)).length:Int)))),(17,.cv (.val (.int .i64 xX.2)))],h.on []⟩) hr (ai hwf) (fun W3 xX hr=>?_)
  obtain ⟨out6,v2⟩:=xX
  dsimp only[aq.b3]at hr
  refine A_s ?_
  refine aj ?_
  refine au hr (fun cF22 hr=>?_) (fun cF22 hr=>?_)
  ·refine aL ?_
   refine w_n ?_
   refine aj ?_
   refine aI ?_
   refine A_s ?_
   obtain ⟨n1,nF23,eF24,gF25,hr⟩:=hr.idx
   refine ah ?_
   refine (eY (w_n ?_))
   refine ah ?_
   exact (w_k ⟨((List.set out6 (Int.toNat v2) (-1:Int)),(IntKind.i64.wrap (v2+(1:Int)))),hr,(ai hwf)⟩)
  ·refine cG ?_
   exact (dG (dG (iy (w_k ⟨out6,(hr).map,(ai hwf)⟩))))
theorem cT (m:aS) (l:List Int) (l0:Nat) (l0p1:Nat) {h:ax} (ha0:h.at_ l0=some (.cells [.val (.sl (List.map bD m.rules)),.val (.ptr (some (l0p1,0))),.val (.int .i64 m.classes)])) (ha0p1:h.at_ l0p1=some (.cells (bQ eU m.trie.like++([.val (.sl (List.map (eA eU) m.trie.first))]:List CV)))) (hn0_0p1:l0≠l0p1) {a:List Int} (e:aM m l=some a):
  cp CT 12 [.cv (.val (.ptr (some (l0,0)))),.cv (.val (.sl (List.map eI l)))] h fun o h'=>o=[.cv (.val (.sl (List.map eI a)))]∧h'=h:=by
 refine bv Tryz.func12 fun hwf hu=>?_
 have hl0:=(hwf _ _ ha0).1
 have kl0:=lQ hl0
 have hl0p1:=(hwf _ _ ha0p1).1
 have kl0p1:=lQ hl0p1
 obtain ⟨D,hD,hr⟩:=Holds.one e
 dsimp only[aM]at hr
 change aR _ _ _ _ _ ⟨[(0,.cv (.val (.ptr (some (l0,0))))),(1,.cv (.val (.sl (List.map eI l))))],h.on []⟩
 refine A_s ?_
 refine aj ?_
 refine aj ?_
 refine bE ?_
 refine aw 1 ?_
 obtain ⟨r,eF1,hr⟩:=hr.bind
 refine be (out:=?o_eF1) (hp:=?p_eF1) ?c_eF1 ?d_eF1 ?_
 case c_eF1=>exact rF l eF1
 case d_eF1=>rfl
 refine ae ?_
 refine w_n ?_
 refine au hr (fun cF2 hr=>?_) (fun cF2 hr=>?_)
 ·refine aj ?_
  refine ah ?_
  refine w_n ?_
  refine bu ?_
  obtain rfl:=hD _ hr
  exact (cw (ba (ai (os':=[]) (sl:=[(4,.cv (.val (.sl (List.map eI ([]:List Int)))))]) hwf) ⟨rfl,aK hwf⟩))
 ·refine aL ?_
  refine w_n ?_
  refine A_s ?_
  refine aj ?_
  refine aj ?_
  refine bE ?_
  refine aw 2 ?_
  obtain ⟨r1,eF3,hr⟩:=hr.bind
  refine be (out:=?o_eF3) (hp:=?p_eF3) ?c_eF3 ?d_eF3 ?_
  case c_eF3=>(refine kU m l (l0) (l0p1) ?_ ?_ ?_ eF3;exact cE;exact cE;exact pk)
  case d_eF3=>rfl
  refine ae ?_
  refine w_n ?_
  refine w_K (D:=D) (fun xX:List Int=>⟨[(5,.cv (.row 3 (List.map eI xX)))],h.on []⟩) (fun xX:List Int=>aM.k1 xX) (fun xX s' hr ht=>?_) ?_
  ·obtain ⟨out,rfl⟩:∃ z,z=xX:=⟨xX,rfl⟩
   dsimp only[aM.k1]at hr ht
   refine (eO ht ?_)
   refine A_s ?_
   refine bu ?_
   obtain rfl:=hD _ hr
   exact (ba (.fix _ _ (.slot 4) 3 _ pw (ai (os':=[]) (sl:=[(4,.cv (.val (.sl (List.map eI out))))]) hwf)) ⟨rfl,aK hwf⟩)
  ·refine aI ?_
   refine cI (fun xX:(List Int×Int)=>⟨[(0,.cv (.val (.ptr (some (l0,0))))),(1,.cv (.val (.sl (List.map eI l)))),(5,.cv (.row 3 (List.map eI xX.1))),(13,.cv (.val (.sl (List.map eI r1)))),(14,.cv (.val (.int .i64 (r1.length:Int)))),(15,.cv (.val (.int .i64 xX.2)))],h.on []⟩) hr (ai hwf) (fun W1 xX hr=>?_)
   obtain ⟨out1,v⟩:=xX
   dsimp only[aM.b1]at hr
   refine A_s ?_
   refine aj ?_
   refine au hr (fun cF4 hr=>?_) (fun cF4 hr=>?_)
   ·refine aL ?_
    refine w_n ?_
    refine aj ?_
    refine w_K (D:=(Aft W1 D)) (fun xX:List Int=>⟨[(0,.cv (.val (.ptr (some (l0,0))))),(1,.cv (.val (.sl (List.map eI l)))),(5,.cv (.row 3 (List.map eI xX))),(13,.cv (.val (.sl (List.map eI r1)))),(14,.cv (.val (.int .i64 (r1.length:Int)))),(15,.cv (.val (.int .i64 v)))],h.on []⟩) (fun xX:List Int=>aM.k2 v xX) (fun xX s' hr ht=>?_) ?_
    ·obtain ⟨out2,rfl⟩:∃ z,z=xX:=⟨xX,rfl⟩
     dsimp only[aM.k2]at hr ht
     refine (eO ht ?_)
     refine ah ?_
     exact (w_k ⟨(out2,(IntKind.i64.wrap (v+(1:Int)))),hr,(ai hwf)⟩)
    ·refine aI ?_
     refine aj ?_
     obtain ⟨n,nF5,eF6,gF7,hr⟩:=hr.idx
     refine ah ?_
     refine w_n ?_
     obtain ⟨v1,vF14,hr⟩:=hr.bind
     refine cq (sj:=⟨[(0,.cv (.val (.ptr (some (l0,0))))),(1,.cv (.val (.sl (List.map eI l)))),(5,.cv (.row 3 (List.map eI out1))),(6,.cv (.val (.int .i64 v))),(13,.cv (.val (.sl (List.map eI r1)))),(14,.cv (.val (.int .i64 (r1.length:Int)))),(15,.cv (.val (.int .i64 v))),(41,.cv (.val (.bool v1)))],h.on []⟩) (bE ?_) ?_
     ·have hr:=Holds.intro (D:=fun z=>z=v1) vF14 rfl
      refine aw 3 ?_
      rcases hr.ite with ⟨cF8,hr⟩ | ⟨cF8,hr⟩
      ·refine ae ?_
       obtain rfl:_=v1:=hr
       exact w_k (ai hwf)
      ·refine aw 6 ?_
       rcases hr.ite with ⟨cF9,hr⟩ | ⟨cF9,hr⟩
       ·refine ae ?_
        obtain rfl:_=v1:=hr
        exact w_k (ai hwf)
       ·refine aw 4 ?_
        rcases hr.ite with ⟨cF10,hr⟩ | ⟨cF10,hr⟩
        ·refine ae ?_
         obtain rfl:_=v1:=hr
         exact w_k (ai hwf)
        ·obtain ⟨x,nF11,eF12,gF13,hr⟩:=hr.idx
         refine ae ?_
         obtain rfl:_=v1:=hr
         exact w_k (ai hwf)
     refine au hr (fun cF15 hr=>?_) (fun cF15 hr=>?_)
     ·obtain ⟨nF16,hr⟩:=hr.room
      refine ah ?_
      exact (eY (w_k ⟨(out1++([v])),hr,(ai hwf)⟩))
     ·refine aL ?_
      exact (eY (w_k ⟨out1,hr,(ai hwf)⟩))
   ·refine cG ?_
    exact (dG (dG (iy (w_k ⟨out1,(hr).map,(ai hwf)⟩))))
theorem gK (m:aS) (l:List Int) (i:Int) (l0:Nat) (l0p1:Nat) {h:ax} (ha0:h.at_ l0=some (.cells [.val (.sl (List.map bD m.rules)),.val (.ptr (some (l0p1,0))),.val (.int .i64 m.classes)])) (ha0p1:h.at_ l0p1=some (.cells (bQ eU m.trie.like++([.val (.sl (List.map (eA eU) m.trie.first))]:List CV)))) (hn0_0p1:l0≠l0p1) {a:Bool} (e:cZ m l i=some a):
  cp CT 14 [.cv (.val (.ptr (some (l0,0)))),.cv (.val (.sl (List.map eI l))),.cv (.val (.int .i64 i))] h fun o h'=>o=[.cv (.val (.bool a))]∧h'=h:=by
 refine bv Tryz.func14 fun hwf hu=>?_
 have hl0:=(hwf _ _ ha0).1
 have kl0:=lQ hl0
 have hl0p1:=(hwf _ _ ha0p1).1
 have kl0p1:=lQ hl0p1
 obtain ⟨D,hD,hr⟩:=Holds.one e
 dsimp only[cZ]at hr
 change aR _ _ _ _ _ ⟨[(0,.cv (.val (.ptr (some (l0,0))))),(1,.cv (.val (.sl (List.map eI l)))),(2,.cv (.val (.int .i64 i)))],h.on []⟩
 refine A_s ?_
 refine aj ?_
 refine bE ?_
 refine aw 2 ?_
 obtain ⟨r,eF1,hr⟩:=hr.bind
 refine be (out:=?o_eF1) (hp:=?p_eF1) ?c_eF1 ?d_eF1 ?_
 case c_eF1=>(refine cT m l (l0) (l0p1) ?_ ?_ ?_ eF1;exact cE;exact cE;exact pk)
 case d_eF1=>rfl
 refine aw 1 ?_
 obtain ⟨r1,eF2,hr⟩:=hr.bind
 refine be (out:=?o_eF2) (hp:=?p_eF2) ?c_eF2 ?d_eF2 ?_
 case c_eF2=>exact dW r i eF2
 case d_eF2=>rfl
 refine ae ?_
 refine w_n ?_
 refine bu ?_
 obtain rfl:=hD _ hr
 exact (ba (ai (os':=[]) (sl:=[(6,.cv (.val (.bool r1)))]) hwf) ⟨rfl,aK hwf⟩)
theorem eo (a_:List Int) (b:List Int) {h:ax} {a:Bool} (e:bj a_ b=some a):
  cp CT 13 [.cv (.val (.sl (List.map eI a_))),.cv (.val (.sl (List.map eI b)))] h fun o h'=>o=[.cv (.val (.bool a))]∧h'=h:=by
 refine bv Tryz.func13 fun hwf hu=>?_
 obtain ⟨D,hD,hr⟩:=Holds.one e
 dsimp only[bj]at hr
 change aR _ _ _ _ _ ⟨[(0,.cv (.val (.sl (List.map eI a_)))),(1,.cv (.val (.sl (List.map eI b))))],h.on []⟩
 refine A_s ?_
 refine aj ?_
 refine A_s ?_
 refine au hr (fun cF1 hr=>?_) (fun cF1 hr=>?_)
 ·refine aj ?_
  refine ah ?_
  refine w_n ?_
  refine bu ?_
  obtain rfl:=hD _ hr
  exact (cw (ba (ai (os':=[]) (sl:=[(4,.cv (.val (.bool false)))]) hwf) ⟨rfl,aK hwf⟩))
 ·refine aL ?_
  refine w_n ?_
  refine aj ?_
  refine A_s ?_
  refine w_K (D:=D) (fun xX:Unit=>⟨[],h.on []⟩) (fun xX:Unit=>bj.k1) (fun xX s' hr ht=>?_) ?_
  ·dsimp only[bj.k1]at hr ht
   refine (eO ht ?_)
   refine A_s ?_
   refine bu ?_
   obtain rfl:=hD _ hr
   exact (ba (ai (os':=[]) (sl:=[(4,.cv (.val (.bool true)))]) hwf) ⟨rfl,aK hwf⟩)
  ·refine aI ?_
   refine cI (fun xX:Int=>⟨[(0,.cv (.val (.sl (List.map eI a_)))),(1,.cv (.val (.sl (List.map eI b)))),(5,.cv (.val (.int .i64 xX)))],h.on []⟩) hr (ai hwf) (fun W1 xX hr=>?_)
   obtain ⟨i,rfl⟩:∃ z,z=xX:=⟨xX,rfl⟩
   dsimp only[bj.b1]at hr
   refine aj ?_
   refine A_s ?_
   refine au hr (fun cF2 hr=>?_) (fun cF2 hr=>?_)
   ·refine aL ?_
    refine w_n ?_
    refine aj ?_
    refine aI ?_
    refine aj ?_
    refine cW [0,1,2,3,4,5,6,7,8] (by rfl) ?_
    obtain ⟨n,nF3,eF4,gF5,hr⟩:=hr.idx
    obtain ⟨n1,nF6,eF7,gF8,hr⟩:=hr.idx
    refine bV [0,1,2,3,4,5,6,7,8] [8,7,6,5,4,3,2,1,0] ?_
    refine dw ?_
    refine w_n ?_
    refine au hr (fun cF9 hr=>?_) (fun cF9 hr=>?_)
    ·refine aj ?_
     refine ah ?_
     refine w_n ?_
     refine bu ?_
     obtain rfl:=hD _ hr
     exact (fQ (cw (cw (fQ (cw (cw (ba (ai (os':=[]) (sl:=[(4,.cv (.val (.bool false)))]) hwf) ⟨rfl,aK hwf⟩)))))))
    ·refine aL ?_
     refine (eY (w_n ?_))
     refine ah ?_
     exact (w_k ⟨(IntKind.i64.wrap (i+(1:Int))),hr,(ai hwf)⟩)
   ·refine cG ?_
    exact (dG (dG (iy (w_k ⟨(),(hr).map,(ai hwf)⟩))))
end Go.Val
namespace Go.Val
theorem kC (b:List UInt8) {h:ax} {a:aW×Int×Int} (e:dJ b=some a):
  cp CT 17 [.cv (.val (.sl (List.map eU b)))] h fun o h'=>o=[.cv (.val (fP a.1)),.cv (.val (.int .i64 a.2.1)),.cv (.val (.int .i64 a.2.2))]∧h'=h:=
 cp.hand (C:=CT) (show tE 17 _ h _ h from ⟨rfl,.inr (.inr (.inr (.inr (.inr (.inr (.inl ⟨rfl,b,a,rfl,e,rfl⟩))))))⟩) ⟨rfl,rfl⟩
theorem kR (b:List UInt8) {h:ax} {a:List Int} (e:dL b=some a):
  cp CT 29 [.cv (.val (.sl (List.map eU b)))] h fun o h'=>o=[.cv (.val (.sl (List.map eI a)))]∧h'=h:=
 cp.hand (C:=CT) (show tE 29 _ h _ h from ⟨rfl,.inr (.inr (.inr (.inr (.inr (.inr (.inr ⟨rfl,b,a,rfl,e,rfl⟩))))))⟩) ⟨rfl,rfl⟩
end Go.Val
namespace Go.Val
set_option maxRecDepth 20000
open Go.Proofs
theorem kA {h:ax} {a:Bool} (e:eh=some a):
  cp CT 9 [] h fun o h'=>o=[.cv (.val (.bool a))]∧h'=h:=by
 refine bv Tryz.func9 fun hwf hu=>?_
 obtain ⟨D,hD,hr⟩:=Holds.one e
 dsimp only[eh]at hr
 change aR _ _ _ _ _ ⟨[],h.on []⟩
 refine A_s ?_
 refine aj ?_
 refine bE ?_
 refine aw 2 ?_
 obtain ⟨r,eF1,hr⟩:=hr.bind
 refine be (out:=?o_eF1) (hp:=?p_eF1) ?c_eF1 ?d_eF1 ?_
 case c_eF1=>exact kC ([(u8 (115:Int)),(u8 (101:Int)),(u8 (116:Int)),(u8 (32:Int)),(u8 (97:Int)),(u8 (32:Int)),(u8 (61:Int)),(u8 (32:Int)),(u8 (91:Int)),(u8 (97:Int)),(u8 (45:Int)),(u8 (122:Int)),(u8 (93:Int)),(u8 (59:Int)),(u8 (32:Int)),(u8 (107:Int)),(u8 (101:Int)),(u8 (101:Int)),(u8 (112:Int)),(u8 (32:Int)),(u8 (97:Int)),(u8 (32:Int)),(u8 (47:Int)),(u8 (32:Int)),(u8 (97:Int)),(u8 (59:Int))]) eF1
 case d_eF1=>rfl
 refine ae ?_
 refine w_n ?_
 refine aj ?_
 refine bE ?_
 refine aw 1 ?_
 obtain ⟨r1,eF2,hr⟩:=hr.bind
 try dsimp only at hr
 rcases xF11:r1.1 with _ | y
 ·rw[xF11]at hr
  dsimp only at hr
  refine be (out:=?o_eF2a) (hp:=?p_eF2a) ?c_eF2a ?d_eF2a ?_
  case c_eF2a=>exact bX r.1 (100:Int) eF2 xF11
  case d_eF2a=>rfl
  refine ae ?_
  refine w_n ?_
  refine cq (sj:=⟨[(0,.cv (.val (.bool false)))],h.on []⟩) (bE ?_) ?_
  ·refine aw 3 ?_
   rcases Bool.eq_false_or_eq_true (r.2.2==(0:Int))with cF3 | cF3
   ·refine aw 4 ?_
    rcases Bool.eq_false_or_eq_true (r1.2==(0:Int))with cF4 | cF4
    ·refine aw 7 ?_
     refine iu ?_
     refine iu ?_
     refine aw 1 ?_
     refine iu ?_
     refine ae ?_
     exact w_k (ai hwf)
    ·refine aw 7 ?_
     refine iu ?_
     refine iu ?_
     refine aw 1 ?_
     refine iu ?_
     refine ae ?_
     exact w_k (ai hwf)
   ·refine aw 11 ?_
    refine iu ?_
    refine iu ?_
    refine aw 1 ?_
    refine iu ?_
    refine ae ?_
    exact w_k (ai hwf)
  refine bu ?_
  obtain rfl:=hD _ hr
  exact (ba (ai (os':=[]) (sl:=[(0,.cv (.val (.bool false)))]) hwf) ⟨rfl,aK hwf⟩)
 ·rw[xF11]at hr
  dsimp only at hr
  refine be (out:=?o_eF2b) (hp:=?p_eF2b) ?c_eF2b ?d_eF2b ?_
  case c_eF2b=>exact bY r.1 (100:Int) eF2 xF11
  case d_eF2b=>rfl
  refine ae ?_
  refine w_n ?_
  obtain ⟨v,vF10,hr⟩:=hr.bind
  refine cq (sj:=⟨[(0,.cv (.val (.bool v)))],h.on []⟩) (bE ?_) ?_
  ·have hr:=Holds.intro (D:=fun z=>z=v) vF10 rfl
   refine aw 3 ?_
   rcases hr.ite with ⟨cF5,hr⟩ | ⟨cF5,hr⟩
   ·refine aw 4 ?_
    rcases hr.ite with ⟨cF6,hr⟩ | ⟨cF6,hr⟩
    ·refine aw 7 ?_
     obtain ⟨r2,eF7,hr⟩:=hr.bind
     refine be (out:=?o_eF7) (hp:=?p_eF7) ?c_eF7 ?d_eF7 ?_
     case c_eF7=>exact kR ([(u8 (97:Int)),(u8 (98:Int)),(u8 (32:Int)),(u8 (99:Int))]) eF7
     case d_eF7=>rfl
     obtain ⟨r3,eF8,hr⟩:=hr.bind
     refine be (out:=?o_eF8) (hp:=?p_eF8) ?c_eF8 ?d_eF8 ?_
     case c_eF8=>(refine cT y r2 (h.n+5) (h.n+4) ?_ ?_ ?_ eF8;exact cE;exact cE;exact pk)
     case d_eF8=>rfl
     refine aw 1 ?_
     obtain ⟨r4,eF9,hr⟩:=hr.bind
     refine be (out:=?o_eF9) (hp:=?p_eF9) ?c_eF9 ?d_eF9 ?_
     case c_eF9=>exact eo r3 ([(0:Int),(2:Int),(3:Int),(4:Int)]) eF9
     case d_eF9=>rfl
     refine ae ?_
     obtain rfl:_=v:=hr
     exact w_k (ai hwf)
    ·refine aw 7 ?_
     refine iu ?_
     refine iu ?_
     refine aw 1 ?_
     refine iu ?_
     refine ae ?_
     obtain rfl:_=v:=hr
     exact w_k (ai hwf)
   ·refine aw 11 ?_
    refine iu ?_
    refine iu ?_
    refine aw 1 ?_
    refine iu ?_
    refine ae ?_
    obtain rfl:_=v:=hr
    exact w_k (ai hwf)
  refine bu ?_
  obtain rfl:=hD _ hr
  exact (ba (ai (os':=[]) (sl:=[(0,.cv (.val (.bool v)))]) hwf) ⟨rfl,aK hwf⟩)
end Go.Val
namespace Go.Val
set_option maxRecDepth 20000
set_option maxHeartbeats 2000000
open Go.Proofs
theorem iX (p:aW) (l:List Int) (is:Bool) {h:ax} {a:Bool} (e:av p l is=some a):
  cp CT 3 [.cv (.val (.agg [.sl (List.map (eL bi) p.Sets),.sl (List.map fp p.Rules)])),.cv (.val (.sl (List.map eI l))),.cv (.val (.bool is))] h fun o h'=>o=[.cv (.val (.bool a))]∧h'=h:=by
 refine bv Tryz.func3 fun hwf hu=>?_
 obtain ⟨D,hD,hr⟩:=Holds.one e
 dsimp only[av]at hr
 change aR _ _ _ _ _ ⟨[(0,.cv (.val (.agg [.sl (List.map (eL bi) p.Sets),.sl (List.map fp p.Rules)]))),(1,.cv (.val (.sl (List.map eI l)))),(2,.cv (.val (.bool is)))],h.on []⟩
 refine A_s ?_
 refine aj ?_
 refine bE ?_
 obtain ⟨r,eF1,hr⟩:=hr.bind
 refine be (out:=?o_eF1) (hp:=?p_eF1) ?c_eF1 ?d_eF1 ?_
 case c_eF1=>exact kA  eF1
 case d_eF1=>rfl
 refine ae ?_
 refine w_n ?_
 refine aj ?_
 refine bE ?_
 refine aw 1 ?_
 obtain ⟨r1,eF2,hr⟩:=hr.bind
 refine be (out:=?o_eF2) (hp:=?p_eF2) ?c_eF2 ?d_eF2 ?_
 case c_eF2=>exact lY p eF2
 case d_eF2=>rfl
 refine ae ?_
 refine w_n ?_
 refine aj ?_
 refine cq (sj:=⟨[(1,.cv (.val (.sl (List.map eI l)))),(2,.cv (.val (.bool is))),(3,.cv (.val (.ptr (some (h.n+0,0))))),(7,.cv (.val (.bool r))),(32,.cv (.val (.bool ((!r)||((!r1)||(decide ((l.length:Int) > (50:Int))))))))],h.on [some (.cells [.val (.sl (List.map (eL bi) p.Sets)),.val (.sl (List.map fp p.Rules))])]⟩) (bE ?_) ?_
 ·refine aw 3 ?_
  rcases Bool.eq_false_or_eq_true (!r)with cF3 | cF3
  ·refine ae ?_
   exact w_k (ai hwf)
  ·refine aw 4 ?_
   rcases Bool.eq_false_or_eq_true (!r1)with cF4 | cF4
   ·refine ae ?_
    exact w_k (ai hwf)
   ·refine ae ?_
    exact w_k (ai hwf)
 refine au hr (fun cF5 hr=>?_) (fun cF5 hr=>?_)
 ·refine aj ?_
  refine ah ?_
  refine w_n ?_
  refine bu ?_
  obtain rfl:=hD _ hr
  exact (cw (ba (ai (os':=[]) (sl:=[(6,.cv (.val (.bool r)))]) hwf) ⟨rfl,aK hwf⟩))
 ·refine aL ?_
  refine w_n ?_
  refine aj ?_
  obtain ⟨nF6,hr⟩:=hr.room
  refine ah ?_
  refine w_n ?_
  refine aj ?_
  refine bE ?_
  refine aw 4 ?_
  obtain ⟨r2,eF7,hr⟩:=hr.bind
  try dsimp only at hr
  rcases xF59:r2.1 with _ | y
  ·rw[xF59]at hr
   dsimp only at hr
   refine be (out:=?o_eF7a) (hp:=?p_eF7a) ?c_eF7a ?d_eF7a ?_
   case c_eF7a=>first | exact bX (aW.mk p.Sets (([(iV.mk is (az.mk (0:Int) (0:Int) []) (az.mk (0:Int) (0:Int) []))])++p.Rules)) (40:Int) eF7 xF59 | (have hA:=fun hh=>bX (h:=hh) (aW.mk p.Sets (([(iV.mk is (az.mk (0:Int) (0:Int) []) (az.mk (0:Int) (0:Int) []))])++p.Rules)) (40:Int) eF7 xF59;simp only[List.map_append,List.map_cons,List.map_nil]at hA;exact hA _) | (have hA:=fun hh=>bX (h:=hh) (aW.mk p.Sets (([(iV.mk is (az.mk (0:Int) (0:Int) []) (az.mk (0:Int) (0:Int) []))])++p.Rules)) (40:Int) eF7 xF59;simp only[List.map_append,List.map_cons,List.map_nil,List.append_assoc,List.cons_append,List.nil_append]at hA;exact hA _)
   case d_eF7a=>rfl
   refine ae ?_
   refine w_n ?_
   refine aj ?_
   refine bE ?_
   refine aw 1 ?_
   obtain ⟨r3,eF8,hr⟩:=hr.bind
   try dsimp only at hr
   rcases xF23:r3.1 with _ | y1
   ·rw[xF23]at hr
    dsimp only at hr
    refine be (out:=?o_eF8a) (hp:=?p_eF8a) ?c_eF8a ?d_eF8a ?_
    case c_eF8a=>exact bX p (40:Int) eF8 xF23
    case d_eF8a=>rfl
    refine ae ?_
    refine w_n ?_
    refine aj ?_
    refine bE ?_
    refine aw 1 ?_
    obtain ⟨r4,eF9,hr⟩:=hr.bind
    try dsimp only at hr
    rcases xF15:r4.1 with _ | y2
    ·rw[xF15]at hr
     dsimp only at hr
     refine be (out:=?o_eF9a) (hp:=?p_eF9a) ?c_eF9a ?d_eF9a ?_
     case c_eF9a=>exact bX (aW.mk [] []) (40:Int) eF9 xF15
     case d_eF9a=>rfl
     refine ae ?_
     refine w_n ?_
     refine aj ?_
     refine cq (sj:=⟨[(1,.cv (.val (.sl (List.map eI l)))),(2,.cv (.val (.bool is))),(10,.cv (.val (.ptr none))),(11,.cv (.val (.int .i64 r2.2))),(12,.cv (.val (.ptr none))),(14,.cv (.val (.ptr none))),(70,.cv (.val (.bool true)))],h.on []⟩) (bE ?_) ?_
     ·refine aw 3 ?_
      rcases Bool.eq_false_or_eq_true (r4.2 != (0:Int))with cF10 | cF10
      ·refine ae ?_
       exact w_k (ai hwf)
      ·refine ae ?_
       exact w_k (ai hwf)
     refine jP true (fun _=>?_) (fun cF11=>by cases cF11)
     refine A_s ?_
     refine bu ?_
     obtain rfl:=hD _ hr
     exact (cw (ba (ai (os':=[]) (sl:=[(6,.cv (.val (.bool false)))]) hwf) ⟨rfl,aK hwf⟩))
    ·rw[xF15]at hr
     dsimp only at hr
     refine be (out:=?o_eF9b) (hp:=?p_eF9b) ?c_eF9b ?d_eF9b ?_
     case c_eF9b=>exact bY (aW.mk [] []) (40:Int) eF9 xF15
     case d_eF9b=>rfl
     refine ae ?_
     refine w_n ?_
     refine aj ?_
     refine cq (sj:=⟨[(1,.cv (.val (.sl (List.map eI l)))),(2,.cv (.val (.bool is))),(10,.cv (.val (.ptr none))),(11,.cv (.val (.int .i64 r2.2))),(12,.cv (.val (.ptr none))),(14,.cv (.val (.ptr (some (h.n+5,0))))),(70,.cv (.val (.bool ((r4.2 != (0:Int))||(!((r2.2==(0:Int))==(r3.2==(0:Int))))))))],h.on [none,none,none,none,some (.cells (bQ eU y2.trie.like++([.val (.sl (List.map (eA eU) y2.trie.first))]:List CV))),some (.cells [.val (.sl (List.map bD y2.rules)),.val (.ptr (some (h.n+4,0))),.val (.int .i64 y2.classes)])]⟩) (bE ?_) ?_
     ·refine aw 3 ?_
      rcases Bool.eq_false_or_eq_true (r4.2 != (0:Int))with cF12 | cF12
      ·refine ae ?_
       exact w_k (ai hwf)
      ·refine ae ?_
       exact w_k (ai hwf)
     refine au hr (fun cF13 hr=>?_) (fun cF13 hr=>?_)
     ·refine aj ?_
      refine ah ?_
      refine w_n ?_
      refine bu ?_
      obtain rfl:=hD _ hr
      exact (cw (ba (ai (os':=[]) (sl:=[(6,.cv (.val (.bool false)))]) hwf) ⟨rfl,aK hwf⟩))
     ·refine aL ?_
      refine w_n ?_
      refine aj ?_
      refine A_s ?_
      refine au hr (fun cF14 hr=>?_) (fun cF14 hr=>?_)
      ·refine aj ?_
       refine ah ?_
       refine w_n ?_
       refine bu ?_
       obtain rfl:=hD _ hr
       exact (cw (ba (ai (os':=[]) (sl:=[(6,.cv (.val (.bool true)))]) hwf) ⟨rfl,aK hwf⟩))
      ·refine aL ?_
       refine w_n ?_
       refine aj ?_
       exact hr.elim
   ·rw[xF23]at hr
    dsimp only at hr
    refine be (out:=?o_eF8b) (hp:=?p_eF8b) ?c_eF8b ?d_eF8b ?_
    case c_eF8b=>exact bY p (40:Int) eF8 xF23
    case d_eF8b=>rfl
    refine ae ?_
    refine w_n ?_
    refine aj ?_
    refine bE ?_
    refine aw 1 ?_
    obtain ⟨r5,eF16,hr⟩:=hr.bind
    try dsimp only at hr
    rcases xF22:r5.1 with _ | y3
    ·rw[xF22]at hr
     dsimp only at hr
     refine be (out:=?o_eF16a) (hp:=?p_eF16a) ?c_eF16a ?d_eF16a ?_
     case c_eF16a=>exact bX (aW.mk [] []) (40:Int) eF16 xF22
     case d_eF16a=>rfl
     refine ae ?_
     refine w_n ?_
     refine aj ?_
     refine cq (sj:=⟨[(1,.cv (.val (.sl (List.map eI l)))),(2,.cv (.val (.bool is))),(10,.cv (.val (.ptr none))),(11,.cv (.val (.int .i64 r2.2))),(12,.cv (.val (.ptr (some (h.n+5,0))))),(14,.cv (.val (.ptr none))),(70,.cv (.val (.bool true)))],h.on [none,none,none,none,some (.cells (bQ eU y1.trie.like++([.val (.sl (List.map (eA eU) y1.trie.first))]:List CV))),some (.cells [.val (.sl (List.map bD y1.rules)),.val (.ptr (some (h.n+4,0))),.val (.int .i64 y1.classes)])]⟩) (bE ?_) ?_
     ·refine aw 3 ?_
      rcases Bool.eq_false_or_eq_true (r5.2 != (0:Int))with cF17 | cF17
      ·refine ae ?_
       exact w_k (ai hwf)
      ·refine ae ?_
       exact w_k (ai hwf)
     refine jP true (fun _=>?_) (fun cF18=>by cases cF18)
     refine A_s ?_
     refine bu ?_
     obtain rfl:=hD _ hr
     exact (cw (ba (ai (os':=[]) (sl:=[(6,.cv (.val (.bool false)))]) hwf) ⟨rfl,aK hwf⟩))
    ·rw[xF22]at hr
     dsimp only at hr
     refine be (out:=?o_eF16b) (hp:=?p_eF16b) ?c_eF16b ?d_eF16b ?_
     case c_eF16b=>exact bY (aW.mk [] []) (40:Int) eF16 xF22
     case d_eF16b=>rfl
     refine ae ?_
     refine w_n ?_
     refine aj ?_
     refine cq (sj:=⟨[(1,.cv (.val (.sl (List.map eI l)))),(2,.cv (.val (.bool is))),(10,.cv (.val (.ptr none))),(11,.cv (.val (.int .i64 r2.2))),(12,.cv (.val (.ptr (some (h.n+5,0))))),(14,.cv (.val (.ptr (some (h.n+10,0))))),(70,.cv (.val (.bool ((r5.2 != (0:Int))||(!((r2.2==(0:Int))==(r3.2==(0:Int))))))))],h.on [none,none,none,none,some (.cells (bQ eU y1.trie.like++([.val (.sl (List.map (eA eU) y1.trie.first))]:List CV))),some (.cells [.val (.sl (List.map bD y1.rules)),.val (.ptr (some (h.n+4,0))),.val (.int .i64 y1.classes)]),none,none,none,some (.cells (bQ eU y3.trie.like++([.val (.sl (List.map (eA eU) y3.trie.first))]:List CV))),some (.cells [.val (.sl (List.map bD y3.rules)),.val (.ptr (some (h.n+9,0))),.val (.int .i64 y3.classes)])]⟩) (bE ?_) ?_
     ·refine aw 3 ?_
      rcases Bool.eq_false_or_eq_true (r5.2 != (0:Int))with cF19 | cF19
      ·refine ae ?_
       exact w_k (ai hwf)
      ·refine ae ?_
       exact w_k (ai hwf)
     refine au hr (fun cF20 hr=>?_) (fun cF20 hr=>?_)
     ·refine aj ?_
      refine ah ?_
      refine w_n ?_
      refine bu ?_
      obtain rfl:=hD _ hr
      exact (cw (ba (ai (os':=[]) (sl:=[(6,.cv (.val (.bool false)))]) hwf) ⟨rfl,aK hwf⟩))
     ·refine aL ?_
      refine w_n ?_
      refine aj ?_
      refine A_s ?_
      refine au hr (fun cF21 hr=>?_) (fun cF21 hr=>?_)
      ·refine aj ?_
       refine ah ?_
       refine w_n ?_
       refine bu ?_
       obtain rfl:=hD _ hr
       exact (cw (ba (ai (os':=[]) (sl:=[(6,.cv (.val (.bool false)))]) hwf) ⟨rfl,aK hwf⟩))
      ·refine aL ?_
       refine w_n ?_
       refine aj ?_
       exact hr.elim
  ·rw[xF59]at hr
   dsimp only at hr
   refine be (out:=?o_eF7b) (hp:=?p_eF7b) ?c_eF7b ?d_eF7b ?_
   case c_eF7b=>first | exact bY (aW.mk p.Sets (([(iV.mk is (az.mk (0:Int) (0:Int) []) (az.mk (0:Int) (0:Int) []))])++p.Rules)) (40:Int) eF7 xF59 | (have hA:=fun hh=>bY (h:=hh) (aW.mk p.Sets (([(iV.mk is (az.mk (0:Int) (0:Int) []) (az.mk (0:Int) (0:Int) []))])++p.Rules)) (40:Int) eF7 xF59;simp only[List.map_append,List.map_cons,List.map_nil]at hA;exact hA _) | (have hA:=fun hh=>bY (h:=hh) (aW.mk p.Sets (([(iV.mk is (az.mk (0:Int) (0:Int) []) (az.mk (0:Int) (0:Int) []))])++p.Rules)) (40:Int) eF7 xF59;simp only[List.map_append,List.map_cons,List.map_nil,List.append_assoc,List.cons_append,List.nil_append]at hA;exact hA _)
   case d_eF7b=>rfl
   refine ae ?_
   refine w_n ?_
   refine aj ?_
   refine bE ?_
   refine aw 1 ?_
   obtain ⟨r6,eF24,hr⟩:=hr.bind
   try dsimp only at hr
   rcases xF58:r6.1 with _ | y4
   ·rw[xF58]at hr
    dsimp only at hr
    refine be (out:=?o_eF24a) (hp:=?p_eF24a) ?c_eF24a ?d_eF24a ?_
    case c_eF24a=>exact bX p (40:Int) eF24 xF58
    case d_eF24a=>rfl
    refine ae ?_
    refine w_n ?_
    refine aj ?_
    refine bE ?_
    refine aw 1 ?_
    obtain ⟨r7,eF25,hr⟩:=hr.bind
    try dsimp only at hr
    rcases xF40:r7.1 with _ | y5
    ·rw[xF40]at hr
     dsimp only at hr
     refine be (out:=?o_eF25a) (hp:=?p_eF25a) ?c_eF25a ?d_eF25a ?_
     case c_eF25a=>exact bX (aW.mk [] []) (40:Int) eF25 xF40
     case d_eF25a=>rfl
     refine ae ?_
     refine w_n ?_
     refine aj ?_
     refine cq (sj:=⟨[(1,.cv (.val (.sl (List.map eI l)))),(2,.cv (.val (.bool is))),(10,.cv (.val (.ptr (some (h.n+5,0))))),(11,.cv (.val (.int .i64 r2.2))),(12,.cv (.val (.ptr none))),(14,.cv (.val (.ptr none))),(70,.cv (.val (.bool true)))],h.on [none,none,none,none,some (.cells (bQ eU y.trie.like++([.val (.sl (List.map (eA eU) y.trie.first))]:List CV))),some (.cells [.val (.sl (List.map bD y.rules)),.val (.ptr (some (h.n+4,0))),.val (.int .i64 y.classes)])]⟩) (bE ?_) ?_
     ·refine aw 3 ?_
      rcases Bool.eq_false_or_eq_true (r7.2 != (0:Int))with cF26 | cF26
      ·refine ae ?_
       exact w_k (ai hwf)
      ·refine ae ?_
       exact w_k (ai hwf)
     refine jP true (fun _=>?_) (fun cF27=>by cases cF27)
     refine A_s ?_
     refine bu ?_
     obtain rfl:=hD _ hr
     exact (cw (ba (ai (os':=[]) (sl:=[(6,.cv (.val (.bool false)))]) hwf) ⟨rfl,aK hwf⟩))
    ·rw[xF40]at hr
     dsimp only at hr
     refine be (out:=?o_eF25b) (hp:=?p_eF25b) ?c_eF25b ?d_eF25b ?_
     case c_eF25b=>exact bY (aW.mk [] []) (40:Int) eF25 xF40
     case d_eF25b=>rfl
     refine ae ?_
     refine w_n ?_
     refine aj ?_
     refine cq (sj:=⟨[(1,.cv (.val (.sl (List.map eI l)))),(2,.cv (.val (.bool is))),(10,.cv (.val (.ptr (some (h.n+5,0))))),(11,.cv (.val (.int .i64 r2.2))),(12,.cv (.val (.ptr none))),(14,.cv (.val (.ptr (some (h.n+10,0))))),(70,.cv (.val (.bool ((r7.2 != (0:Int))||(!((r2.2==(0:Int))==(r6.2==(0:Int))))))))],h.on [none,none,none,none,some (.cells (bQ eU y.trie.like++([.val (.sl (List.map (eA eU) y.trie.first))]:List CV))),some (.cells [.val (.sl (List.map bD y.rules)),.val (.ptr (some (h.n+4,0))),.val (.int .i64 y.classes)]),none,none,none,some (.cells (bQ eU y5.trie.like++([.val (.sl (List.map (eA eU) y5.trie.first))]:List CV))),some (.cells [.val (.sl (List.map bD y5.rules)),.val (.ptr (some (h.n+9,0))),.val (.int .i64 y5.classes)])]⟩) (bE ?_) ?_
     ·refine aw 3 ?_
      rcases Bool.eq_false_or_eq_true (r7.2 != (0:Int))with cF28 | cF28
      ·refine ae ?_
       exact w_k (ai hwf)
      ·refine ae ?_
       exact w_k (ai hwf)
     refine au hr (fun cF29 hr=>?_) (fun cF29 hr=>?_)
     ·refine aj ?_
      refine ah ?_
      refine w_n ?_
      refine bu ?_
      obtain rfl:=hD _ hr
      exact (cw (ba (ai (os':=[]) (sl:=[(6,.cv (.val (.bool false)))]) hwf) ⟨rfl,aK hwf⟩))
     ·refine aL ?_
      refine w_n ?_
      refine aj ?_
      refine A_s ?_
      refine au hr (fun cF30 hr=>?_) (fun cF30 hr=>?_)
      ·refine aj ?_
       refine ah ?_
       refine w_n ?_
       refine bu ?_
       obtain rfl:=hD _ hr
       exact (cw (ba (ai (os':=[]) (sl:=[(6,.cv (.val (.bool false)))]) hwf) ⟨rfl,aK hwf⟩))
      ·refine aL ?_
       refine w_n ?_
       refine aj ?_
       refine bE ?_
       refine aw 2 ?_
       obtain ⟨r8,eF31,hr⟩:=hr.bind
       refine be (out:=?o_eF31) (hp:=?p_eF31) ?c_eF31 ?d_eF31 ?_
       case c_eF31=>(refine cT y l (h.n+5) (h.n+4) ?_ ?_ ?_ eF31;exact cE;exact cE;exact pk)
       case d_eF31=>rfl
       refine ae ?_
       refine w_n ?_
       refine aj ?_
       refine bE ?_
       refine aw 2 ?_
       obtain ⟨r9,eF32,hr⟩:=hr.bind
       refine be (out:=?o_eF32) (hp:=?p_eF32) ?c_eF32 ?d_eF32 ?_
       case c_eF32=>(refine cT y5 l (h.n+10) (h.n+9) ?_ ?_ ?_ eF32;exact cE;exact cE;exact pk)
       case d_eF32=>rfl
       refine ae ?_
       refine w_n ?_
       refine aj ?_
       refine A_s ?_
       refine au hr (fun cF33 hr=>?_) (fun cF33 hr=>?_)
       ·refine aj ?_
        refine bE ?_
        refine aw 2 ?_
        obtain ⟨r10,eF34,hr⟩:=hr.bind
        refine be (out:=?o_eF34) (hp:=?p_eF34) ?c_eF34 ?d_eF34 ?_
        case c_eF34=>exact eo r8 r9 eF34
        case d_eF34=>rfl
        refine ae ?_
        refine w_n ?_
        refine bu ?_
        obtain rfl:=hD _ hr
        exact (cw (ba (ai (os':=[]) (sl:=[(6,.cv (.val (.bool r10)))]) hwf) ⟨rfl,aK hwf⟩))
       ·refine aL ?_
        refine w_n ?_
        refine aj ?_
        refine A_s ?_
        refine w_K (D:=D) (fun xX:Unit=>⟨[(1,.cv (.val (.sl (List.map eI l)))),(12,.cv (.val (.ptr none))),(16,.cv (.val (.sl (List.map eI r8)))),(17,.cv (.val (.sl (List.map eI r9))))],h.on []⟩) (fun xX:Unit=>av.k1 r8 r9) (fun xX s' hr ht=>?_) ?_
        ·dsimp only[av.k1]at hr ht
         refine (eO ht ?_)
         obtain ⟨_,vF36,hr⟩:=hr.bind
         refine cq (sj:=⟨[(6,.cv (.val (.bool false)))],h.on []⟩) (bE ?_) ?_
         ·have hr:=Holds.intro (D:=fun z=>z=()) vF36 rfl
          refine aw 7 ?_
          rcases hr.ite with ⟨cF35,hr⟩ | ⟨cF35,hr⟩
          ·refine aw 2 ?_
           exact hr.elim
          ·refine aw 2 ?_
           refine iu ?_
           refine ae ?_
           exact w_k (ai hwf)
         refine bu ?_
         obtain rfl:=hD _ hr
         exact (ba (ai (os':=[]) (sl:=[(6,.cv (.val (.bool false)))]) hwf) ⟨rfl,aK hwf⟩)
        ·refine aI ?_
         refine cI (fun xX:Int=>⟨[(1,.cv (.val (.sl (List.map eI l)))),(10,.cv (.val (.ptr (some (h.n+5,0))))),(12,.cv (.val (.ptr none))),(16,.cv (.val (.sl (List.map eI r8)))),(17,.cv (.val (.sl (List.map eI r9)))),(18,.cv (.val (.int .i64 xX)))],h.on [none,none,none,none,some (.cells (bQ eU y.trie.like++([.val (.sl (List.map (eA eU) y.trie.first))]:List CV))),some (.cells [.val (.sl (List.map bD y.rules)),.val (.ptr (some (h.n+4,0))),.val (.int .i64 y.classes)])]⟩) hr (ai hwf) (fun W1 xX hr=>?_)
         obtain ⟨i,rfl⟩:∃ z,z=xX:=⟨xX,rfl⟩
         dsimp only[av.b1]at hr
         refine aj ?_
         refine A_s ?_
         refine au hr (fun cF37 hr=>?_) (fun cF37 hr=>?_)
         ·refine aL ?_
          refine w_n ?_
          refine aj ?_
          refine aI ?_
          refine aj ?_
          refine bE ?_
          refine aw 3 ?_
          obtain ⟨r11,eF38,hr⟩:=hr.bind
          refine be (out:=?o_eF38) (hp:=?p_eF38) ?c_eF38 ?d_eF38 ?_
          case c_eF38=>(refine gK y l i (h.n+5) (h.n+4) ?_ ?_ ?_ eF38;exact cE;exact cE;exact pk)
          case d_eF38=>rfl
          refine de ?_
          refine w_n ?_
          refine au hr (fun cF39 hr=>?_) (fun cF39 hr=>?_)
          ·refine aj ?_
           refine ah ?_
           refine w_n ?_
           refine bu ?_
           obtain rfl:=hD _ hr
           exact (fQ (cw (cw (fQ (cw (cw (ba (ai (os':=[]) (sl:=[(6,.cv (.val (.bool false)))]) hwf) ⟨rfl,aK hwf⟩)))))))
          ·refine aL ?_
           refine (eY (w_n ?_))
           refine ah ?_
           exact (w_k ⟨(IntKind.i64.wrap (i+(1:Int))),hr,(ai hwf)⟩)
         ·refine cG ?_
          exact (dG (dG (iy (w_k ⟨(),(hr).map,(ai hwf)⟩))))
   ·rw[xF58]at hr
    dsimp only at hr
    refine be (out:=?o_eF24b) (hp:=?p_eF24b) ?c_eF24b ?d_eF24b ?_
    case c_eF24b=>exact bY p (40:Int) eF24 xF58
    case d_eF24b=>rfl
    refine ae ?_
    refine w_n ?_
    refine aj ?_
    refine bE ?_
    refine aw 1 ?_
    obtain ⟨r12,eF41,hr⟩:=hr.bind
    try dsimp only at hr
    rcases xF57:r12.1 with _ | y6
    ·rw[xF57]at hr
     dsimp only at hr
     refine be (out:=?o_eF41a) (hp:=?p_eF41a) ?c_eF41a ?d_eF41a ?_
     case c_eF41a=>exact bX (aW.mk [] []) (40:Int) eF41 xF57
     case d_eF41a=>rfl
     refine ae ?_
     refine w_n ?_
     refine aj ?_
     refine cq (sj:=⟨[(1,.cv (.val (.sl (List.map eI l)))),(2,.cv (.val (.bool is))),(10,.cv (.val (.ptr (some (h.n+5,0))))),(11,.cv (.val (.int .i64 r2.2))),(12,.cv (.val (.ptr (some (h.n+10,0))))),(14,.cv (.val (.ptr none))),(70,.cv (.val (.bool true)))],h.on [none,none,none,none,some (.cells (bQ eU y.trie.like++([.val (.sl (List.map (eA eU) y.trie.first))]:List CV))),some (.cells [.val (.sl (List.map bD y.rules)),.val (.ptr (some (h.n+4,0))),.val (.int .i64 y.classes)]),none,none,none,some (.cells (bQ eU y4.trie.like++([.val (.sl (List.map (eA eU) y4.trie.first))]:List CV))),some (.cells [.val (.sl (List.map bD y4.rules)),.val (.ptr (some (h.n+9,0))),.val (.int .i64 y4.classes)])]⟩) (bE ?_) ?_
     ·refine aw 3 ?_
      rcases Bool.eq_false_or_eq_true (r12.2 != (0:Int))with cF42 | cF42
      ·refine ae ?_
       exact w_k (ai hwf)
      ·refine ae ?_
       exact w_k (ai hwf)
     refine jP true (fun _=>?_) (fun cF43=>by cases cF43)
     refine A_s ?_
     refine bu ?_
     obtain rfl:=hD _ hr
     exact (cw (ba (ai (os':=[]) (sl:=[(6,.cv (.val (.bool false)))]) hwf) ⟨rfl,aK hwf⟩))
    ·rw[xF57]at hr
     dsimp only at hr
     refine be (out:=?o_eF41b) (hp:=?p_eF41b) ?c_eF41b ?d_eF41b ?_
     case c_eF41b=>exact bY (aW.mk [] []) (40:Int) eF41 xF57
     case d_eF41b=>rfl
     refine ae ?_
     refine w_n ?_
     refine aj ?_
     refine cq (sj:=⟨[(1,.cv (.val (.sl (List.map eI l)))),(2,.cv (.val (.bool is))),(10,.cv (.val (.ptr (some (h.n+5,0))))),(11,.cv (.val (.int .i64 r2.2))),(12,.cv (.val (.ptr (some (h.n+10,0))))),(14,.cv (.val (.ptr (some (h.n+15,0))))),(70,.cv (.val (.bool ((r12.2 != (0:Int))||(!((r2.2==(0:Int))==(r6.2==(0:Int))))))))],h.on [none,none,none,none,some (.cells (bQ eU y.trie.like++([.val (.sl (List.map (eA eU) y.trie.first))]:List CV))),some (.cells [.val (.sl (List.map bD y.rules)),.val (.ptr (some (h.n+4,0))),.val (.int .i64 y.classes)]),none,none,none,some (.cells (bQ eU y4.trie.like++([.val (.sl (List.map (eA eU) y4.trie.first))]:List CV))),some (.cells [.val (.sl (List.map bD y4.rules)),.val (.ptr (some (h.n+9,0))),.val (.int .i64 y4.classes)]),none,none,none,some (.cells (bQ eU y6.trie.like++([.val (.sl (List.map (eA eU) y6.trie.first))]:List CV))),some (.cells [.val (.sl (List.map bD y6.rules)),.val (.ptr (some (h.n+14,0))),.val (.int .i64 y6.classes)])]⟩) (bE ?_) ?_
     ·refine aw 3 ?_
      rcases Bool.eq_false_or_eq_true (r12.2 != (0:Int))with cF44 | cF44
      ·refine ae ?_
       exact w_k (ai hwf)
      ·refine ae ?_
       exact w_k (ai hwf)
     refine au hr (fun cF45 hr=>?_) (fun cF45 hr=>?_)
     ·refine aj ?_
      refine ah ?_
      refine w_n ?_
      refine bu ?_
      obtain rfl:=hD _ hr
      exact (cw (ba (ai (os':=[]) (sl:=[(6,.cv (.val (.bool false)))]) hwf) ⟨rfl,aK hwf⟩))
     ·refine aL ?_
      refine w_n ?_
      refine aj ?_
      refine A_s ?_
      refine au hr (fun cF46 hr=>?_) (fun cF46 hr=>?_)
      ·refine aj ?_
       refine ah ?_
       refine w_n ?_
       refine bu ?_
       obtain rfl:=hD _ hr
       exact (cw (ba (ai (os':=[]) (sl:=[(6,.cv (.val (.bool false)))]) hwf) ⟨rfl,aK hwf⟩))
      ·refine aL ?_
       refine w_n ?_
       refine aj ?_
       refine bE ?_
       refine aw 2 ?_
       obtain ⟨r13,eF47,hr⟩:=hr.bind
       refine be (out:=?o_eF47) (hp:=?p_eF47) ?c_eF47 ?d_eF47 ?_
       case c_eF47=>(refine cT y l (h.n+5) (h.n+4) ?_ ?_ ?_ eF47;exact cE;exact cE;exact pk)
       case d_eF47=>rfl
       refine ae ?_
       refine w_n ?_
       refine aj ?_
       refine bE ?_
       refine aw 2 ?_
       obtain ⟨r14,eF48,hr⟩:=hr.bind
       refine be (out:=?o_eF48) (hp:=?p_eF48) ?c_eF48 ?d_eF48 ?_
       case c_eF48=>(refine cT y6 l (h.n+15) (h.n+14) ?_ ?_ ?_ eF48;exact cE;exact cE;exact pk)
       case d_eF48=>rfl
       refine ae ?_
       refine w_n ?_
       refine aj ?_
       refine A_s ?_
       refine au hr (fun cF49 hr=>?_) (fun cF49 hr=>?_)
       ·refine aj ?_
        refine bE ?_
        refine aw 2 ?_
        obtain ⟨r15,eF50,hr⟩:=hr.bind
        refine be (out:=?o_eF50) (hp:=?p_eF50) ?c_eF50 ?d_eF50 ?_
        case c_eF50=>exact eo r13 r14 eF50
        case d_eF50=>rfl
        refine ae ?_
        refine w_n ?_
        refine bu ?_
        obtain rfl:=hD _ hr
        exact (cw (ba (ai (os':=[]) (sl:=[(6,.cv (.val (.bool r15)))]) hwf) ⟨rfl,aK hwf⟩))
       ·refine aL ?_
        refine w_n ?_
        refine aj ?_
        refine A_s ?_
        refine w_K (D:=D) (fun xX:Unit=>⟨[(1,.cv (.val (.sl (List.map eI l)))),(12,.cv (.val (.ptr (some (h.n+10,0))))),(16,.cv (.val (.sl (List.map eI r13)))),(17,.cv (.val (.sl (List.map eI r14))))],h.on [none,none,none,none,none,none,none,none,none,some (.cells (bQ eU y4.trie.like++([.val (.sl (List.map (eA eU) y4.trie.first))]:List CV))),some (.cells [.val (.sl (List.map bD y4.rules)),.val (.ptr (some (h.n+9,0))),.val (.int .i64 y4.classes)])]⟩) (fun xX:Unit=>av.k2 l y4 r13 r14) (fun xX s' hr ht=>?_) ?_
        ·dsimp only[av.k2]at hr ht
         refine (eO ht ?_)
         obtain ⟨v5,vF53,hr⟩:=hr.bind
         refine cq (sj:=⟨[(6,.cv (.val (.bool v5)))],h.on []⟩) (bE ?_) ?_
         ·have hr:=Holds.intro (D:=fun z=>z=v5) vF53 rfl
          refine aw 7 ?_
          rcases hr.ite with ⟨cF51,hr⟩ | ⟨cF51,hr⟩
          ·refine aw 2 ?_
           obtain ⟨r16,eF52,hr⟩:=hr.bind
           refine be (out:=?o_eF52) (hp:=?p_eF52) ?c_eF52 ?d_eF52 ?_
           case c_eF52=>(refine cT y4 l (h.n+10) (h.n+9) ?_ ?_ ?_ eF52;exact cE;exact cE;exact pk)
           case d_eF52=>rfl
           refine ae ?_
           obtain rfl:_=v5:=hr
           exact w_k (ai hwf)
          ·refine aw 2 ?_
           refine iu ?_
           refine ae ?_
           obtain rfl:_=v5:=hr
           exact w_k (ai hwf)
         refine bu ?_
         obtain rfl:=hD _ hr
         exact (ba (ai (os':=[]) (sl:=[(6,.cv (.val (.bool v5)))]) hwf) ⟨rfl,aK hwf⟩)
        ·refine aI ?_
         refine cI (fun xX:Int=>⟨[(1,.cv (.val (.sl (List.map eI l)))),(10,.cv (.val (.ptr (some (h.n+5,0))))),(12,.cv (.val (.ptr (some (h.n+10,0))))),(16,.cv (.val (.sl (List.map eI r13)))),(17,.cv (.val (.sl (List.map eI r14)))),(18,.cv (.val (.int .i64 xX)))],h.on [none,none,none,none,some (.cells (bQ eU y.trie.like++([.val (.sl (List.map (eA eU) y.trie.first))]:List CV))),some (.cells [.val (.sl (List.map bD y.rules)),.val (.ptr (some (h.n+4,0))),.val (.int .i64 y.classes)]),none,none,none,some (.cells (bQ eU y4.trie.like++([.val (.sl (List.map (eA eU) y4.trie.first))]:List CV))),some (.cells [.val (.sl (List.map bD y4.rules)),.val (.ptr (some (h.n+9,0))),.val (.int .i64 y4.classes)])]⟩) hr (ai hwf) (fun W2 xX hr=>?_)
         obtain ⟨i1,rfl⟩:∃ z,z=xX:=⟨xX,rfl⟩
         dsimp only[av.b2]at hr
         refine aj ?_
         refine A_s ?_
         refine au hr (fun cF54 hr=>?_) (fun cF54 hr=>?_)
         ·refine aL ?_
          refine w_n ?_
          refine aj ?_
          refine aI ?_
          refine aj ?_
          refine bE ?_
          refine aw 3 ?_
          obtain ⟨r17,eF55,hr⟩:=hr.bind
          refine be (out:=?o_eF55) (hp:=?p_eF55) ?c_eF55 ?d_eF55 ?_
          case c_eF55=>(refine gK y l i1 (h.n+5) (h.n+4) ?_ ?_ ?_ eF55;exact cE;exact cE;exact pk)
          case d_eF55=>rfl
          refine de ?_
          refine w_n ?_
          refine au hr (fun cF56 hr=>?_) (fun cF56 hr=>?_)
          ·refine aj ?_
           refine ah ?_
           refine w_n ?_
           refine bu ?_
           obtain rfl:=hD _ hr
           exact (fQ (cw (cw (fQ (cw (cw (ba (ai (os':=[]) (sl:=[(6,.cv (.val (.bool false)))]) hwf) ⟨rfl,aK hwf⟩)))))))
          ·refine aL ?_
           refine (eY (w_n ?_))
           refine ah ?_
           exact (w_k ⟨(IntKind.i64.wrap (i1+(1:Int))),hr,(ai hwf)⟩)
         ·refine cG ?_
          exact (dG (dG (iy (w_k ⟨(),(hr).map,(ai hwf)⟩))))
end Go.Val
namespace Go.Val
theorem w64 {n:Int} (h1: -9223372036854775808≤n) (h2:n≤9223372036854775807):IntKind.i64.wrap n=n:=by rw[IntKind.wrap_i64];omega
theorem fH {i:Nat} (h:i < 9223372036854775807):IntKind.i64.wrap ((i:Int)+1)=((i+1:Nat):Int):=by rw[w64 (by omega) (by omega)];omega
theorem bw {α:Type} {xs:List α} {i:Nat}:idx xs (i:Int)=xs[i]? :=by
 unfold idx;rw[if_neg (by omega)];simp
theorem rp {α:Type} {xs:List α} {i:Int} {x:α} (h0:0≤i) (h:xs[i.toNat]? =some x):idx xs i=some x:=by
 unfold idx;rw[if_neg (by omega)];exact h
theorem cL {sz n:Nat} (h:n*sz≤140737488355328):room sz n=some ():=by
 unfold room dC;rw[if_pos h]
theorem ayh {α:Type} {sz:Nat} {z:α} {n:Nat} (h:n*sz≤140737488355328):mk sz z (n:Int)=some (List.replicate n z):=by
 unfold mk dC;rw[if_pos ⟨by omega,by simpa using h⟩];simp
theorem mP {α:Type} {P:List α→Prop} (h0:P []) (h1:∀ l x,P l→P (l++[x])) (l:List α):P l:=by
 have key:∀ l:List α,P l.reverse:=by
  intro l
  induction l with
  | nil=>exact h0
  | cons x l ih=>rw[List.reverse_cons];exact h1 _ _ ih
 have:=key l.reverse
 rwa[List.reverse_reverse]at this
theorem fc {σ ρ:Type} {b:σ→Option (Step σ ρ)} (st:Nat→σ) {i n:Nat} (hin:i≤n) (h:∀ j,i≤j→j < n→b (st j)=some (.next (st (j+1)))):Loop b (st i)=Loop b (st n):=by
 induction n with
 | zero=>obtain rfl:i=0:=by omega
         rfl
 | succ n ih=>
  by_cases e:i=n+1
  ·rw[e]
  ·rw[ih (by omega) fun j h1 h2=>h j h1 (by omega)]
   exact bM (h n (by omega) (by omega))
theorem oP {ρ:Type} {b:Int→Option (Step Int ρ)} {i n:Nat} (hin:i≤n) (h:∀ j:Nat,i≤j→j < n→b j=some (.next ((j+1:Nat):Int))):Loop b (i:Int)=Loop b (n:Int):=fc (fun j:Nat=>(j:Int)) hin h
theorem bP {σ ρ:Type} {b:σ→Option (Step σ ρ)} {s:σ} {R:Option ρ} (h:b s=R.map Step.done):Loop b s=R:=by
 cases R with
 | some r=>exact cV h
 | none=>
  apply Option.ext_some
  ·intro r hr
   obtain ⟨n,hn⟩:=qV hr
   cases n with
   | zero=>simp[rounds]at hn
   | succ n=>simp[rounds,h]at hn
  ·intro r hr;cases hr
open Classical in
theorem aqK {ρ:Type} {b:Int→Option (Step Int ρ)} (P:Nat→Prop) {n:Nat} {r R:ρ} (hg:∀ j,j < n→P j→b (j:Int)=some (.next ((j+1:Nat):Int))) (hb:∀ j,j < n→¬ P j→b (j:Int)=some (.done r)) (he:b (n:Int)=some (.done R)):
  ∀ (d i:Nat),i+d=n→Loop b (i:Int)=if ∀ j,i≤j→j < n→P j then some R else some r:=by
 intro d
 induction d with
 | zero=>
  intro i hi
  obtain rfl:i=n:=by omega
  rw[if_pos (fun j h1 h2=>by omega)]
  exact cV he
 | succ d ih=>
  intro i hi
  by_cases hp:P i
  ·rw[bM (hg i (by omega) hp),ih (i+1) (by omega)]
   have:(∀ j,i+1≤j→j < n→P j)↔∀ j,i≤j→j < n→P j:=by
    constructor
    ·intro h j h1 h2
     by_cases e:j=i
     ·rw[e];exact hp
     ·exact h j (by omega) h2
    ·intro h j h1 h2;exact h j (by omega) h2
   simp only[this]
  ·rw[cV (hb i (by omega) hp),if_neg (fun h=>hp (h i (Nat.le_refl _) (by omega)))]
theorem sy {ρ:Type} {b:Int→Option (Step Int ρ)} (P:Nat→Prop) (n:Nat) {r R:ρ} (hg:∀ j,j < n→P j→b (j:Int)=some (.next ((j+1:Nat):Int))) (hb:∀ j,j < n→¬ P j→b (j:Int)=some (.done r)) (he:b (n:Int)=some (.done R)):
  ((∀ j,j < n→P j)→Loop b 0=some R)∧((¬ ∀ j,j < n→P j)→Loop b 0=some r):=by
 have:=aqK P hg hb he n 0 (by omega)
 exact ⟨fun h=>by rw[if_pos (fun j _ hj=>h j hj)]at this;exact this,fun h=>by rw[if_neg (fun h'=>h fun j hj=>h' j (Nat.zero_le _) hj)]at this;exact this⟩
theorem kD {σ ρ:Type} {body:σ→Option (Step σ ρ)} {Q:ρ→Prop} (I:σ→Prop) (μ:σ→Nat)
  (h:∀ s,I s→(∃ s',body s=some (.next s')∧I s'∧μ s' < μ s)∨(∃ r,body s=some (.done r)∧Q r)):∀ s,I s→∃ r,Loop body s=some r∧Q r:=by
 have key:∀ (n:Nat) (s:σ),μ s=n→I s→∃ r,Loop body s=some r∧Q r:=by
  intro n
  induction n using Nat.strongRecOn with
  | _ n ih=>
   intro s hn hs
   rcases h s hs with ⟨s',h1,h2,h3⟩ | ⟨r,h1,h2⟩
   ·rw[bM h1]
    exact ih _ (by omega) s' rfl h2
   ·exact ⟨r,cV h1,h2⟩
 intro s hs
 exact key _ s rfl hs
def In (a:List ak) (r:Int):Prop:=∃ x∈a,x.Low≤r∧r≤x.High
def Ok (x:ak):Prop:=0≤x.Low∧x.Low≤x.High∧x.High≤1114111
def gQ (a:List ak):Prop:=(∀ x∈a,Ok x)∧a.Pairwise (fun x y=>x.High+1 < y.Low)
theorem um {r:Int}:¬ In [] r:=by rintro ⟨x,h,_⟩;cases h
theorem lj {x:ak} {l:List ak} {r:Int}:In (x::l) r↔(x.Low≤r∧r≤x.High)∨In l r:=by
 simp only[In,List.mem_cons]
 constructor
 ·rintro ⟨y,rfl | h,hy⟩
  ·exact .inl hy
  ·exact .inr ⟨y,h,hy⟩
 ·rintro (h | ⟨y,h,hy⟩)
  ·exact ⟨x,.inl rfl,h⟩
  ·exact ⟨y,.inr h,hy⟩
theorem jE {l m:List ak} {r:Int}:In (l++m) r↔In l r∨In m r:=by
 simp only[In,List.mem_append]
 constructor
 ·rintro ⟨y,h | h,hy⟩
  ·exact .inl ⟨y,h,hy⟩
  ·exact .inr ⟨y,h,hy⟩
 ·rintro (⟨y,h,hy⟩ | ⟨y,h,hy⟩)
  ·exact ⟨y,.inl h,hy⟩
  ·exact ⟨y,.inr h,hy⟩
theorem ow {x:ak} {r:Int}:In [x] r↔x.Low≤r∧r≤x.High:=by
 rw[lj]
 exact ⟨fun h=>h.elim id fun h=>absurd h um,.inl⟩
theorem atu {l m:List ak} (h:l.Perm m) {r:Int}:In l r↔In m r:=by
 simp only[In,h.mem_iff]
theorem mS:gQ []:=⟨fun x h=>(by cases h),.nil⟩
theorem ku {x:ak} {l:List ak}:gQ (x::l)↔Ok x∧(∀ y∈l,x.High+1 < y.Low)∧gQ l:=by
 simp only[gQ,List.mem_cons,forall_eq_or_imp,List.pairwise_cons]
 constructor
 ·rintro ⟨⟨h1,h2⟩,h3,h4⟩;exact ⟨h1,h3,h2,h4⟩
 ·rintro ⟨h1,h3,h2,h4⟩;exact ⟨⟨h1,h2⟩,h3,h4⟩
theorem iO {x:ak} {l:List ak}:gQ (l++[x])↔gQ l∧Ok x∧∀ y∈l,y.High+1 < x.Low:=by
 simp only[gQ,List.mem_append,List.mem_singleton,List.pairwise_append]
 constructor
 ·rintro ⟨h1,h2,h3,h4⟩
  exact ⟨⟨fun y hy=>h1 y (.inl hy),h2⟩,h1 x (.inr rfl),fun y hy=>h4 y hy x rfl⟩
 ·rintro ⟨⟨h1,h2⟩,h3,h4⟩
  refine ⟨fun y hy=>?_,h2,List.pairwise_singleton _ _,fun y hy z hz=>?_⟩
  ·rcases hy with hy | rfl
   ·exact h1 y hy
   ·exact h3
  ·subst hz;exact h4 y hy
theorem gQ.bound {a:List ak} (h:gQ a) {r:Int} (hr:In a r):0≤r∧r≤1114111:=by
 obtain ⟨x,hx,h1,h2⟩:=hr
 have:=h.1 x hx
 unfold Ok at this
 omega
theorem afp {a:List ak} (h:gQ a) {x:ak} (hx:x∈a):In a x.Low:=⟨x,hx,Int.le_refl _,(h.1 x hx).2.1⟩
theorem avj {a:List ak} (h:gQ a) {x:ak} (hx:x∈a):In a x.High:=⟨x,hx,(h.1 x hx).2.1,Int.le_refl _⟩
theorem gQ.unique:∀ {a b:List ak},gQ a→gQ b→(∀ r,In a r↔In b r)→a=b
 | [],[],_,_,_=>rfl
 | [],y::m,_,hb,h=>absurd ((h y.Low).2 (afp hb (by simp))) um
 | x::l,[],ha,_,h=>absurd ((h x.Low).1 (afp ha (by simp))) um
 | x::l,y::m,ha,hb,h=>by
  have ha':=ku.1 ha
  have hb':=ku.1 hb
  have hxo:=ha'.1
  have hyo:=hb'.1
  unfold Ok at hxo hyo
  have low:∀ {x:ak} {l:List ak},gQ (x::l)→∀ {r:Int},In (x::l) r→x.Low≤r:=fun {x l} hn {r} hr=>by
   have hn':=ku.1 hn
   have ho:=hn'.1
   unfold Ok at ho
   rcases lj.1 hr with h | ⟨z,hz,h1,h2⟩
   ·exact h.1
   ·have:=hn'.2.1 z hz;omega
  have next:∀ {x:ak} {l:List ak},gQ (x::l)→¬ In (x::l) (x.High+1):=fun {x l} hn hr=>by
   have hn':=ku.1 hn
   rcases lj.1 hr with h | ⟨z,hz,h1,h2⟩
   ·omega
   ·have:=hn'.2.1 z hz;omega
  have e1:x.Low=y.Low:=by
   have h1:=low hb ((h x.Low).1 (afp ha (by simp)))
   have h2:=low ha ((h y.Low).2 (afp hb (by simp)))
   omega
  have e2:x.High=y.High:=by
   have h1:¬ x.High < y.High:=fun hlt=>next ha ((h _).2 (lj.2 (.inl ⟨by omega,by omega⟩)))
   have h2:¬ y.High < x.High:=fun hlt=>next hb ((h _).1 (lj.2 (.inl ⟨by omega,by omega⟩)))
   omega
  have e:x=y:=by cases x;cases y;simp_all
  subst e
  rw[gQ.unique ha'.2.2 hb'.2.2 fun r=>?_]
  constructor
  ·intro hr
   rcases lj.1 ((h r).1 (lj.2 (.inr hr)))with h1 | h1
   ·obtain ⟨z,hz,k1,k2⟩:=hr
    have:=ha'.2.1 z hz;omega
   ·exact h1
  ·intro hr
   rcases lj.1 ((h r).2 (lj.2 (.inr hr)))with h1 | h1
   ·obtain ⟨z,hz,k1,k2⟩:=hr
    have:=hb'.2.1 z hz;omega
   ·exact h1
theorem axu {a b:Int}:a≤mx a b∧b≤mx a b:=by unfold mx;split <;> omega
theorem azU {a b c:Int} (h1:a≤c) (h2:b≤c):mx a b≤c:=by unfold mx;split <;> omega
theorem azQ {a b:Int}:mx a b=a∨mx a b=b:=by unfold mx;split <;> simp
theorem afe {n:Nat} (h:n < 9223372036854775807):IntKind.i64.wrap (((n+1:Nat):Int) - 1)=n:=by rw[w64 (by omega) (by omega)];omega
theorem ap7 {out:List ak} {x:ak} (hn:gQ out) (hx:Ok x) (hl:∀ y∈out,y.Low≤x.Low) (hlen:(out.length+1)*16≤140737488355328):
  ∃ out',iF out x=some out'∧gQ out'∧(∀ r,In out' r↔In out r∨(x.Low≤r∧r≤x.High))∧out'.length≤out.length+1∧∀ y∈out',y.Low≤x.Low:=by
 have hxo:=hx
 unfold Ok at hxo
 rcases List.eq_nil_or_concat out with rfl | ⟨init,y,rfl⟩
 ·refine ⟨[x],?_,iO (l:=[]).2 ⟨mS,hx,fun y h=>by cases h⟩,fun r=>?_,by simp,fun y hy=>?_⟩
  ·unfold iF
   rw[if_neg (by simp),oB,if_neg (by simp),cL (by simp),oB];rfl
  ·rw[ow];exact ⟨.inr,fun h=>h.elim (fun h=>absurd h um) id⟩
  ·simp at hy;subst hy;omega
 ·rw[List.concat_eq_append]at*
  have hlen':(init++[y]).length=init.length+1:=by simp
  obtain ⟨n1,n2,n3⟩:=iO.1 hn
  have hyo:=n2
  unfold Ok at hyo
  have hyl:=hl y (by simp)
  have hi:(init++[y])[init.length]? =some y:=by simp
  have hbig:init.length < 9223372036854775807:=by rw[hlen']at hlen;omega
  have hw:IntKind.i64.wrap (((init++[y]).length:Int) - 1)=(init.length:Int):=by rw[hlen'];exact afe hbig
  have hcond:(if (decide (((init++[y]).length:Int) > (0:Int)))then
   (idx (init++[y]) (IntKind.i64.wrap (((init++[y]).length:Int) - (1:Int)))).bind fun x1=>
   some (decide (x.Low≤(IntKind.i64.wrap (x1.High+(1:Int)))))
  else
   some false)=some (decide (x.Low≤y.High+1)):=by
   rw[if_pos (by simp),hw,bw,hi,oB,w64 (by omega) (by omega)]
  by_cases hc:x.Low≤y.High+1
  ·refine ⟨init++[⟨y.Low,mx y.High x.High⟩],?_,iO.2 ⟨n1,⟨(show 0≤y.Low by omega),?_,azU (by omega) (by omega)⟩,n3⟩,fun r=>?_,by simp,fun z hz=>?_⟩
   ·unfold iF
    rw[hcond,oB,if_pos (by simpa using hc),hw,bw,hi,oB]
    try simp
   ·have:=(axu (a:=y.High) (b:=x.High)).1
    show y.Low≤mx y.High x.High
    omega
   ·rw[jE,jE,ow,ow]
    have h1:=axu (a:=y.High) (b:=x.High)
    have h2:=azQ (a:=y.High) (b:=x.High)
    show In init r∨(y.Low≤r∧r≤mx y.High x.High)↔(In init r∨(y.Low≤r∧r≤y.High))∨(x.Low≤r∧r≤x.High)
    constructor
    ·rintro (h | ⟨h3,h4⟩)
     ·exact .inl (.inl h)
     ·by_cases h5:r≤y.High
      ·exact .inl (.inr ⟨h3,h5⟩)
      ·exact .inr ⟨by omega,by omega⟩
    ·rintro ((h | ⟨h3,h4⟩) | ⟨h3,h4⟩)
     ·exact .inl h
     ·exact .inr ⟨h3,by omega⟩
     ·exact .inr ⟨by omega,by omega⟩
   ·rcases List.mem_append.1 hz with hz | hz
    ·exact hl z (by simp[hz])
    ·simp at hz;subst hz;exact hyl
  ·refine ⟨init++[y]++[x],?_,iO.2 ⟨hn,hx,fun z hz=>?_⟩,fun r=>?_,by simp,fun z hz=>?_⟩
   ·unfold iF
    rw[hcond,oB,if_neg (by simpa using hc),cL hlen,oB]
   ·rcases List.mem_append.1 hz with hz | hz
    ·have:=n3 z hz;omega
    ·simp at hz;subst hz;omega
   ·rw[jE,ow]
   ·rcases List.mem_append.1 hz with hz | hz
    ·exact hl z hz
    ·simp at hz;subst hz;omega
theorem tf {l:List ak} {f:ak→Option Bool} {g:ak→Bool} (hf:∀ x∈l,f x=some (g x)) (hl:l.length < 9223372036854775807):ca l f=some (l.any g):=by
 obtain ⟨r,h1,h2⟩:=kD (body:=aC.b1 l f) (Q:=fun r=>decide (r≥(0:Int))=l.any g) (fun v=>∃ k:Nat,v=k∧k≤l.length∧∀ j,j < k→∀ x,l[j]? =some x→g x=false) (fun v=>l.length - v.toNat) (fun s ⟨k,hk,hkl,hall⟩=>by
  subst hk
  by_cases h:k < l.length
  ·have hx:l[k]? =some l[k]:=gE h
   cases hg:g l[k]with
   | true=>
    right
    refine ⟨(k:Int),?_,?_⟩
    ·rw[aC.b1,if_pos (by simpa using h),bw,hx,oB,hf _ (gM h),oB,hg,if_pos rfl]
    ·rw[decide_eq_true (by omega)];symm;rw[List.any_eq_true];exact ⟨_,gM h,hg⟩
   | false=>
    left
    refine ⟨((k+1:Nat):Int),?_,⟨k+1,rfl,h,fun j hj x hx'=>?_⟩,by omega⟩
    ·rw[aC.b1,if_pos (by simpa using h),bw,hx,oB,hf _ (gM h),oB,hg,if_neg (by simp),fH (by omega)]
    ·by_cases e:j=k
     ·subst e;rw[hx]at hx';cases hx';exact hg
     ·exact hall j (by omega) x hx'
  ·right
   obtain rfl:k=l.length:=by omega
   refine ⟨-1,?_,?_⟩
   ·rw[aC.b1,if_neg (by simp)];rfl
   ·rw[decide_eq_false (by omega)];symm;rw[List.any_eq_false]
    intro x hx
    obtain ⟨j,hj,rfl⟩:=List.getElem_of_mem hx
    simp[hall j hj _ (gE hj)]) (0:Int) ⟨0,rfl,Nat.zero_le _,fun j hj=>absurd hj (by omega)⟩
 unfold ca aC
 rw[h1,oB,h2]
theorem aAg:Go.Sort.SWO ltR where
 irrefl x:=by simp[ltR]
 trans x y z h1 h2:=by simp[ltR]at*;omega
 ntrans x y z h1 h2:=by simp[ltR]at*;omega
theorem aiv {l:List ak} (h:l.length≤140737488355328):∃ l',ado l=some l'∧l'.Perm l∧l'.Pairwise (fun x y=>x.Low≤y.Low):=by
 unfold ado
 rw[if_pos (show l.length≤dC from h)]
 obtain ⟨⟨h1,_,h2⟩,h3⟩:=Go.Sort.pdq_sorts ltR aAg l.toArray 0 l.length (Go.Lib.bitLen l.length) true true (Nat.zero_le _) (by simp) (Or.inl rfl)
 generalize Go.Sort.pdq ltR l.toArray 0 l.length (Go.Lib.bitLen l.length) true true=d at h1 h2 h3 ⊢
 have hs:d.size=l.length:=by simpa using h1
 refine ⟨_,rfl,?_,?_⟩
 ·have e1:d.extract 0 l.length=d:=by rw[← hs];simp
  have e2:l.toArray.extract 0 l.length=l.toArray:=by simp
  rw[e1,e2]at h2
  simpa using h2
 ·rw[List.pairwise_iff_getElem]
  intro i j hi hj hij
  have:=h3 i j (Nat.zero_le _) hij (by simpa[hs]using hj)
  rw[getElem!_pos d j (by simpa using hj),getElem!_pos d i (by simpa using hi)]at this
  simp only[ltR,decide_eq_false_iff_not]at this
  simp only[Array.getElem_toList]
  omega
theorem aoA {l:List ak} (h:l.length*16≤140737488355328):ck l=some l:=by
 unfold ck
 rw[cL (by omega)];rfl
instance (x:ak):Decidable (Ok x):=inferInstanceAs (Decidable (_∧_∧_))
theorem yG (x:ak):fR x=some (!decide (Ok x)):=by
 unfold fR Ok
 congr 1
 by_cases h1:x.Low < 0
 ·have:¬ (0≤x.Low∧x.Low≤x.High∧x.High≤1114111):=by omega
  simp[h1,this]
 ·by_cases h2:x.High > 1114111
  ·have:¬ (0≤x.Low∧x.Low≤x.High∧x.High≤1114111):=by omega
   simp[h2,this]
  ·by_cases h3:x.Low > x.High
   ·have:¬ (0≤x.Low∧x.Low≤x.High∧x.High≤1114111):=by omega
    simp[h3,this]
   ·have:0≤x.Low∧x.Low≤x.High∧x.High≤1114111:=by omega
    simp[h1,h2,h3,this]
theorem amG {l:List ak}:(l.any fun x=>!decide (Ok x))= !decide (∀ x∈l,Ok x):=by
 rw[Bool.eq_iff_iff]
 simp
theorem ahN {l:List ak} {s:Nat} {x:ak} (h:l[s]? =some x):l.take (s+1)=l.take s++[x]:=by
 rw[List.take_add_one,h];rfl
theorem aku {l1:List ak} (hok:∀ x∈l1,Ok x) (hs:l1.Pairwise (fun x y=>x.Low≤y.Low)) (hl:l1.length*16≤140737488355328):
  ∃ r,Loop (cD.b1 l1) ([],(0:Int))=some r∧r.2=0∧gQ r.1∧(∀ t,In r.1 t↔In l1 t)∧r.1.length≤l1.length:=by
 refine kD (body:=cD.b1 l1) (fun p=>∃ k:Nat,p.2=k∧k≤l1.length∧gQ p.1∧(∀ t,In p.1 t↔In (l1.take k) t)∧p.1.length≤k∧∀ y∈p.1,∀ z∈l1.drop k,y.Low≤z.Low) (fun p=>l1.length - p.2.toNat) (fun p hp=>?_) _
  ⟨0,rfl,Nat.zero_le _,mS,fun t=>by simp,Nat.le_refl _,fun y hy=>by cases hy⟩
 obtain ⟨out,v⟩:=p
 obtain ⟨k,hk,hkl,hn,hin,hlen,hlow⟩:=hp
 simp only at hk hn hin hlen hlow
 subst hk
 by_cases h:k < l1.length
 ·left
  have hx:l1[k]? =some l1[k]:=gE h
  have hd:l1.drop k=l1[k]::l1.drop (k+1):=List.drop_eq_getElem_cons h
  obtain ⟨out',g1,g2,g3,g4,g5⟩:=ap7 (x:=l1[k]) hn (hok _ (gM h)) (fun y hy=>hlow y hy _ (by rw[hd];exact List.mem_cons_self)) (by omega)
  refine ⟨(out',((k+1:Nat):Int)),?_,⟨k+1,rfl,h,g2,fun t=>?_,by simp only;omega,fun y hy z hz=>?_⟩,by simp only;omega⟩
  ·simp only[cD.b1]
   rw[if_pos (by simpa using h),bw,hx,oB,g1,oB,fH (by omega)]
  ·simp only
   rw[g3,hin,ahN hx,jE,ow]
  ·have h1:=g5 y hy
   rw[List.pairwise_iff_getElem]at hs
   obtain ⟨j,hj,rfl⟩:=List.getElem_of_mem hz
   simp only[List.getElem_drop]
   have:=hs k (k+1+j) h (by simp at hj;omega) (by omega)
   omega
 ·right
  obtain rfl:k=l1.length:=by omega
  refine ⟨(out,0),?_,rfl,hn,fun t=>?_,hlen⟩
  ·simp only[cD.b1]
   rw[if_neg (by simp)];rfl
  ·simp only
   rw[hin,List.take_length]
theorem akZ {l:List ak} (hok:∀ x∈l,Ok x) (hl:l.length*16≤140737488355328):
  ∃ out,cD l=some (out,0)∧gQ out∧(∀ t,In out t↔In l t)∧out.length≤l.length:=by
 obtain ⟨l1,h1,h2,h3⟩:=aiv (l:=l) (by omega)
 obtain ⟨r,g1,g2,g3,g4,g5⟩:=aku (l1:=l1) (fun x hx=>hok x (h2.mem_iff.1 hx)) h3 (by rw[h2.length_eq];exact hl)
 refine ⟨r.1,?_,g3,fun t=>(g4 t).trans (atu h2),by rw[← h2.length_eq];exact g5⟩
 unfold cD
 rw[tf (fun x _=>yG x) (by omega),oB,amG,decide_eq_true hok]
 rw[if_neg (by simp),aoA hl,oB,h1,oB,g1,← g2]
theorem aeI {l:List ak} (hbad:¬ ∀ x∈l,Ok x) (hl:l.length < 9223372036854775807):cD l=some ([],1):=by
 unfold cD
 rw[tf (fun x _=>yG x) hl,oB,amG,decide_eq_false hbad]
 rfl
theorem abP {a b:List ak} (hl:a.length < 9223372036854775807):ct a b=some (decide (a=b)):=by
 unfold ct
 by_cases hlen:a.length=b.length
 ·rw[if_neg (by simp[hlen])]
  have:=sy (b:=ct.b1 a b) (fun j=>a[j]? =b[j]?) a.length (r:=false) (R:=true) (fun j hj hp=>?_) (fun j hj hp=>?_) ?_
  ·by_cases h:a=b
   ·rw[this.1 (fun j _=>by rw[h]),decide_eq_true h]
   ·rw[this.2 (fun hall=>h (List.ext_getElem? fun j=>?_)),decide_eq_false h]
    by_cases hj:j < a.length
    ·exact hall j hj
    ·rw[gN (by omega),gN (by omega)]
  ·have ha:a[j]? =some a[j]:=gE hj
   have hb:b[j]? =some a[j]:=by rw[← hp];exact ha
   rw[ct.b1,if_pos (by simpa using hj),bw,ha,oB,bw,hb,oB,if_neg (by simp),fH (by omega)]
  ·have ha:a[j]? =some a[j]:=gE hj
   have hb:b[j]? =some (b[j]'(by omega)):=gE (by omega)
   rw[ha,hb]at hp
   rw[ct.b1,if_pos (by simpa using hj),bw,ha,oB,bw,hb,oB,if_pos]
   generalize a[j]=x at*
   generalize b[j]'(by omega)=y at*
   cases x;cases y
   simp only[sJ,ak.mk.injEq]at hp
   simp
   omega
  ·rw[ct.b1,if_neg (by simp)];rfl
 ·rw[if_pos (by simp;omega)]
  rw[decide_eq_false (fun h=>hlen (by rw[h]))]
theorem gQ.short:∀ {l:List ak} {lo:Int},gQ l→(∀ x∈l,lo≤x.Low)→(l.length:Int)≤max 0 (1114112 - lo)
 | [],lo,_,_=>by simp;omega
 | x::l,lo,h,hlo=>by
  obtain ⟨h1,h2,h3⟩:=ku.1 h
  unfold Ok at h1
  have:=gQ.short h3 (lo:=x.High+2) (fun y hy=>by have:=h2 y hy;omega)
  have:=hlo x (by simp)
  simp only[List.length_cons]
  omega
theorem gQ.len {l:List ak} (h:gQ l):l.length≤1114112:=by
 have:=h.short (lo:=0) (fun x hx=>(h.1 x hx).1)
 omega
theorem gQ.sep:∀ {a:List ak},gQ a→∀ x∈a,∀ z∈a,z=x∨z.High+1 < x.Low∨x.High+1 < z.Low
 | [],_,x,hx,_,_=>by cases hx
 | y::l,h,x,hx,z,hz=>by
  obtain ⟨h1,h2,h3⟩:=ku.1 h
  rcases List.mem_cons.1 hx with e1 | hx1
  ·rcases List.mem_cons.1 hz with e2 | hz1
   ·exact .inl (e2.trans e1.symm)
   ·rw[e1];exact .inr (.inr (h2 z hz1))
  ·rcases List.mem_cons.1 hz with e2 | hz1
   ·rw[e2];exact .inr (.inl (h2 x hx1))
   ·exact gQ.sep h3 x hx1 z hz1
theorem gQ.below {a:List ak} (h:gQ a) {x:ak} (hx:x∈a):¬ In a (x.Low - 1):=by
 rintro ⟨z,hz,h1,h2⟩
 have k1:=h.1 x hx
 have k2:=h.1 z hz
 unfold Ok at k1 k2
 rcases h.sep x hx z hz with e | e | e
 ·subst e;omega
 ·omega
 ·omega
theorem gQ.take {a:List ak} (h:gQ a) (k:Nat):gQ (a.take k):=⟨fun x hx=>h.1 x (List.mem_of_mem_take hx),h.2.sublist (List.take_sublist _ _)⟩
theorem gQ.drop {a:List ak} (h:gQ a) (k:Nat):gQ (a.drop k):=⟨fun x hx=>h.1 x (List.mem_of_mem_drop hx),h.2.sublist (List.drop_sublist _ _)⟩
def hasB (a:List ak) (r:Int):Bool:=a.any fun x=>decide (x.Low≤r)&&decide (r≤x.High)
theorem lw {a:List ak} {r:Int}:hasB a r=true↔In a r:=by
 simp[hasB,In]
theorem aqm {a:List ak} {r:Int} {p:Prop} [Decidable p] (h:In a r↔p):hasB a r=decide p:=by
 rw[Bool.eq_iff_iff,lw,h];simp
theorem atq {i j:Nat} (h:i+j < 9223372036854775807):shR .u64 (IntKind.u64.wrap (IntKind.i64.wrap ((i:Int)+j))) 1=(((i+j)/2:Nat):Int):=by
 rw[w64 (by omega) (by omega)]
 have:IntKind.u64.wrap ((i:Int)+j)=(i:Int)+j:=by simp[IntKind.wrap,IntKind.bits,IntKind.signed];omega
 rw[this]
 unfold shR
 rw[show (2:Int)^(min (1:Int).toNat IntKind.u64.bits)=2 from rfl,Int.fdiv_eq_ediv_of_nonneg _ (by omega)]
 omega
def ax8 (x:ak) (r:Int):Int:=if x.High < r then -1 else if x.Low > r then 1 else 0
theorem aew (x:ak) (r:Int):fL x r=some (ax8 x r):=by
 unfold fL ax8
 by_cases h1:x.High < r
 ·simp[h1]
 ·by_cases h2:x.Low > r
  ·simp[h1,h2]
  ·simp[h1,h2]
theorem awB {a:List ak} (hn:gQ a) (r:Int):kT a r=some (hasB a r):=by
 have hl:=hn.len
 have hp:=List.pairwise_iff_getElem.1 hn.2
 have ho:=hn.1
 obtain ⟨q,h1,h2⟩:=kD (body:=an.b1 a r fL) (Q:=fun q=>q.2=hasB a r)
  (fun p=>∃ i j:Nat,p.1=i∧p.2=j∧i≤j∧j≤a.length∧(∀ k,k < i→∀ x,a[k]? =some x→x.High < r)∧(∀ k,j≤k→∀ x,a[k]? =some x→r≤x.High)) (fun p=>(p.2 - p.1).toNat) (fun p hp'=>by
  obtain ⟨i0,j0⟩:=p
  obtain ⟨i,j,e1,e2,hij,hj,hlo,hhi⟩:=hp'
  simp only at e1 e2
  subst e1;subst e2
  simp only[an.b1]
  by_cases h:i < j
  ·left
   have hm:(i+j)/2 < a.length:=by omega
   have hx:a[(i+j)/2]? =some a[(i+j)/2]:=gE hm
   rw[if_pos (by simpa using h),atq (by omega),oB,w64 (by omega) (by omega),bw,hx,oB,aew,oB]
   by_cases hc:a[(i+j)/2].High < r
   ·refine ⟨((((i+j)/2+1:Nat):Int),(j:Int)),?_,⟨(i+j)/2+1,j,rfl,rfl,by omega,hj,fun k hk x hx'=>?_,hhi⟩,by simp only;omega⟩
    ·rw[if_pos (by simp[ax8,hc]),fH (by omega)];rfl
    ·by_cases e:k=(i+j)/2
     ·subst e;rw[hx]at hx';cases hx';exact hc
     ·have hkl:k < a.length:=(List.getElem?_eq_some_iff.1 hx').1
      have hkx:a[k]=x:=(List.getElem?_eq_some_iff.1 hx').2
      have:=hp k ((i+j)/2) hkl hm (by omega)
      have o1:=ho _ (gM hm)
      unfold Ok at o1
      rw[hkx]at this
      omega
   ·refine ⟨((i:Int),(((i+j)/2:Nat):Int)),?_,⟨i,(i+j)/2,rfl,rfl,by omega,by omega,hlo,fun k hk x hx'=>?_⟩,by simp only;omega⟩
    ·rw[if_neg (by simp only[ax8,hc,if_false];split <;> simp)];rfl
    ·by_cases e:k=(i+j)/2
     ·subst e;rw[hx]at hx';cases hx';omega
     ·have hkl:k < a.length:=(List.getElem?_eq_some_iff.1 hx').1
      have hkx:a[k]=x:=(List.getElem?_eq_some_iff.1 hx').2
      have:=hp ((i+j)/2) k hm hkl (by omega)
      have o1:=ho _ (gM hkl)
      unfold Ok at o1
      rw[hkx]at this o1
      omega
  ·right
   obtain rfl:i=j:=by omega
   rw[if_neg (by simp)]
   unfold an.k1
   by_cases hi:i < a.length
   ·have hx:a[i]? =some a[i]:=gE hi
    rw[if_pos (by simpa using hi),bw,hx,oB,aew,oB,oB]
    refine ⟨_,rfl,?_⟩
    simp only
    have o1:=ho _ (gM hi)
    have hh:=hhi i (Nat.le_refl _) _ hx
    unfold Ok at o1
    have hin:In a r↔a[i].Low≤r:=by
     constructor
     ·rintro ⟨x,hx',k1,k2⟩
      obtain ⟨k,hk,rfl⟩:=List.getElem_of_mem hx'
      by_cases e:k < i
      ·have:=hlo k e _ (gE hk);omega
      ·by_cases e2:k=i
       ·subst e2;exact k1
       ·have:=hp i k hi hk (by omega);omega
     ·exact fun hlow=>⟨_,gM hi,hlow,hh⟩
    rw[aqm hin,Bool.eq_iff_iff]
    simp only[ax8,beq_iff_eq,decide_eq_true_eq]
    rw[if_neg (by omega)]
    split <;> simp <;> omega
   ·rw[if_neg (by simpa using hi),oB]
    refine ⟨_,rfl,?_⟩
    simp only
    have hin:¬ In a r:=by
     rintro ⟨x,hx',k1,k2⟩
     obtain ⟨k,hk,rfl⟩:=List.getElem_of_mem hx'
     have:=hlo k (by omega) _ (gE hk);omega
    symm
    rw[← Bool.not_eq_true,lw]
    exact hin) ((0:Int),(a.length:Int)) ⟨0,a.length,rfl,rfl,Nat.zero_le _,Nat.le_refl _,fun k hk=>absurd hk (by omega),fun k hk x hx=>by
   have:=(List.getElem?_eq_some_iff.1 hx).1;omega⟩
 unfold kT an
 rw[h1,oB,h2]
theorem yZ {a:List ak} (hl:a.length < 9223372036854775807) (r:Int):cz a r=some (hasB a r):=by
 have:=sy (b:=cz.b1 a r) (fun j=>∀ x,a[j]? =some x→¬ (x.Low≤r∧r≤x.High)) a.length (r:=true) (R:=false) (fun j hj hp=>?_) (fun j hj hp=>?_) ?_
 ·unfold cz
  by_cases h:∀ j,j < a.length→∀ x,a[j]? =some x→¬ (x.Low≤r∧r≤x.High)
  ·rw[this.1 h]
   congr 1
   symm
   rw[← Bool.not_eq_true,lw]
   rintro ⟨x,hx,h1⟩
   obtain ⟨k,hk,rfl⟩:=List.getElem_of_mem hx
   exact h k hk _ (gE hk) h1
  ·rw[this.2 h]
   congr 1
   symm
   rw[lw]
   simp only[Classical.not_forall,Classical.not_not]at h
   obtain ⟨j,hj,x,hx,h1⟩:=h
   exact ⟨x,List.mem_of_getElem? hx,h1⟩
 ·have hx:a[j]? =some a[j]:=gE hj
  have h1:=hp _ hx
  rw[cz.b1,if_pos (by simpa using hj),bw,hx,oB]
  by_cases h2:r≥a[j].Low
  ·rw[if_pos (by simpa using h2),oB,if_neg (by simp;omega),fH (by omega)]
  ·rw[if_neg (by simpa using h2),oB,if_neg (by simp),fH (by omega)]
 ·have hx:a[j]? =some a[j]:=gE hj
  have h1:a[j].Low≤r∧r≤a[j].High:=Classical.not_not.1 fun hn=>hp fun x hx'=>by rw[hx]at hx';cases hx';exact hn
  rw[cz.b1,if_pos (by simpa using hj),bw,hx,oB,if_pos (by simpa using h1.1),oB,if_pos (by simpa using h1.2)]
 ·rw[cz.b1,if_neg (by simp)];rfl
def many (x:ak):Int:=x.High - x.Low+1
theorem tV {α:Type} {l:List α} {s:Nat} {x:α} (h:l[s]? =some x):l.take (s+1)=l.take s++[x]:=by
 rw[List.take_add_one,h];rfl
theorem lC {l:List Int} {n:Int} (hp:l.Pairwise (· < ·)) (hl:(l.length+1)*8≤140737488355328):
  ∃ l',cf l n=some l'∧l'.Pairwise (· < ·)∧(∀ x,x∈l'↔x∈l∨x=n)∧l'.length≤l.length+1:=by
 refine kD (body:=cf.b1 l n) (fun v:Int=>∃ k:Nat,v=(k:Int)∧k≤l.length∧∀ j,j < k→∀ x,l[j]? =some x→x < n) (fun v=>l.length - v.toNat) (fun s hs=>?_) _ ⟨0,rfl,Nat.zero_le _,fun j hj=>absurd hj (by omega)⟩
 obtain ⟨k,rfl,hk,hlo⟩:=hs
 simp only[cf.b1]
 have hpw:=List.pairwise_iff_getElem.1 hp
 by_cases hc:∃ x,l[k]? =some x∧x < n
 ·left
  obtain ⟨x,hx,hxn⟩:=hc
  have hkl:k < l.length:=(List.getElem?_eq_some_iff.1 hx).1
  refine ⟨((k+1:Nat):Int),?_,⟨k+1,rfl,hkl,fun j hj y hy=>?_⟩,by omega⟩
  ·rw[if_pos (by simpa using hkl),bw,hx,oB,oB,if_pos (by simpa using hxn),fH (by omega)]
  ·by_cases e:j=k
   ·subst e;rw[hx]at hy;cases hy;exact hxn
   ·exact hlo j (by omega) y hy
 ·right
  have hge:∀ x,l[k]? =some x→n≤x:=fun x hx=>by
   rcases Int.lt_or_le x n with h | h
   ·exact absurd ⟨x,hx,h⟩ hc
   ·exact h
  have hv:((if (decide (((k:Nat):Int) < (l.length:Int)))then
    (idx l ((k:Nat):Int)).bind fun n2=>
    some (decide (n2 < n))
   else
    some false))=some false:=by
   by_cases hkl:k < l.length
   ·have hx:l[k]? =some l[k]:=gE hkl
    rw[if_pos (by simpa using hkl),bw,hx,oB]
    have:=hge _ hx
    rw[decide_eq_false (by omega)]
   ·rw[if_neg (by simpa using hkl)]
  rw[hv,oB,if_neg (by simp)]
  unfold cf.k1
  by_cases he:l[k]? =some n
  ·have hkl:k < l.length:=(List.getElem?_eq_some_iff.1 he).1
   refine ⟨l,?_,hp,fun x=>⟨.inl,fun h=>h.elim id fun e=>by subst e;exact List.mem_of_getElem? he⟩,by omega⟩
   rw[if_pos (by simpa using hkl),bw,he,oB,oB,if_pos (by simp)];rfl
  ·have hv2:((if (decide (((k:Nat):Int) < (l.length:Int)))then
     (idx l ((k:Nat):Int)).bind fun n1=>
     some (n1==n)
    else
     some false))=some false:=by
    by_cases hkl:k < l.length
    ·have hx:l[k]? =some l[k]:=gE hkl
     rw[if_pos (by simpa using hkl),bw,hx,oB]
     rw[hx]at he
     congr 1
     rw[beq_eq_false_iff_ne]
     exact fun e=>he (by rw[e])
    ·rw[if_neg (by simpa using hkl)]
   have hgt:∀ j,k≤j→∀ x,l[j]? =some x→n < x:=fun j hj x hx=>by
    have hjl:j < l.length:=(List.getElem?_eq_some_iff.1 hx).1
    have hxe:l[j]=x:=(List.getElem?_eq_some_iff.1 hx).2
    have hkl:k < l.length:=by omega
    have h1:=hge _ (gE hkl)
    have h2:l[k]≠n:=fun e=>he (by rw[gE hkl,e])
    by_cases e:j=k
    ·subst e;rw[hxe]at h1 h2;omega
    ·have:=hpw k j hkl hjl (by omega)
     rw[hxe]at this;omega
   have hch:cutH l (k:Int)=some (l.take k):=by unfold cutH;rw[if_pos ⟨by omega,by omega⟩];simp
   have hcl:cutL l (k:Int)=some (l.drop k):=by unfold cutL;rw[if_pos ⟨by omega,by omega⟩];simp
   have ht:(l.take k).length=k:=by simp;omega
   have hd:(l.drop k).length=l.length - k:=by simp
   refine ⟨l.take k++[n]++l.drop k,?_,?_,fun x=>?_,by simp;omega⟩
   ·rw[hv2,oB,if_neg (by simp),hch,oB,show (Int.toNat (k:Int))=k by simp,cL (by omega),oB,cL (by omega),oB,hcl,oB,cL (by omega),oB];rfl
   ·rw[List.pairwise_append,List.pairwise_append]
    refine ⟨⟨hp.sublist (List.take_sublist _ _),List.pairwise_singleton _ _,fun x hx y hy=>?_⟩,hp.sublist (List.drop_sublist _ _),fun x hx y hy=>?_⟩
    ·simp at hy;subst hy
     obtain ⟨j,hj,rfl⟩:=List.getElem_of_mem hx
     rw[List.getElem_take]
     exact hlo j (by omega) _ (gE _)
    ·obtain ⟨j,hj,rfl⟩:=List.getElem_of_mem hy
     rw[List.getElem_drop]
     have hyn:=hgt (k+j) (by omega) _ (gE (by omega))
     rcases List.mem_append.1 hx with hx | hx
     ·obtain ⟨i,hi,rfl⟩:=List.getElem_of_mem hx
      rw[List.getElem_take]
      have:=hlo i (by omega) _ (gE (by omega))
      omega
     ·simp at hx;subst hx;exact hyn
   ·have hm:x∈l↔x∈l.take k∨x∈l.drop k:=by
     conv=>lhs;rw[← List.take_append_drop k l]
     exact List.mem_append
    simp only[List.mem_append,List.mem_singleton,hm]
    constructor
    ·rintro ((h | h) | h)
     ·exact .inl (.inl h)
     ·exact .inr h
     ·exact .inl (.inr h)
    ·rintro ((h | h) | h)
     ·exact .inl (.inl h)
     ·exact .inr h
     ·exact .inl (.inr h)
def Edge (m:List ak) (e:Int):Prop:=e=0∨∃ x∈m,e=x.Low∨(x.High < 1114111∧e=x.High+1)
theorem kG {m:List ak} {x:ak} {e:Int}:Edge (m++[x]) e↔(Edge m e∨e=x.Low)∨(x.High < 1114111∧e=x.High+1):=by
 unfold Edge
 constructor
 ·rintro (h | ⟨y,hy,h⟩)
  ·exact .inl (.inl (.inl h))
  ·rcases List.mem_append.1 hy with hy | hy
   ·exact .inl (.inl (.inr ⟨y,hy,h⟩))
   ·simp at hy;subst hy
    rcases h with h | h
    ·exact .inl (.inr h)
    ·exact .inr h
 ·rintro (((h | ⟨y,hy,h⟩) | h) | h)
  ·exact .inl h
  ·exact .inr ⟨y,by simp[hy],h⟩
  ·exact .inr ⟨x,by simp,.inl h⟩
  ·exact .inr ⟨x,by simp,.inr h⟩
theorem aiL {a b:List ak} (ha:∀ x∈a,Ok x) (hb:∀ x∈b,Ok x) (hl:a.length+b.length≤4000000):
  ∃ E,bN a b=some E∧E.Pairwise (· < ·)∧(∀ e,e∈E↔Edge (a++b) e)∧E.length≤2*(a.length+b.length)+1:=by
 have hlen:(a++b).length=a.length+b.length:=by simp
 have hok:∀ x∈a++b,Ok x:=fun x hx=>(List.mem_append.1 hx).elim (ha x) (hb x)
 unfold bN
 rw[cL (by omega),oB,cL (by omega),oB]
 refine kD (body:=bN.b1 a b) (fun p:List Int×Int=>∃ k:Nat,p.2=(k:Int)∧k≤(a++b).length∧p.1.Pairwise (· < ·)∧(∀ e,e∈p.1↔Edge ((a++b).take k) e)∧p.1.length≤2*k+1) (fun p=>(a++b).length - p.2.toNat) (fun p hp=>?_) _
  ⟨0,rfl,Nat.zero_le _,List.pairwise_singleton _ _,fun e=>by simp[Edge],by simp⟩
 obtain ⟨out,v⟩:=p
 obtain ⟨k,e,hk,hpw,hm,hol⟩:=hp
 simp only at e hpw hm hol
 subst e
 generalize hL:a++b=L at*
 simp only[bN.b1,hL]
 by_cases h:k < L.length
 ·left
  have hx:L[k]? =some L[k]:=gE h
  have o:=hok _ (gM h)
  unfold Ok at o
  obtain ⟨r,r1,r2,r3,r4⟩:=lC (n:=L[k].Low) hpw (by omega)
  rw[if_pos (by simpa using h),bw,hx,oB,r1,oB]
  by_cases hh:L[k].High < 1114111
  ·obtain ⟨q,q1,q2,q3,q4⟩:=lC (n:=L[k].High+1) r2 (by omega)
   refine ⟨(q,((k+1:Nat):Int)),?_,⟨k+1,rfl,h,q2,fun e=>?_,by simp only;omega⟩,by simp only;omega⟩
   ·rw[if_pos (by simpa using hh),w64 (by omega) (by omega),q1,oB]
    unfold bN.k2
    rw[fH (by omega)]
   ·simp only
    rw[q3,r3,hm,tV hx,kG]
    constructor
    ·rintro (h | h)
     ·exact .inl h
     ·exact .inr ⟨hh,h⟩
    ·rintro (h | h)
     ·exact .inl h
     ·exact .inr h.2
  ·refine ⟨(r,((k+1:Nat):Int)),?_,⟨k+1,rfl,h,r2,fun e=>?_,by simp only;omega⟩,by simp only;omega⟩
   ·rw[if_neg (by simpa using hh)]
    unfold bN.k2
    rw[fH (by omega)]
   ·simp only
    rw[r3,hm,tV hx,kG]
    constructor
    ·exact .inl
    ·rintro (h | h)
     ·exact h
     ·exact absurd h.1 hh
 ·right
  obtain rfl:k=L.length:=by omega
  refine ⟨out,?_,hpw,fun e=>?_,by omega⟩
  ·rw[if_neg (by simp)];rfl
  ·rw[hm,List.take_length]
theorem am3 {out:List ak} {low high:Int} (hn:gQ out) (h0:0≤low) (h1:low≤high) (h2:high≤1114111) (hl:∀ y∈out,y.High < low):
  ∃ out',eE out low high=some out'∧gQ out'∧∀ r,In out' r↔In out r∨(low≤r∧r≤high):=by
 have hlen:=hn.len
 rcases List.eq_nil_or_concat out with rfl | ⟨init,y,rfl⟩
 ·refine ⟨[⟨low,high⟩],?_,iO (l:=[]).2 ⟨mS,⟨h0,h1,h2⟩,fun y h=>by cases h⟩,fun r=>?_⟩
  ·unfold eE
   rw[if_neg (by simp),oB,if_neg (by simp),cL (by simp),oB];rfl
  ·rw[ow];exact ⟨.inr,fun h=>h.elim (fun h=>absurd h um) id⟩
 ·rw[List.concat_eq_append]at*
  have hlen':(init++[y]).length=init.length+1:=by simp
  obtain ⟨n1,n2,n3⟩:=iO.1 hn
  have hyo:=n2
  unfold Ok at hyo
  have hyl:=hl y (by simp)
  have hi:(init++[y])[init.length]? =some y:=by simp
  have hw:IntKind.i64.wrap (((init++[y]).length:Int) - 1)=(init.length:Int):=by rw[hlen'];exact afe (by omega)
  have hcond:(if (decide (((init++[y]).length:Int) > (0:Int)))then
   (idx (init++[y]) (IntKind.i64.wrap (((init++[y]).length:Int) - (1:Int)))).bind fun x=>
   some (x.High==(IntKind.i64.wrap (low - (1:Int))))
  else
   some false)=some (y.High==low - 1):=by
   rw[if_pos (by simp),hw,bw,hi,oB,w64 (by omega) (by omega)]
  by_cases hc:y.High=low - 1
  ·refine ⟨init++[⟨y.Low,high⟩],?_,iO.2 ⟨n1,⟨(show 0≤y.Low by omega),(show y.Low≤high by omega),h2⟩,n3⟩,fun r=>?_⟩
   ·unfold eE
    rw[hcond,oB,if_pos (by simpa using hc),hw,bw,hi,oB]
    simp
   ·rw[jE,jE,ow,ow]
    show In init r∨(y.Low≤r∧r≤high)↔(In init r∨(y.Low≤r∧r≤y.High))∨(low≤r∧r≤high)
    constructor
    ·rintro (h | ⟨h3,h4⟩)
     ·exact .inl (.inl h)
     ·by_cases h5:r≤y.High
      ·exact .inl (.inr ⟨h3,h5⟩)
      ·exact .inr ⟨by omega,by omega⟩
    ·rintro ((h | ⟨h3,h4⟩) | ⟨h3,h4⟩)
     ·exact .inl h
     ·exact .inr ⟨h3,by omega⟩
     ·exact .inr ⟨by omega,by omega⟩
  ·refine ⟨init++[y]++[⟨low,high⟩],?_,iO.2 ⟨hn,⟨h0,h1,h2⟩,fun z hz=>?_⟩,fun r=>?_⟩
   ·unfold eE
    rw[hcond,oB,if_neg (by simpa using hc),cL (by omega),oB]
   ·show z.High+1 < low
    rcases List.mem_append.1 hz with hz | hz
    ·have:=n3 z hz;omega
    ·simp at hz;subst hz;omega
   ·rw[jE,ow]
def vQ (kind:Int) (one two:Bool):Bool:=if kind=1 then one&&two else if kind=2 then one&& !two else if kind=3 then !one&& !two else one||two
def bnd (E:List Int) (k:Nat):Int:=(E[k]?).getD 1114112
theorem gO {E:List Int} {k:Nat} (h:k < E.length):bnd E k=E[k]:=by unfold bnd;rw[gE h];rfl
theorem nZ {E:List Int}:bnd E E.length=1114112:=by unfold bnd;rw[gN (Nat.le_refl _)];rfl
theorem xj {E:List Int} (hp:E.Pairwise (· < ·)) {k:Nat} (h:k < E.length) {e:Int} (he:e∈E):e≤E[k]∨bnd E (k+1)≤e:=by
 obtain ⟨j,hj,rfl⟩:=List.getElem_of_mem he
 have hpw:=List.pairwise_iff_getElem.1 hp
 by_cases h1:j < k
 ·exact .inl (by have:=hpw j k hj h h1;omega)
 ·by_cases h2:j=k
  ·subst h2;exact .inl (Int.le_refl _)
  ·right
   rw[gO (by omega)]
   by_cases h3:j=k+1
   ·subst h3;exact Int.le_refl _
   ·have:=hpw (k+1) j (by omega) hj (by omega);omega
theorem alp {E:List Int} (hp:E.Pairwise (· < ·)) (hE:∀ e∈E,e≤1114111) {k:Nat} (h:k < E.length):E[k] < bnd E (k+1):=by
 by_cases h1:k+1 < E.length
 ·rw[gO h1];exact List.pairwise_iff_getElem.1 hp k (k+1) h h1 (by omega)
 ·rw[show k+1=E.length by omega,nZ]
  have:=hE _ (gM h);omega
theorem uk {m:List ak} (hm:∀ x∈m,Ok x) {e:Int} (h:Edge m e):0≤e∧e≤1114111:=by
 rcases h with rfl | ⟨x,hx,h⟩
 ·omega
 ·have:=hm x hx
  unfold Ok at this
  rcases h with rfl | ⟨h,rfl⟩ <;> omega
theorem wc {m L:List ak} {E:List Int} (hm:∀ x∈L,Ok x) (hp:E.Pairwise (· < ·)) (hE:∀ e,e∈E↔Edge L e) (hs:∀ x∈m,x∈L) {k:Nat} (h:k < E.length) {t:Int} (h1:E[k]≤t) (h2:t < bnd E (k+1)) (h3:t≤1114111):
  hasB m t=hasB m E[k]:=by
 rw[Bool.eq_iff_iff,lw,lw]
 have key:∀ x∈m,(x.Low≤t∧t≤x.High)↔(x.Low≤E[k]∧E[k]≤x.High):=fun x hx=>by
  have o:=hm x (hs x hx)
  unfold Ok at o
  have k1:=xj hp h ((hE x.Low).2 (.inr ⟨x,hs x hx,.inl rfl⟩))
  by_cases hh:x.High < 1114111
  ·have k2:=xj hp h ((hE (x.High+1)).2 (.inr ⟨x,hs x hx,.inr ⟨hh,rfl⟩⟩))
   omega
  ·omega
 constructor
 ·rintro ⟨x,hx,h⟩;exact ⟨x,hx,(key x hx).1 h⟩
 ·rintro ⟨x,hx,h⟩;exact ⟨x,hx,(key x hx).2 h⟩
theorem asP {a b:List ak} {kind:Int} {E:List Int} {out:List ak} {k:Nat} {high:Int} (h:k < E.length) (ha:a.length≤4000000) (hb:b.length≤4000000):
  aJ.k3 a b kind E out (k:Int) high=aJ.k4 out k high E[k] (vQ kind (hasB a E[k]) (hasB b E[k])):=by
 unfold aJ.k3 vQ
 rw[bw,gE h,oB,yZ (by omega),oB,yZ (by omega),oB]
 generalize hasB a E[k]=p
 generalize hasB b E[k]=q
 by_cases h1:kind=1
 ·subst h1;cases p <;> rfl
 ·rw[if_neg (by simpa using h1),if_neg h1]
  by_cases h2:kind=2
  ·subst h2;cases p <;> rfl
  ·rw[if_neg (by simpa using h2),if_neg h2]
   by_cases h3:kind=3
   ·subst h3;cases p <;> rfl
   ·rw[if_neg (by simpa using h3),if_neg h3]
theorem ajL {a b:List ak} {kind:Int} (ha:∀ x∈a,Ok x) (hb:∀ x∈b,Ok x) (hl:a.length+b.length≤4000000):
  ∃ out,aJ a b kind=some out∧gQ out∧∀ t,In out t↔(0≤t∧t≤1114111∧vQ kind (hasB a t) (hasB b t)=true):=by
 obtain ⟨E,e1,e2,e3,e4⟩:=aiL ha hb hl
 have hok:∀ x∈a++b,Ok x:=fun x hx=>(List.mem_append.1 hx).elim (ha x) (hb x)
 have hbd:∀ e∈E,0≤e∧e≤1114111:=fun e he=>uk hok ((e3 e).1 he)
 have h0:0 < E.length:=List.length_pos_of_mem ((e3 0).2 (.inl rfl))
 have hE0:bnd E 0=0:=by
  rw[gO h0]
  have k1:=hbd _ (gM h0)
  obtain ⟨j,hj,hje⟩:=List.getElem_of_mem ((e3 0).2 (.inl rfl))
  by_cases h:j=0
  ·subst h;exact hje
  ·have:=List.pairwise_iff_getElem.1 e2 0 j h0 hj (by omega);omega
 unfold aJ
 rw[e1,oB]
 refine kD (body:=aJ.b1 a b kind E) (fun p:List ak×Int=>∃ k:Nat,p.2=(k:Int)∧k≤E.length∧gQ p.1∧∀ t,In p.1 t↔(0≤t∧t < bnd E k∧vQ kind (hasB a t) (hasB b t)=true)) (fun p=>E.length - p.2.toNat) (fun p hp=>?_) _
  ⟨0,rfl,Nat.zero_le _,mS,fun t=>⟨fun h=>absurd h um,fun h=>by rw[hE0]at h;omega⟩⟩
 obtain ⟨out,v⟩:=p
 obtain ⟨k,e,hk,hn,hin⟩:=hp
 simp only at e hn hin
 subst e
 simp only[aJ.b1]
 by_cases h:k < E.length
 ·left
  have hlt:=alp e2 (fun e he=>(hbd e he).2) h
  have hE:=hbd _ (gM h)
  have hnext:bnd E (k+1)≤1114112:=by
   by_cases h1:k+1 < E.length
   ·rw[gO h1];have:=hbd _ (gM h1);omega
   ·rw[show k+1=E.length by omega,nZ];omega
  have hhigh:(if (decide ((IntKind.i64.wrap ((k:Int)+(1:Int))) < (E.length:Int)))then
    (idx E (IntKind.i64.wrap ((k:Int)+(1:Int)))).bind fun n1=>
    aJ.k3 a b kind E out (k:Int) (IntKind.i64.wrap (n1 - (1:Int)))
   else
    aJ.k3 a b kind E out (k:Int) (1114111:Int))=aJ.k3 a b kind E out (k:Int) (bnd E (k+1) - 1):=by
   rw[fH (by omega)]
   by_cases h1:k+1 < E.length
   ·have:=hbd _ (gM h1)
    rw[if_pos (by simp;omega),bw,gE h1,oB,gO h1,w64 (by omega) (by omega)]
   ·rw[if_neg (by simp;omega),show k+1=E.length by omega,nZ];rfl
  rw[if_pos (by simpa using h),hhigh,asP h (by omega) (by omega)]
  unfold aJ.k4 aJ.k2
  have hconst:∀ t,E[k]≤t→t < bnd E (k+1)→vQ kind (hasB a t) (hasB b t)=vQ kind (hasB a E[k]) (hasB b E[k]):=fun t h1 h2=>by
   rw[wc hok e2 e3 (fun x hx=>by simp[hx]) h h1 h2 (by omega),wc hok e2 e3 (fun x hx=>by simp[hx]) h h1 h2 (by omega)]
  rw[gO h]at hin
  cases hc:vQ kind (hasB a E[k]) (hasB b E[k])with
  | true=>
   obtain ⟨out',q1,q2,q3⟩:=am3 (low:=E[k]) (high:=bnd E (k+1) - 1) hn hE.1 (by omega) (by omega) (fun y hy=>((hin y.High).1 (avj hn hy)).2.1)
   refine ⟨(out',((k+1:Nat):Int)),?_,⟨k+1,rfl,h,q2,fun t=>?_⟩,by simp only;omega⟩
   ·rw[if_pos rfl,q1,oB,fH (by omega)]
   ·simp only
    rw[q3,hin]
    constructor
    ·rintro (⟨h1,h2,h3⟩ | ⟨h1,h2⟩)
     ·exact ⟨h1,by omega,h3⟩
     ·exact ⟨by omega,by omega,by rw[hconst t h1 (by omega)];exact hc⟩
    ·rintro ⟨h1,h2,h3⟩
     by_cases h4:t < E[k]
     ·exact .inl ⟨h1,h4,h3⟩
     ·exact .inr ⟨by omega,by omega⟩
  | false=>
   refine ⟨(out,((k+1:Nat):Int)),?_,⟨k+1,rfl,h,hn,fun t=>?_⟩,by simp only;omega⟩
   ·rw[if_neg (by simp),fH (by omega)]
   ·simp only
    rw[hin]
    constructor
    ·rintro ⟨h1,h2,h3⟩
     exact ⟨h1,by omega,h3⟩
    ·rintro ⟨h1,h2,h3⟩
     by_cases h4:t < E[k]
     ·exact ⟨h1,h4,h3⟩
     ·rw[hconst t (by omega) h2,hc]at h3;cases h3
 ·right
  obtain rfl:k=E.length:=by omega
  refine ⟨out,?_,hn,fun t=>?_⟩
  ·rw[if_neg (by simp)];rfl
  ·rw[hin,nZ]
   constructor
   ·rintro ⟨h1,h2,h3⟩;exact ⟨h1,by omega,h3⟩
   ·rintro ⟨h1,h2,h3⟩;exact ⟨h1,by omega,h3⟩
theorem se {l:List ak} {k:Nat} (h:k < l.length) (hb:¬ Ok l[k]):bH.b1 l (k:Int)=some (.done ([],1)):=by
 rw[bH.b1,if_pos (by simpa using h),bw,gE h,oB]
 unfold Ok at hb
 by_cases h1:l[k].Low < 0
 ·rw[if_pos (by simpa using h1),oB];rfl
 ·by_cases h2:l[k].High > 1114111
  ·rw[if_neg (by simpa using h1),if_pos (by simpa using h2),oB];rfl
  ·rw[if_neg (by simpa using h1),if_neg (by simpa using h2),oB,if_pos (by simp;omega)]
theorem nw {l:List ak} {k:Nat} (h:k < l.length) (hl:l.length≤4000000) (hb:Ok l[k]):bH.b1 l (k:Int)=some (.next ((k+1:Nat):Int)):=by
 rw[bH.b1,if_pos (by simpa using h),bw,gE h,oB]
 unfold Ok at hb
 rw[if_neg (by simp;omega),if_neg (by simp;omega),oB,if_neg (by simp;omega),fH (by omega)]
theorem agD {l:List ak} (hok:∀ x∈l,Ok x) (hl:l.length≤4000000):∃ out,bH l=some (out,0)∧gQ out∧∀ t,In out t↔In l t:=by
 obtain ⟨out,h1,h2,h3⟩:=ajL (a:=l) (b:=[]) (kind:=0) hok (fun x h=>by cases h) (by simpa using hl)
 refine ⟨out,?_,h2,fun t=>?_⟩
 ·unfold bH
  have:=oP (b:=bH.b1 l) (i:=0) (n:=l.length) (Nat.zero_le _) (fun j _ hj=>nw hj hl (hok _ (gM hj)))
  rw[show ((0:Nat):Int)=0 from rfl]at this
  rw[this]
  apply bP
  rw[bH.b1,if_neg (by simp)]
  unfold bH.k1
  rw[h1];rfl
 ·rw[h3]
  have e:vQ 0 (hasB l t) (hasB [] t)=hasB l t:=by simp[vQ,hasB]
  rw[e,lw]
  constructor
  ·exact fun h=>h.2.2
  ·intro h
   obtain ⟨x,hx,k1,k2⟩:=h
   have:=hok x hx
   unfold Ok at this
   exact ⟨by omega,by omega,x,hx,k1,k2⟩
theorem aa2 {l:List ak} (hbad:¬ ∀ x∈l,Ok x) (hl:l.length≤4000000):bH l=some ([],1):=by
 unfold bH
 refine aj1 (R:=some ([],1)) (fun v:Int=>∃ k:Nat,v=(k:Int)∧k≤l.length∧∀ j (hj:j < l.length),j < k→Ok l[j]) (fun v=>l.length - v.toNat) (fun v hv=>?_) _ ⟨0,rfl,Nat.zero_le _,fun j _ hj=>absurd hj (by omega)⟩
 obtain ⟨k,rfl,hk,hall⟩:=hv
 by_cases h:k < l.length
 ·by_cases ho:Ok l[k]
  ·left
   refine ⟨_,nw h hl ho,⟨k+1,rfl,h,fun j hj hjk=>?_⟩,by omega⟩
   by_cases e:j=k
   ·subst e;exact ho
   ·exact hall j hj (by omega)
  ·right
   exact ⟨_,rfl,se h ho⟩
 ·exact absurd (fun x hx=>by
   obtain ⟨j,hj,rfl⟩:=List.getElem_of_mem hx
   exact hall j hj (by omega)) hbad
def mY (S:List (List ak)) (r:Int):Nat→Nat
 | 0=>0
 | k+1=>mY S r k+if hasB (S.getD k []) r then 2^k else 0
theorem afg (S:List (List ak)) (r:Int):∀ k,mY S r k < 2^k
 | 0=>by simp[mY]
 | k+1=>by
  have:=afg S r k
  simp only[mY,Nat.pow_succ]
  split <;> omega
theorem ayx {m k:Nat} (h:m < 2^k) (hk:k < 64):bOr .u64 (m:Int) (shL .u64 (1:Int) (k:Int))=((m+2^k:Nat):Int):=by
 have hp:2^k≤2^63:=Nat.pow_le_pow_right (by omega) (by omega)
 have hw:∀ n:Nat,n < 18446744073709551616→IntKind.u64.wrap (n:Int)=(n:Int):=fun n hn=>by simp[IntKind.wrap,IntKind.signed,IntKind.bits];omega
 have hmin:min k 64=k:=by omega
 have hs:shL .u64 (1:Int) (k:Int)=((2^k:Nat):Int):=by
  unfold shL
  simp only[Int.toNat_natCast,IntKind.bits,hmin,Int.one_mul]
  rw[show (2:Int)^k=((2^k:Nat):Int) by simp,hw _ (by omega)]
 rw[hs]
 show IntKind.u64.wrap (((BitVec.ofInt 64 ((m:Nat):Int) ||| BitVec.ofInt 64 ((2^k:Nat):Int)).toNat:Nat):Int)=_
 rw[BitVec.ofInt_natCast,BitVec.ofInt_natCast,BitVec.toNat_or,BitVec.toNat_ofNat,BitVec.toNat_ofNat,Nat.mod_eq_of_lt (by omega),Nat.mod_eq_of_lt (by omega)]
 have h2:=Nat.two_pow_add_eq_or_of_lt h 1
 rw[Nat.mul_one]at h2
 rw[Nat.or_comm,← h2,hw _ (by omega),Nat.add_comm]
theorem ayz {n:Int} (h:0≤n):nat n=some n:=by unfold nat;rw[if_pos h]
theorem zc {S:List (List ak)} {r:Int} (hn:∀ s∈S,gQ s) (hl:S.length≤60):∀ (d k:Nat),k+d=S.length→Loop (bT.b1 S r) (((mY S r k:Nat):Int),(k:Int))=some ((mY S r S.length:Nat):Int)
 | 0,k,h=>by
  obtain rfl:k=S.length:=by omega
  refine cV ?_
  simp only[bT.b1]
  rw[if_neg (by simp)];rfl
 | d+1,k,h=>by
  have hk:k < S.length:=by omega
  have ih:=zc (r:=r) hn hl d (k+1) (by omega)
  rw[← ih]
  refine bM ?_
  simp only[bT.b1]
  rw[if_pos (by simpa using hk),bw,gE hk,oB,awB (hn _ (gM hk)),oB]
  have hg:S.getD k []=S[k]:=by simp[gD,gE hk]
  have hm:mY S r (k+1)=mY S r k+if hasB S[k] r then 2^k else 0:=by simp only[mY,hg]
  rw[hm]
  cases hb:hasB S[k] r with
  | true=>
   simp only[if_true]
   rw[ayz (by omega),oB,ayx (afg S r k) (by omega)]
   unfold bT.k2
   rw[fH (by omega)]
  | false=>
   simp only[Bool.false_eq_true,if_false,Nat.add_zero]
   unfold bT.k2
   rw[fH (by omega)]
theorem auz {S:List (List ak)} (hn:∀ s∈S,gQ s) (hl:S.length≤60) (r:Int):bT S r=some ((mY S r S.length:Nat):Int):=zc hn hl S.length 0 (by omega)
def agL (l:List cQ) (r:Int):UInt8:=l.foldl (fun v x=>if x.Low≤r∧r≤x.High then x.Value else v) 0
theorem sC (l:List cQ) (x:cQ) (r:Int):agL (l++[x]) r=if x.Low≤r∧r≤x.High then x.Value else agL l r:=by
 unfold agL;rw[List.foldl_append];rfl
def cP (l:List cQ) (k:Nat):Vector UInt8 256:=Vector.ofFn fun j=>agL l (((k*256+j.1:Nat)):Int)
theorem kX (l:List cQ) (k j:Nat) (h:j < 256):(cP l k).toList[j]? =some (agL l ((k*256+j:Nat):Int)):=by
 unfold cP
 rw[gE (by simpa using h)]
 simp
variable {l:List cQ} {x:cQ}
def partOf (l:List cQ) (x:cQ) (k:Nat) (r:Int):Vector UInt8 256:=Vector.ofFn fun j=>if x.Low≤((k*256+j.1:Nat):Int)∧((k*256+j.1:Nat):Int)≤x.High∧((k*256+j.1:Nat):Int) < r then x.Value else agL l ((k*256+j.1:Nat):Int)
theorem rv (k:Nat) (r:Int) (j:Nat) (h:j < 256):(partOf l x k r)[j]=if x.Low≤((k*256+j:Nat):Int)∧((k*256+j:Nat):Int)≤x.High∧((k*256+j:Nat):Int) < r then x.Value else agL l ((k*256+j:Nat):Int):=by
 unfold partOf;simp
theorem ajd (k:Nat) (r:Int) (h:r≤max x.Low ((k*256:Nat):Int)):partOf l x k r=cP l k:=by
 apply Vector.ext
 intro j hj
 rw[rv k r j hj]
 unfold cP
 rw[if_neg (by omega)];simp
theorem ape (k:Nat) (r:Int) (h:min x.High ((k*256+255:Nat):Int) < r):partOf l x k r=cP (l++[x]) k:=by
 apply Vector.ext
 intro j hj
 rw[rv k r j hj]
 unfold cP
 simp only[Vector.getElem_ofFn,sC]
 by_cases hc:x.Low≤((k*256+j:Nat):Int)∧((k*256+j:Nat):Int)≤x.High
 ·rw[if_pos hc,if_pos ⟨hc.1,hc.2,by omega⟩]
 ·rw[if_neg hc,if_neg (fun h=>hc ⟨h.1,h.2.1⟩)]
theorem aqz (k:Nat) (r:Int) (h0:((k*256:Nat):Int)≤r) (h1:r≤((k*256+255:Nat):Int)) (h2:x.Low≤r) (h3:r≤x.High):wO (partOf l x k r) (r - ((k*256:Nat):Int)) x.Value=partOf l x k (r+1):=by
 apply Vector.ext
 intro j hj
 unfold wO
 rw[Vector.getElem_setIfInBounds hj,rv k (r+1) j hj,rv k r j hj]
 by_cases hr:(r - ((k*256:Nat):Int)).toNat=j
 ·rw[if_pos hr,if_pos (by omega)]
 ·rw[if_neg hr]
  have:(((k*256+j:Nat):Int) < r+1)↔(((k*256+j:Nat):Int) < r):=by omega
  simp only[this]
variable {l:List cQ} {x:cQ}
theorem an8 (a b:Int):mn a b=min a b:=by unfold mn;omega
theorem auA {k i:Nat} (hk:k < 4352) (hx:0≤x.Low∧x.Low≤x.High∧x.High≤1114111) (hi:i < 4000000):∀ (d:Nat) (r:Int),max x.Low ((k*256:Nat):Int)≤r→(min x.High ((k*256+255:Nat):Int)+1 - r).toNat=d→
  Loop (aO.b3 (k:Int) (i:Int) x) (r,partOf l x k r)=some (.next (((i+1:Nat):Int),cP (l++[x]) k)):=by
 have hlow:IntKind.i64.wrap ((k:Int)*256)=((k*256:Nat):Int):=by rw[w64 (by omega) (by omega)];omega
 have htop:IntKind.i64.wrap (IntKind.i64.wrap (((k*256:Nat):Int)+256) - 1)=((k*256+255:Nat):Int):=by rw[w64 (n:=((k*256:Nat):Int)+256) (by omega) (by omega),w64 (by omega) (by omega)];omega
 have stop:∀ r:Int,min x.High ((k*256+255:Nat):Int) < r→Loop (aO.b3 (k:Int) (i:Int) x) (r,partOf l x k r)=some (.next (((i+1:Nat):Int),cP (l++[x]) k)):=fun r hr=>by
  refine bP ?_
  simp only[aO.b3]
  rw[hlow,htop,an8,if_neg (by simp;omega),ape k r hr]
  unfold aO.k4
  rw[fH (by omega)]
 intro d
 induction d with
 | zero=>exact fun r hr hd=>stop r (by omega)
 | succ d ih=>
  intro r hr hd
  rw[← ih (r+1) (by omega) (by omega)]
  refine bM ?_
  simp only[aO.b3]
  have b1:r≤x.High∧r≤((k*256+255:Nat):Int):=by omega
  have b2:x.Low≤r∧((k*256:Nat):Int)≤r:=by omega
  have hs:=aqz (l:=l) (x:=x) k r b2.2 b1.2 b2.1 b1.1
  rw[hlow,htop,an8,if_pos (decide_eq_true (by omega)),w64 (n:=r - ((k*256:Nat):Int)) (by omega) (by omega),w64 (n:=r+1) (by omega) (by omega)]
  obtain ⟨j,hj⟩:∃ j:Nat,r - ((k*256:Nat):Int)=(j:Int):=⟨(r - ((k*256:Nat):Int)).toNat,by omega⟩
  have hj2:j < (partOf l x k r).toList.length:=by rw[Vector.length_toList];omega
  rw[hs,hj,bw,gE hj2];rfl
theorem iG {α:Type} {l:List α} {s:Nat} (h:s < l.length):l.take (s+1)=l.take s++[l[s]]:=by rw[List.take_add_one,gE h];rfl
theorem ady (k:Nat):cP [] k=Vector.replicate 256 0:=by
 apply Vector.ext
 intro j hj
 simp[cP,agL]
def OkP (x:cQ):Prop:=0≤x.Low∧x.Low≤x.High∧x.High≤1114111
theorem amw {l:List cQ} {k:Nat} (hk:k < 4352) (ho:∀ x∈l,OkP x) (hl:l.length≤4096) {like:Vector UInt8 4352} {first:List (Vector UInt8 256)} {m:List (Vector UInt8 256×Int)}:∀ (d i:Nat),i+d=l.length→
  Loop (aO.b2 l (k:Int) like first m) ((i:Int),cP (l.take i) k)=aO.k3 (k:Int) like first m (cP l k)
 | 0,i,h=>by
  obtain rfl:i=l.length:=by omega
  refine bP ?_
  simp only[aO.b2]
  rw[if_neg (by simp),List.take_length]
 | d+1,i,h=>by
  have hi:i < l.length:=by omega
  rw[← amw hk ho hl d (i+1) (by omega)]
  refine bM ?_
  simp only[aO.b2]
  have hlow:IntKind.i64.wrap ((k:Int)*256)=((k*256:Nat):Int):=by rw[w64 (by omega) (by omega)];omega
  rw[if_pos (by simpa using hi),bw,gE hi,oB,hlow]
  have hm:mx l[i].Low ((k*256:Nat):Int)=max l[i].Low ((k*256:Nat):Int):=by unfold mx;omega
  rw[hm,← ajd (l:=l.take i) (x:=l[i]) k (max l[i].Low ((k*256:Nat):Int)) (by omega),iG hi]
  exact auA hk (ho _ (gM hi)) (by omega) _ _ (by omega) rfl
variable {K:Type} [DecidableEq K]
def jx (known:List (K×Int)) (l:List K):Prop:=known.length=l.length∧∀ i:Nat,known[i]? =(l[i]?).map fun a=>(a,(i:Int))
theorem yA {a:K}:∀ {m:List (K×Int)},(∀ p∈m,p.1≠a)→nh a m=none
 | [],_=>rfl
 | (k,v)::m,h=>by
  simp only[nh]
  rw[if_neg (fun e=>h (k,v) (by simp) e.symm)]
  exact yA fun p hp=>h p (List.mem_cons_of_mem _ hp)
theorem ae0 {a:K} {v:Int}:∀ {m:List (K×Int)},(∀ p∈m,p.1≠a)→iW a v m=m++[(a,v)]
 | [],_=>rfl
 | (k,w)::m,h=>by
  simp only[iW]
  rw[if_neg (fun e=>h (k,w) (by simp) e.symm),ae0 fun p hp=>h p (List.mem_cons_of_mem _ hp)];rfl
theorem alI {a:K}:∀ {m:List (K×Int)} {i:Nat} {v:Int},m[i]? =some (a,v)→(∀ j < i,∀ p,m[j]? =some p→p.1≠a)→nh a m=some v
 | [],i,v,h,_=>by simp at h
 | (k,w)::m,0,v,h,_=>by
  simp at h
  obtain ⟨rfl,rfl⟩:=h
  simp[nh]
 | (k,w)::m,i+1,v,h,hb=>by
  have h0:=hb 0 (by omega) (k,w) rfl
  simp only[nh]
  rw[if_neg (fun e=>h0 e.symm)]
  exact alI (by simpa using h) fun j hj p hp=>hb (j+1) (by omega) p (by simpa using hp)
end Go.Val
namespace Go.Val
set_option linter.unusedSectionVars false
variable {K:Type} [DecidableEq K]
def zR (F:List K) (a:K):List K:=if a∈F then F else F++[a]
def firsts (l:List K):List K:=l.foldl zR []
theorem ej {l:List K} {a:K}:firsts (l++[a])=zR (firsts l) a:=by
 unfold firsts;rw[List.foldl_append];rfl
theorem aq9 {F:List K} {a:K}:F <+: zR F a:=by
 unfold zR;split
 ·exact List.prefix_refl F
 ·exact List.prefix_append F [a]
theorem aqM {F:List K} {a b:K}:b∈zR F a↔b∈F∨b=a:=by
 unfold zR;split
 ·exact ⟨Or.inl,fun h=>h.elim id fun e=>by rw[e];assumption⟩
 ·simp
theorem aia {F:List K} {a:K} (h:F.Nodup):(zR F a).Nodup:=by
 unfold zR;split
 ·exact h
 ·rename_i hn
  rw[List.nodup_append]
  exact ⟨h,by simp,fun x hx y hy=>by simp at hy;rintro rfl;exact hn (hy ▸ hx)⟩
theorem eu {l:List K} {a:K}:a∈firsts l↔a∈l:=by
 induction l using mP with
 | h0=>simp[firsts]
 | h1 l x ih=>rw[ej,aqM,ih];simp
theorem mL {l:List K}:(firsts l).Nodup:=by
 induction l using mP with
 | h0=>simp[firsts]
 | h1 l x ih=>rw[ej];exact aia ih
theorem pU {l m:List K}:firsts l <+: firsts (l++m):=by
 induction m using mP with
 | h0=>simp
 | h1 m x ih=>rw[← List.append_assoc,ej];exact ih.trans aq9
def pos (F:List K) (a:K):Nat:=F.idxOf a
theorem yW {F:List K} {a:K} (h:a∈F):pos F a < F.length:=List.idxOf_lt_length_iff.2 h
theorem si {F:List K} {a:K} (h:a∈F):F[pos F a]? =some a:=by
 unfold pos
 rw[gE (List.idxOf_lt_length_iff.2 h),List.getElem_idxOf]
theorem rl {F:List K} {a b:K}:pos (a::F) b=if a=b then 0 else pos F b+1:=by
 unfold pos
 rw[List.idxOf_cons]
 by_cases h:a=b
 ·simp[h]
 ·rw[beq_false_of_ne h,if_neg h];rfl
theorem alh {F:List K} {a:K} {j:Nat} (hj:j < pos F a):F[j]? ≠some a:=by
 intro hf
 have hb:=(List.getElem?_eq_some_iff.1 hf)
 have hn:=List.not_of_lt_findIdx (p:=fun x=>x==a) (xs:=F) hj
 simp only[beq_eq_false_iff_ne,ne_eq,Bool.not_eq_true]at hn
 exact hn hb.2
theorem sa {F G:List K} (h:F <+: G) {a:K} (ha:a∈F):pos G a=pos F a:=by
 obtain ⟨t,rfl⟩:=h
 unfold pos
 rw[List.idxOf_append,if_pos ha]
theorem aaC {F:List K} {a:K} (h:a∉F):pos (F++[a]) a=F.length:=by
 unfold pos
 rw[List.idxOf_append,if_neg h];simp
theorem asI {F:List K} {a b:K} (ha:a∈F) (hb:b∈F) (h:pos F a=pos F b):a=b:=by
 have h1:=si ha
 rw[h,si hb]at h1
 exact (Option.some.inj h1).symm
theorem rz:jx ([]:List (K×Int)) []:=⟨rfl,fun i=>by simp⟩
theorem jx.keys {m:List (K×Int)} {F:List K} (h:jx m F) {p:K×Int} (hp:p∈m):p.1∈F:=by
 obtain ⟨i,hi⟩:=List.mem_iff_getElem?.1 hp
 rw[h.2 i]at hi
 cases hf:F[i]? with
 | none=>rw[hf]at hi;cases hi
 | some a=>
  rw[hf]at hi;cases hi
  exact List.mem_of_getElem? hf
theorem jx.none {m:List (K×Int)} {F:List K} (h:jx m F) {a:K} (ha:a∉F):nh a m= .none:=yA fun p hp e=>ha (e ▸ h.keys hp)
theorem jx.some {m:List (K×Int)} {F:List K} (h:jx m F) {a:K} (ha:a∈F):nh a m= .some (pos F a:Int):=by
 refine alI (i:=pos F a) (by rw[h.2,si ha];rfl) fun j hj p hp e=>?_
 rw[h.2]at hp
 cases hf:F[j]? with
 | none=>rw[hf]at hp;cases hp
 | some b=>
  rw[hf]at hp
  cases hp
  exact alh hj (by rw[hf,← e])
theorem jx.new {m:List (K×Int)} {F:List K} (h:jx m F) {a:K} (ha:a∉F):jx (iW a (F.length:Int) m) (F++[a]):=by
 have hk:∀ p∈m,p.1≠a:=fun p hp e=>ha (by rw[← e];exact h.keys hp)
 rw[ae0 hk]
 refine ⟨by simp[h.1],fun i=>?_⟩
 by_cases hi:i < F.length
 ·rw[List.getElem?_append_left (by rw[h.1];exact hi),List.getElem?_append_left hi,h.2]
 ·rw[List.getElem?_append_right (by rw[h.1];omega),List.getElem?_append_right (by omega),h.1]
  by_cases hi2:i=F.length
  ·subst hi2;simp
  ·rw[gN (by simp;omega),gN (by simp;omega)];rfl
end Go.Val
namespace Go.Val
theorem vW {n:Nat} (h:n < 256):u8 (IntKind.u8.wrap (n:Int))=UInt8.ofNat n:=by
 have:IntKind.u8.wrap (n:Int)=(n:Int):=by simp[IntKind.wrap,IntKind.signed,IntKind.bits];omega
 rw[this];rfl
theorem ax0 {like:Vector UInt8 4352} {F:List (Vector UInt8 256)} {m:List (Vector UInt8 256×Int)} {k:Nat} {b:Vector UInt8 256} (hk:k < 4352) (hK:jx m F) (hF:F.length≤256) (hb:b∈F):
  cH ⟨like,F⟩ (k:Int) b m=some (true,⟨wO like (k:Int) (UInt8.ofNat (pos F b)),F⟩,m):=by
 have hlt:=yW hb
 unfold cH
 rw[hK.some hb]
 simp only[Option.isSome_some,Bool.not_true,Bool.false_eq_true,if_false,Option.getD_some]
 unfold cH.k1
 rw[bw,gE (by simpa using hk),oB]
 have hw:=vW (n:=pos F b) (by omega)
 simp only[hw]
theorem aup {like:Vector UInt8 4352} {F:List (Vector UInt8 256)} {m:List (Vector UInt8 256×Int)} {k:Nat} {b:Vector UInt8 256} (hk:k < 4352) (hK:jx m F) (hF:F.length < 256) (hb:b∉F):
  cH ⟨like,F⟩ (k:Int) b m=some (true,⟨wO like (k:Int) (UInt8.ofNat F.length),F++[b]⟩,iW b (F.length:Int) m):=by
 unfold cH
 rw[hK.none hb]
 simp only[Option.isSome_none,Bool.not_false,if_true]
 rw[if_neg (by simp;omega),cL (by omega),oB]
 unfold cH.k1
 rw[bw,gE (by simpa using hk),oB]
 have hw:=vW (n:=F.length) (by omega)
 simp only[hw]
theorem apj {like:Vector UInt8 4352} {F:List (Vector UInt8 256)} {m:List (Vector UInt8 256×Int)} {k:Nat} {b:Vector UInt8 256} (hK:jx m F) (hF:256≤F.length) (hb:b∉F):
  cH ⟨like,F⟩ (k:Int) b m=some (false,⟨like,F⟩,m):=by
 unfold cH
 rw[hK.none hb]
 simp only[Option.isSome_none,Bool.not_false,if_true]
 rw[if_pos (by simp;omega)]
def gC (l:List cQ) (k:Nat):List (Vector UInt8 256):=(List.range k).map (cP l)
theorem rY {l:List cQ} {k:Nat}:gC l (k+1)=gC l k++[cP l k]:=by
 unfold gC;rw[List.range_succ,List.map_append];rfl
theorem vk {l:List cQ} {k:Nat}:∀ d,firsts (gC l k) <+: firsts (gC l (k+d))
 | 0=>List.prefix_refl _
 | d+1=>(vk d).trans (by rw[← Nat.add_assoc,rY];exact pU)
theorem aeq {l:List cQ} {j k:Nat} (h:j < k):cP l j∈firsts (gC l k):=by
 rw[eu];unfold gC
 exact List.mem_map.2 ⟨j,List.mem_range.2 h,rfl⟩
def pd (l:List cQ) (like:Vector UInt8 4352) (k:Nat):Prop:=∀ j,j < k→like.toList[j]? =some (UInt8.ofNat (pos (firsts (gC l k)) (cP l j)))
theorem xx {l:List cQ} {like:Vector UInt8 4352} {k:Nat} (hk:k < 4352) (h:pd l like k):pd l (wO like (k:Int) (UInt8.ofNat (pos (firsts (gC l (k+1))) (cP l k)))) (k+1):=by
 intro j hj
 rw[yK]
 simp only[Int.toNat_natCast]
 by_cases e:j=k
 ·subst e;rw[List.getElem?_set_self (by simpa using hk)]
 ·rw[List.getElem?_set_ne (fun h=>e h.symm),h j (by omega),sa (vk 1) (aeq (by omega))]
theorem pu {N:Nat} (hN:N=4352) {l:List cQ} (ho:∀ x∈l,OkP x) (hl:l.length≤4096):∀ (d k:Nat),k+d=N→∀ (like:Vector UInt8 4352) (m:List (Vector UInt8 256×Int)),jx m (firsts (gC l k))→(firsts (gC l k)).length≤256→pd l like k→
  if (firsts (gC l N)).length≤256 then ∃ like',pd l like' N∧Loop (aO.b1 l) ((k:Int),like,firsts (gC l k),m)=some (some ⟨like',firsts (gC l N)⟩,0)
  else Loop (aO.b1 l) ((k:Int),like,firsts (gC l k),m)=some (none,3)
 | 0,k,h,like,m,hK,hF,hL=>by
  obtain rfl:k=N:=by omega
  rw[if_pos hF]
  refine ⟨like,hL,bP ?_⟩
  simp only[aO.b1]
  rw[if_neg (by simp;omega)];rfl
 | d+1,k,h,like,m,hK,hF,hL=>by
  have hk:k < 4352:=by omega
  have h0:aO.b1 l ((k:Int),like,firsts (gC l k),m)=aO.k3 (k:Int) like (firsts (gC l k)) m (cP l k):=by
   simp only[aO.b1]
   rw[if_pos (by simp;omega),← ady k]
   exact amw hk ho hl l.length 0 (by omega)
  have hpre:firsts (gC l (k+1)) <+: firsts (gC l N):=by
   have:=vk (l:=l) (k:=k+1) d
   rw[show k+1+d=N by omega]at this;exact this
  by_cases hb:cP l k∈firsts (gC l k)
  ·have e1:firsts (gC l (k+1))=firsts (gC l k):=by rw[rY,ej,zR,if_pos hb]
   have ih:=pu hN ho hl d (k+1) (by omega) (wO like (k:Int) (UInt8.ofNat (pos (firsts (gC l (k+1))) (cP l k)))) m (by rw[e1];exact hK) (by rw[e1];exact hF) (xx hk hL)
   have h1:Loop (aO.b1 l) ((k:Int),like,firsts (gC l k),m)=Loop (aO.b1 l) (((k+1:Nat):Int),(wO like (k:Int) (UInt8.ofNat (pos (firsts (gC l (k+1))) (cP l k)))),firsts (gC l (k+1)),m):=by
    refine bM ?_
    rw[h0]
    unfold aO.k3
    rw[ax0 hk hK hF hb,oB]
    simp only[Bool.not_true,Bool.false_eq_true,if_false]
    unfold aO.k2
    rw[fH (by omega),e1]
   rw[h1];exact ih
  ·have e1:firsts (gC l (k+1))=firsts (gC l k)++[cP l k]:=by rw[rY,ej,zR,if_neg hb]
   by_cases hf:(firsts (gC l k)).length < 256
   ·have e2:pos (firsts (gC l (k+1))) (cP l k)=(firsts (gC l k)).length:=by rw[e1,aaC hb]
    have ih:=pu hN ho hl d (k+1) (by omega) (wO like (k:Int) (UInt8.ofNat (pos (firsts (gC l (k+1))) (cP l k)))) (iW (cP l k) ((firsts (gC l k)).length:Int) m) (by rw[e1];exact hK.new hb) (by rw[e1];simp;omega) (xx hk hL)
    have h1:Loop (aO.b1 l) ((k:Int),like,firsts (gC l k),m)=Loop (aO.b1 l) (((k+1:Nat):Int),(wO like (k:Int) (UInt8.ofNat (pos (firsts (gC l (k+1))) (cP l k)))),firsts (gC l (k+1)),(iW (cP l k) ((firsts (gC l k)).length:Int) m)):=by
     refine bM ?_
     rw[h0]
     unfold aO.k3
     rw[aup hk hK hf hb,oB]
     simp only[Bool.not_true,Bool.false_eq_true,if_false]
     unfold aO.k2
     rw[fH (by omega),e2,e1]
    rw[h1];exact ih
   ·have hlen:256 < (firsts (gC l N)).length:=by
     have:=hpre.length_le
     rw[e1,List.length_append]at this
     simp at this;omega
    rw[if_neg (by omega)]
    refine cV ?_
    rw[h0]
    unfold aO.k3
    rw[apj hK (by omega) hb,oB]
    rfl
theorem xJ {l:List cQ} {f:cQ→Option Bool} {g:cQ→Bool} (hf:∀ x∈l,f x=some (g x)) (hl:l.length < 9223372036854775807):cc l f=some (l.any g):=by
 have key:aF l f=some (if l.any g then (l.findIdx g:Int)else -1):=by
  unfold aF
  have hle:l.findIdx g≤l.length:=List.findIdx_le_length
  have hrun:=oP (b:=aF.b1 l f) (i:=0) (n:=l.findIdx g) (Nat.zero_le _) (fun j _ hj=>by
   have hjl:j < l.length:=by omega
   simp only[aF.b1]
   have hg:g l[j]=false:=by simpa using List.not_of_lt_findIdx hj
   rw[if_pos (by simpa using hjl),bw,gE hjl,oB,hf _ (gM hjl),oB,hg]
   simp only[Bool.false_eq_true,if_false]
   rw[fH (by omega)])
  simp only[Int.ofNat_zero,Int.natCast_zero]at hrun
  rw[hrun]
  by_cases ha:l.any g
  ·have hlt:l.findIdx g < l.length:=List.findIdx_lt_length.2 (by simpa using ha)
   rw[if_pos ha]
   refine cV ?_
   simp only[aF.b1]
   have hg:g (l[l.findIdx g])=true:=List.findIdx_getElem
   rw[if_pos (by simpa using hlt),bw,gE hlt,oB,hf _ (gM hlt),oB,hg]
   rfl
  ·have he:l.findIdx g=l.length:=List.findIdx_eq_length.2 (by simpa using ha)
   rw[if_neg ha,he]
   refine bP ?_
   simp only[aF.b1]
   rw[if_neg (by simp)];rfl
 unfold cc
 rw[key,oB]
 cases h:l.any g <;> simp
theorem apJ {N:Nat} (hN:N=4352) {l:List cQ} (ho:∀ x∈l,OkP x) (hl:l.length≤4096):
  if (firsts (gC l N)).length≤256 then ∃ like',pd l like' N∧aO l=some (some ⟨like',firsts (gC l N)⟩,0)else aO l=some (none,3):=by
 have h1:aO l=Loop (aO.b1 l) (((0:Nat):Int),(Vector.replicate 4352 (0:UInt8)),firsts (gC l 0),[]):=by
  unfold aO
  have hc:=xJ (l:=l) (f:=gL) (g:=fun _=>false) (fun x hx=>by
   obtain ⟨a,b,c⟩:=ho x hx
   unfold gL
   simp;omega) (by omega)
  rw[if_neg (by simp;omega),hc,oB]
  have:l.any (fun _=>false)=false:=by simp
  rw[this];rfl
 rw[h1]
 exact pu hN ho hl N 0 (by omega) _ [] rz (by simp[gC,firsts]) (fun j hj=>by omega)
theorem xI {N:Nat} (hN:N=4352) {l:List cQ} {like:Vector UInt8 4352} (hL:pd l like N) (hF:(firsts (gC l N)).length≤256) {r:Int} (h0:0≤r) (h1:r≤1114111):fE ⟨like,firsts (gC l N)⟩ r=some (agL l r):=by
 obtain ⟨n,rfl⟩:∃ n:Nat,r=(n:Int):=⟨r.toNat,by omega⟩
 have hd:n/256 < N:=by omega
 have hm:n%256 < 256:=by omega
 unfold fE
 rw[if_neg (by simp;omega)]
 have e1:IntKind.i64.wrap (Int.tdiv (n:Int) 256)=((n/256:Nat):Int):=by
  rw[Int.tdiv_eq_ediv_of_nonneg (by omega),w64 (by omega) (by omega)];omega
 have e2:Int.tmod (n:Int) 256=((n%256:Nat):Int):=by
  rw[Int.tmod_eq_emod_of_nonneg (by omega)];omega
 rw[e1,e2,bw,hL _ hd,oB]
 have hmem:=aeq (l:=l) hd
 have hlt:=yW hmem
 have e3:(UInt8.ofNat (pos (firsts (gC l N)) (cP l (n/256)))).toNat=pos (firsts (gC l N)) (cP l (n/256)):=by
  rw[UInt8.toNat_ofNat'];exact Nat.mod_eq_of_lt (by omega)
 have hg:(firsts (gC l N))[pos (firsts (gC l N)) (cP l (n/256))]? =some (cP l (n/256)):=si hmem
 rw[e3,bw,hg,oB,bw,kX l _ _ hm,oB]
 congr 2
 omega
theorem yz {zs:List Int} {m:Nat} (h:m < zs.length):zs.toArray[m]! =zs[m]:=by
 rw[getElem!_pos zs.toArray m (by simpa using h)];simp
theorem qj {zs:List Int} (hs:zs.Pairwise (· ≤ ·)):∀ m,m≤zs.length→(Go.Lib.compactUpTo zs.toArray m).Pairwise (· < ·)∧(∀ x,x∈Go.Lib.compactUpTo zs.toArray m↔x∈zs.take m)∧(Go.Lib.compactUpTo zs.toArray m).length≤m
 | 0,_=>by simp[Go.Lib.compactUpTo]
 | m+1,h=>by
  obtain ⟨ih1,ih2,ih3⟩:=qj hs m (by omega)
  have hm:m < zs.length:=by omega
  have hle:∀ x∈zs.take m,x≤zs[m]:=by
   intro x hx
   obtain ⟨j,hj,rfl⟩:=List.getElem_of_mem hx
   rw[List.getElem_take]
   have:j < m:=by simp at hj;omega
   exact (List.pairwise_iff_getElem.1 hs) j m (by omega) hm this
  rw[Go.Lib.compactUpTo_succ,yz hm,iG hm]
  by_cases hk:Go.Lib.keeps zs.toArray m=true
  ·rw[if_pos hk]
   refine ⟨?_,fun x=>by rw[List.mem_append,List.mem_append,ih2],by simp;omega⟩
   rw[List.pairwise_append]
   refine ⟨ih1,List.pairwise_singleton _ _,fun x hx y hy=>?_⟩
   simp at hy;subst hy
   have h1:=hle x ((ih2 x).1 hx)
   rcases Int.lt_or_eq_of_le h1 with h2 | h2
   ·exact h2
   ·exfalso
    simp only[Go.Lib.keeps,decide_eq_true_eq]at hk
    rcases hk with hk | hk
    ·subst hk;simp at ih2;exact absurd hx (ih2 x)
    ·have h0:0 < m:=by
      rcases Nat.eq_zero_or_pos m with h0 | h0
      ·subst h0;exact absurd ((ih2 x).1 hx) (by simp)
      ·exact h0
     rw[yz hm,yz (by omega)]at hk
     have hx2:=(ih2 x).1 hx
     obtain ⟨j,hj,rfl⟩:=List.getElem_of_mem hx2
     rw[List.getElem_take]at h2
     have hj2:j < m:=by simp at hj;omega
     have hj3:zs[j]'(by omega)≤zs[m - 1]'(by omega):=by
      rcases Nat.lt_or_ge j (m - 1)with q | q
      ·exact (List.pairwise_iff_getElem.1 hs) j (m - 1) (by omega) (by omega) q
      ·have:j=m - 1:=by omega
       subst this;exact Int.le_refl _
     have hj4:zs[m - 1]'(by omega)≤zs[m]:=(List.pairwise_iff_getElem.1 hs) (m - 1) m (by omega) hm (by omega)
     exact hk (by omega)
  ·rw[if_neg hk,List.append_nil]
   refine ⟨ih1,fun x=>?_,by omega⟩
   rw[ih2,List.mem_append]
   refine ⟨.inl,fun h=>h.elim id fun h=>?_⟩
   simp at h;subst h
   simp only[Go.Lib.keeps,decide_eq_true_eq,not_or,ne_eq,Classical.not_not]at hk
   rw[yz hm,yz (by omega)]at hk
   rw[hk.2]
   exact List.mem_take_iff_getElem.2 ⟨m - 1,by omega,rfl⟩
theorem mw {zs:List Int} (hs:zs.Pairwise (· ≤ ·)):(Go.Lib.compact zs).Pairwise (· < ·)∧(∀ x,x∈Go.Lib.compact zs↔x∈zs)∧(Go.Lib.compact zs).length≤zs.length:=by
 have:=qj hs zs.length (Nat.le_refl _)
 rw[List.take_length]at this;exact this
theorem nL:∀ {l m:List Int},l.Pairwise (· < ·)→m.Pairwise (· < ·)→(∀ x,x∈l↔x∈m)→l=m
 | [],[],_,_,_=>rfl
 | [],b::m,_,_,h=>absurd ((h b).2 (by simp)) (by simp)
 | a::l,[],_,_,h=>absurd ((h a).1 (by simp)) (by simp)
 | a::l,b::m,h1,h2,h=>by
  rw[List.pairwise_cons]at h1 h2
  have hab:a=b:=by
   have ha:=(h a).1 (by simp)
   have hb:=(h b).2 (by simp)
   rcases List.mem_cons.1 ha with e | ha
   ·exact e
   ·rcases List.mem_cons.1 hb with e | hb
    ·exact e.symm
    ·have:=h1.1 b hb;have:=h2.1 a ha;omega
  subst hab
  rw[nL h1.2 h2.2 fun x=>?_]
  have:=h x
  simp only[List.mem_cons]at this
  constructor
  ·intro hx
   have:=h1.1 x hx
   exact (this |> fun _=>(‹x=a∨x∈l↔x=a∨x∈m›.1 (.inr hx))).elim (fun e=>by omega) id
  ·intro hx
   have:=h2.1 x hx
   exact (this |> fun _=>(‹x=a∨x∈l↔x=a∨x∈m›.2 (.inr hx))).elim (fun e=>by omega) id
theorem kV {S:List (List ak)} {i:Nat} (h:i < S.length):(S.take (i+1)).flatten=(S.take i).flatten++S[i]:=by
 rw[iG h,List.flatten_append];simp
theorem rj {S:List (List ak)} (i:Nat):(S.take i).flatten.length≤S.flatten.length:=by
 have:S.flatten=(S.take i).flatten++(S.drop i).flatten:=by rw[← List.flatten_append,List.take_append_drop]
 rw[this,List.length_append];omega
theorem aeM {S:List (List ak)} {i:Nat} (h:i < S.length):(S.take i).flatten.length+S[i].length≤S.flatten.length:=by
 have:=rj (S:=S) (i+1)
 rw[kV h,List.length_append]at this;exact this
theorem qT {S:List (List ak)} {i:Nat} (h:i < S.length) {x:ak} (hx:x∈S[i]):x∈S.flatten:=List.mem_flatten.2 ⟨S[i],gM h,hx⟩
theorem wv {S:List (List ak)} (hok:∀ x∈S.flatten,Ok x) (hl:S.flatten.length≤1000000) {i:Nat} (hi:i < S.length):∀ (d k:Nat),k+d=S[i].length→∀ out:List Int,(∀ e,e∈out↔Edge ((S.take i).flatten++S[i].take k) e)→out.length≤2*((S.take i).flatten.length+k)+1→
  ∃ out',Loop (aQ.b2 (i:Int) S[i]) (out,(k:Int))=aQ.k2 (i:Int) out'∧(∀ e,e∈out'↔Edge ((S.take (i+1)).flatten) e)∧out'.length≤2*(S.take (i+1)).flatten.length+1
 | 0,k,h,out,hm,ho=>by
  obtain rfl:k=S[i].length:=by omega
  refine ⟨out,bP ?_,fun e=>by rw[hm,kV hi,List.take_length],by rw[kV hi,List.length_append];exact ho⟩
  simp only[aQ.b2]
  rw[if_neg (by simp)]
 | d+1,k,h,out,hm,ho=>by
  have hk:k < S[i].length:=by omega
  have hel:=aeM hi
  obtain ⟨a,b,c⟩:=hok _ (qT hi (gM hk))
  have htk:S[i].take (k+1)=S[i].take k++[S[i][k]]:=iG hk
  by_cases hh:S[i][k].High < 1114111
  ·obtain ⟨out',h1,h2,h3⟩:=wv hok hl hi d (k+1) (by omega) (out++[S[i][k].Low]++[S[i][k].High+1]) (fun e=>by
    rw[htk,← List.append_assoc,kG,← hm]
    simp only[List.mem_append,List.mem_singleton]
    constructor
    ·rintro ((h | h) | h)
     ·exact .inl (.inl h)
     ·exact .inl (.inr h)
     ·exact .inr ⟨hh,h⟩
    ·rintro ((h | h) | h)
     ·exact .inl (.inl h)
     ·exact .inl (.inr h)
     ·exact .inr h.2) (by simp only[List.length_append,List.length_singleton];omega)
   refine ⟨out',?_,h2,h3⟩
   rw[← h1]
   refine bM ?_
   simp only[aQ.b2]
   rw[if_pos (by simpa using hk),bw,gE hk,oB,cL (by omega),oB,if_pos (decide_eq_true hh),cL (by omega),oB,w64 (n:=S[i][k].High+1) (by omega) (by omega)]
   unfold aQ.k3
   rw[fH (by omega)]
  ·obtain ⟨out',h1,h2,h3⟩:=wv hok hl hi d (k+1) (by omega) (out++[S[i][k].Low]) (fun e=>by
    rw[htk,← List.append_assoc,kG,← hm]
    simp only[List.mem_append,List.mem_singleton]
    constructor
    ·rintro (h | h)
     ·exact .inl (.inl h)
     ·exact .inl (.inr h)
    ·rintro ((h | h) | h)
     ·exact .inl h
     ·exact .inr h
     ·exact absurd h.1 hh) (by simp only[List.length_append,List.length_singleton];omega)
   refine ⟨out',?_,h2,h3⟩
   rw[← h1]
   refine bM ?_
   simp only[aQ.b2]
   rw[if_pos (by simpa using hk),bw,gE hk,oB,cL (by omega),oB,if_neg (by simpa using hh)]
   unfold aQ.k3
   rw[fH (by omega)]
theorem aeR {S:List (List ak)} (hok:∀ x∈S.flatten,Ok x) (hl:S.flatten.length≤1000000) (hs:S.length≤1000000):∀ (d i:Nat),i+d=S.length→∀ out:List Int,(∀ e,e∈out↔Edge ((S.take i).flatten) e)→out.length≤2*(S.take i).flatten.length+1→
  ∃ out',Loop (aQ.b1 S) (out,(i:Int))=aQ.k1 out'∧(∀ e,e∈out'↔Edge S.flatten e)∧out'.length≤2*S.flatten.length+1
 | 0,i,h,out,hm,ho=>by
  obtain rfl:i=S.length:=by omega
  rw[List.take_length]at hm ho
  refine ⟨out,bP ?_,hm,ho⟩
  simp only[aQ.b1]
  rw[if_neg (by simp)]
 | d+1,i,h,out,hm,ho=>by
  have hi:i < S.length:=by omega
  obtain ⟨o1,h1,h2,h3⟩:=wv hok hl hi S[i].length 0 (by omega) out (fun e=>by rw[hm];simp) (by omega)
  obtain ⟨o2,q1,q2,q3⟩:=aeR hok hl hs d (i+1) (by omega) o1 h2 h3
  refine ⟨o2,?_,q2,q3⟩
  rw[← q1]
  refine bM ?_
  simp only[aQ.b1]
  rw[if_pos (by simpa using hi),bw,gE hi,oB]
  refine h1.trans ?_
  unfold aQ.k2
  rw[fH (by omega)]
theorem apL {S:List (List ak)} (hok:∀ x∈S.flatten,Ok x) (hl:S.flatten.length≤1000000) (hs:S.length≤1000000):∃ E,aQ S=some E∧E.Pairwise (· < ·)∧(∀ e,e∈E↔Edge S.flatten e)∧E.length≤2*S.flatten.length+1:=by
 obtain ⟨o,h1,h2,h3⟩:=aeR hok hl hs S.length 0 (by omega) [0] (fun e=>by simp[Edge]) (by simp)
 have hp:(o.mergeSort fun x y=>decide (x≤y)).Perm o:=List.mergeSort_perm _ _
 have hsort:(o.mergeSort fun x y=>decide (x≤y)).Pairwise (· ≤ ·):=by
  have:=List.pairwise_mergeSort (le:=fun x y:Int=>decide (x≤y)) (by intro a b c;simp;omega) (by intro a b;simp;omega) o
  exact this.imp (by simp)
 obtain ⟨c1,c2,c3⟩:=mw hsort
 have hlen:=hp.length_eq
 refine ⟨Go.Lib.compact (o.mergeSort fun x y=>decide (x≤y)),?_,c1,fun e=>by rw[c2,hp.mem_iff,h2],by omega⟩
 refine h1.trans ?_
 unfold aQ.k1 sZ
 rw[if_pos (by unfold dC;omega),oB]
 unfold cF
 rw[if_pos (by unfold dC;omega)];rfl
theorem uJ:dj=cf:=rfl
theorem sm {S:List (List ak)} (hok:∀ x∈S.flatten,Ok x) (hl:S.flatten.length≤1000000) {i:Nat} (hi:i < S.length):∀ (d k:Nat),k+d=S[i].length→∀ out:List Int,out.Pairwise (· < ·)→(∀ e,e∈out↔Edge ((S.take i).flatten++S[i].take k) e)→out.length≤2*((S.take i).flatten.length+k)+1→
  ∃ out',Loop (bb.b2 S (i:Int)) (out,(k:Int))=bb.k2 (i:Int) out'∧out'.Pairwise (· < ·)∧(∀ e,e∈out'↔Edge ((S.take (i+1)).flatten) e)∧out'.length≤2*(S.take (i+1)).flatten.length+1
 | 0,k,h,out,hp,hm,ho=>by
  obtain rfl:k=S[i].length:=by omega
  refine ⟨out,bP ?_,hp,fun e=>by rw[hm,kV hi,List.take_length],by rw[kV hi,List.length_append];exact ho⟩
  simp only[bb.b2]
  rw[bw,gE hi,oB,if_neg (by simp)]
 | d+1,k,h,out,hp,hm,ho=>by
  have hk:k < S[i].length:=by omega
  have hel:=aeM hi
  obtain ⟨a,b,c⟩:=hok _ (qT hi (gM hk))
  have htk:S[i].take (k+1)=S[i].take k++[S[i][k]]:=iG hk
  obtain ⟨r,r1,r2,r3,r4⟩:=lC (n:=S[i][k].Low) hp (by omega)
  by_cases hh:S[i][k].High < 1114111
  ·obtain ⟨q,q1,q2,q3,q4⟩:=lC (n:=S[i][k].High+1) r2 (by omega)
   obtain ⟨out',h1,h2,h3,h4⟩:=sm hok hl hi d (k+1) (by omega) q q2 (fun e=>by
    rw[htk,← List.append_assoc,kG,← hm,q3,r3]
    constructor
    ·rintro (h | h)
     ·exact .inl h
     ·exact .inr ⟨hh,h⟩
    ·rintro (h | h)
     ·exact .inl h
     ·exact .inr h.2) (by omega)
   refine ⟨out',?_,h2,h3,h4⟩
   rw[← h1]
   refine bM ?_
   simp only[bb.b2]
   rw[bw,gE hi,oB,if_pos (by simpa using hk),bw,gE hk,oB,uJ,r1,oB,if_pos (decide_eq_true hh),w64 (n:=S[i][k].High+1) (by omega) (by omega),q1,oB]
   unfold bb.k3
   rw[fH (by omega)]
  ·obtain ⟨out',h1,h2,h3,h4⟩:=sm hok hl hi d (k+1) (by omega) r r2 (fun e=>by
    rw[htk,← List.append_assoc,kG,← hm,r3]
    constructor
    ·exact .inl
    ·rintro (h | h)
     ·exact h
     ·exact absurd h.1 hh) (by omega)
   refine ⟨out',?_,h2,h3,h4⟩
   rw[← h1]
   refine bM ?_
   simp only[bb.b2]
   rw[bw,gE hi,oB,if_pos (by simpa using hk),bw,gE hk,oB,uJ,r1,oB,if_neg (by simpa using hh)]
   unfold bb.k3
   rw[fH (by omega)]
theorem zn {S:List (List ak)} (hok:∀ x∈S.flatten,Ok x) (hl:S.flatten.length≤1000000) (hs:S.length≤1000000):∀ (d i:Nat),i+d=S.length→∀ out:List Int,out.Pairwise (· < ·)→(∀ e,e∈out↔Edge ((S.take i).flatten) e)→out.length≤2*(S.take i).flatten.length+1→
  ∃ out',Loop (bb.b1 S) (out,(i:Int))=some out'∧out'.Pairwise (· < ·)∧(∀ e,e∈out'↔Edge S.flatten e)
 | 0,i,h,out,hp,hm,ho=>by
  obtain rfl:i=S.length:=by omega
  rw[List.take_length]at hm
  refine ⟨out,bP (R:=some out) ?_,hp,hm⟩
  simp only[bb.b1]
  rw[if_neg (by simp)];rfl
 | d+1,i,h,out,hp,hm,ho=>by
  have hi:i < S.length:=by omega
  obtain ⟨o1,h1,h2,h3,h4⟩:=sm hok hl hi S[i].length 0 (by omega) out hp (fun e=>by rw[hm];simp) (by omega)
  obtain ⟨o2,q1,q2,q3⟩:=zn hok hl hs d (i+1) (by omega) o1 h2 h3 h4
  refine ⟨o2,?_,q2,q3⟩
  rw[← q1]
  refine bM ?_
  simp only[bb.b1]
  rw[if_pos (by simpa using hi)]
  refine h1.trans ?_
  unfold bb.k2
  rw[fH (by omega)]
theorem afE {S:List (List ak)} (hok:∀ x∈S.flatten,Ok x) (hl:S.flatten.length≤1000000) (hs:S.length≤1000000):∃ E,aQ S=some E∧bb S=some E∧E.Pairwise (· < ·)∧(∀ e,e∈E↔Edge S.flatten e)∧E.length≤2*S.flatten.length+1:=by
 obtain ⟨E,h1,h2,h3,h4⟩:=apL hok hl hs
 obtain ⟨D,q1,q2,q3⟩:=zn hok hl hs S.length 0 (by omega) [0] (List.pairwise_singleton _ _) (fun e=>by simp[Edge]) (by simp)
 have:D=E:=nL q2 h2 fun x=>by rw[q3,h3]
 subst this
 exact ⟨D,h1,q1,h2,h3,h4⟩
def asU {α K:Type} [DecidableEq K] (f:α→K) (L:List α) (a:α):List α:=if f a∈L.map f then L else L++[a]
def uY {α K:Type} [DecidableEq K] (f:α→K) (l:List α):List α:=l.foldl (asU f) []
theorem sQ {α K:Type} [DecidableEq K] {f:α→K} {l:List α} {a:α}:uY f (l++[a])=asU f (uY f l) a:=by
 unfold uY;rw[List.foldl_append];rfl
theorem rb {α K:Type} [DecidableEq K] {f:α→K} {l:List α}:(uY f l).map f=firsts (l.map f):=by
 induction l using mP with
 | h0=>rfl
 | h1 l x ih=>
  rw[sQ,List.map_append,List.map_singleton,ej,← ih]
  unfold asU zR
  split <;> simp
theorem aec {α K:Type} [DecidableEq K] {f:α→K} {l:List α}:(uY f l).length=(firsts (l.map f)).length:=by rw[← rb,List.length_map]
theorem tN {K:Type} [DecidableEq K] {l:List K}:(firsts l).length≤l.length:=by
 induction l using mP with
 | h0=>simp[firsts]
 | h1 l x ih=>
  rw[ej]
  unfold zR
  split
  ·simp;omega
  ·simp;omega
def mkI (S:List (List ak)) (r:Int):Int:=((mY S r S.length:Nat):Int)
def pieces (f:Int→Int) (E:List Int) (k:Nat):List cQ:=(List.range k).map fun i=>⟨bnd E i,bnd E (i+1) - 1,UInt8.ofNat (pos (firsts (E.map f)) (f (bnd E i)))⟩
theorem rU {f:Int→Int} {E:List Int} {k:Nat}:pieces f E (k+1)=pieces f E k++[⟨bnd E k,bnd E (k+1) - 1,UInt8.ofNat (pos (firsts (E.map f)) (f (bnd E k)))⟩]:=by
 unfold pieces;rw[List.range_succ,List.map_append];rfl
theorem uB {f:Int→Int} {E:List Int} {k:Nat}:(pieces f E k).length=k:=by simp[pieces]
theorem zz {f:Int→Int} {E:List Int} (k:Nat):firsts ((E.take k).map f) <+: firsts (E.map f):=by
 have:E.map f=(E.take k).map f++(E.drop k).map f:=by rw[← List.map_append,List.take_append_drop]
 rw[this];exact pU
variable {S:List (List ak)} {E:List Int}
theorem arG {k c:Nat} {L M:List Int} {m:List (Int×Int)} (hk:k < E.length) (hb:∀ e∈E,0≤e∧e≤1114111) (hE:E.length≤4096) (hm:m.length≤200) (hc:c < 256) (hp:c=pos (firsts (E.map (mkI S))) (mkI S (bnd E k))):
  aG.k3 E (pieces (mkI S) E k) (k:Int) E[k] (c:Int) M L m=some (.next (pieces (mkI S) E (k+1),((k+1:Nat):Int),M,L,m)):=by
 unfold aG.k3
 rw[if_neg (by simp;omega),fH (by omega)]
 have h4:∀ h:Int,h=bnd E (k+1) - 1→aG.k4 (pieces (mkI S) E k) (k:Int) E[k] (c:Int) M L m h=some (.next (pieces (mkI S) E (k+1),((k+1:Nat):Int),M,L,m)):=by
  intro h e
  unfold aG.k4
  rw[cL (by rw[uB];omega),oB,fH (by omega),vW hc,rU,← hp,gO hk,e]
 by_cases h1:k+1 < E.length
 ·have hx:=hb _ (gM h1)
  rw[if_pos (decide_eq_true (by omega)),bw,gE h1,oB]
  exact h4 _ (by rw[gO h1,w64 (by omega) (by omega)])
 ·rw[if_neg (by simp;omega)]
  have e:k+1=E.length:=by omega
  exact h4 _ (by rw[e,nZ];rfl)
theorem vH (hn:∀ s∈S,gQ s) (hS:S.length≤60) (hb:∀ e∈E,0≤e∧e≤1114111) (hE:E.length≤4096):∀ (d k:Nat),k+d=E.length→∀ m:List (Int×Int),jx m (firsts ((E.take k).map (mkI S)))→(firsts ((E.take k).map (mkI S))).length≤200→
  Loop (aG.b1 S E) (pieces (mkI S) E k,(k:Int),firsts ((E.take k).map (mkI S)),uY (mkI S) (E.take k),m)=if (firsts (E.map (mkI S))).length≤200 then aG.k2 (pieces (mkI S) E E.length) (firsts (E.map (mkI S))) (uY (mkI S) E)else some (none,3)
 | 0,k,h,m,hK,hF=>by
  obtain rfl:k=E.length:=by omega
  rw[List.take_length]at hF ⊢
  rw[if_pos hF]
  refine bP ?_
  simp only[aG.b1]
  rw[if_neg (by simp)]
 | d+1,k,h,m,hK,hF=>by
  have hk:k < E.length:=by omega
  have hmask:bT S E[k]=some (mkI S E[k]):=auz hn hS E[k]
  have htk:(E.take (k+1)).map (mkI S)=(E.take k).map (mkI S)++[mkI S E[k]]:=by rw[iG hk,List.map_append];rfl
  have hr:uY (mkI S) (E.take (k+1))=asU (mkI S) (uY (mkI S) (E.take k)) E[k]:=by rw[iG hk,sQ]
  have hpre:=zz (f:=mkI S) (E:=E) (k+1)
  have hmem:mkI S E[k]∈firsts ((E.take (k+1)).map (mkI S)):=by rw[eu,htk];simp
  have hrl:=aec (f:=mkI S) (l:=E.take k)
  by_cases hin:mkI S E[k]∈firsts ((E.take k).map (mkI S))
  ·have e1:firsts ((E.take (k+1)).map (mkI S))=firsts ((E.take k).map (mkI S)):=by rw[htk,ej,zR,if_pos hin]
   have e2:uY (mkI S) (E.take (k+1))=uY (mkI S) (E.take k):=by rw[hr,asU,rb,if_pos hin]
   have ih:=vH hn hS hb hE d (k+1) (by omega) m (by rw[e1];exact hK) (by rw[e1];exact hF)
   rw[← ih,e1,e2]
   refine bM ?_
   simp only[aG.b1]
   rw[if_pos (by simpa using hk),bw,gE hk,oB,hmask,oB,hK.some hin]
   simp only[Option.isSome_some,Bool.not_true,Bool.false_eq_true,if_false,Option.getD_some]
   have hlt:=yW hin
   refine arG hk hb hE (by rw[hK.1];exact hF) (by omega) ?_
   rw[gO hk,sa hpre hmem,e1]
  ·have e1:firsts ((E.take (k+1)).map (mkI S))=firsts ((E.take k).map (mkI S))++[mkI S E[k]]:=by rw[htk,ej,zR,if_neg hin]
   have e2:uY (mkI S) (E.take (k+1))=uY (mkI S) (E.take k)++[E[k]]:=by rw[hr,asU,rb,if_neg hin]
   have hK2:=hK.new hin
   have hstep:aG.b1 S E (pieces (mkI S) E k,(k:Int),firsts ((E.take k).map (mkI S)),uY (mkI S) (E.take k),m)=aG.k3 E (pieces (mkI S) E k) (k:Int) E[k] ((firsts ((E.take k).map (mkI S))).length:Int) (firsts ((E.take k).map (mkI S))++[mkI S E[k]]) (uY (mkI S) (E.take k)++[E[k]]) (iW (mkI S E[k]) ((firsts ((E.take k).map (mkI S))).length:Int) m):=by
    simp only[aG.b1]
    rw[if_pos (by simpa using hk),bw,gE hk,oB,hmask,oB,hK.none hin]
    simp only[Option.isSome_none,Bool.not_false,if_true]
    rw[cL (by omega),oB,cL (by omega),oB,hK.1]
   by_cases hf:(firsts ((E.take k).map (mkI S))).length < 200
   ·have ih:=vH hn hS hb hE d (k+1) (by omega) _ (by rw[e1];exact hK2) (by rw[e1,List.length_append,List.length_singleton];omega)
    rw[← ih,e1,e2]
    refine bM (hstep.trans (arG hk hb hE (by rw[hK2.1,List.length_append,List.length_singleton];omega) (by omega) ?_))
    rw[gO hk,sa hpre hmem,e1,aaC hin]
   ·have hlen:=hpre.length_le
    rw[e1,List.length_append,List.length_singleton]at hlen
    rw[if_neg (by omega)]
    refine cV (hstep.trans ?_)
    unfold aG.k3
    rw[if_pos (decide_eq_true (by rw[hK2.1,List.length_append,List.length_singleton];omega))]
variable {S:List (List ak)} {E:List Int}
theorem vI (hp:E.Pairwise (· < ·)) (hE:∀ e∈E,e≤1114111):∀ (d i:Nat),i+d≤E.length→bnd E i≤bnd E (i+d)
 | 0,i,h=>Int.le_refl _
 | d+1,i,h=>by
  have h1:=vI hp hE d i (by omega)
  have h2:=alp hp hE (k:=i+d) (by omega)
  rw[← gO (by omega)]at h2
  rw[← Nat.add_assoc];omega
theorem aqS (hp:E.Pairwise (· < ·)) (hE:∀ e∈E,0≤e∧e≤1114111) (h0:(0:Int)∈E) {r:Int} (hr:0≤r) (hr2:r≤1114111):∃ k,k < E.length∧bnd E k≤r∧r < bnd E (k+1):=by
 have hpos:0 < E.length:=List.length_pos_of_mem h0
 have hz:bnd E 0=0:=by
  rw[gO hpos]
  obtain ⟨j,hj,e⟩:=List.getElem_of_mem h0
  have h1:=hE _ (gM hpos)
  rcases Nat.eq_zero_or_pos j with q | q
  ·subst q;exact e
  ·have:=(List.pairwise_iff_getElem.1 hp) 0 j hpos hj q
   omega
 have key:∀ n,n≤E.length→(∃ k,k < n∧bnd E k≤r∧r < bnd E (k+1))∨bnd E n≤r:=by
  intro n
  induction n with
  | zero=>exact fun _=>.inr (by omega)
  | succ n ih=>
   intro hn
   rcases ih (by omega)with ⟨k,h1,h2⟩ | h
   ·exact .inl ⟨k,by omega,h2⟩
   ·by_cases hc:bnd E (n+1)≤r
    ·exact .inr hc
    ·exact .inl ⟨n,by omega,h,by omega⟩
 rcases key E.length (Nat.le_refl _)with h | h
 ·exact h
 ·rw[nZ]at h;omega
theorem uI {f:Int→Int} (hp:E.Pairwise (· < ·)) (hE:∀ e∈E,0≤e∧e≤1114111) {k:Nat} (hk:k < E.length) {r:Int} (h1:bnd E k≤r) (h2:r < bnd E (k+1)):∀ j,j≤E.length→agL (pieces f E j) r=if k < j then UInt8.ofNat (pos (firsts (E.map f)) (f (bnd E k)))else 0
 | 0,_=>by rw[if_neg (by omega)];rfl
 | j+1,hj=>by
  rw[rU,sC,uI hp hE hk h1 h2 j (by omega)]
  have hm:=fun d i=>vI hp (fun e he=>(hE e he).2) d i
  by_cases e:j=k
  ·subst e
   rw[if_pos ⟨h1,by show r≤bnd E (j+1) - 1;omega⟩,if_pos (by omega)]
  ·rw[if_neg]
   ·by_cases hlt:k < j
    ·rw[if_pos hlt,if_pos (by omega)]
    ·rw[if_neg hlt,if_neg (by omega)]
   ·show ¬ (bnd E j≤r∧r≤bnd E (j+1) - 1)
    rintro ⟨a,b⟩
    rcases Nat.lt_or_ge j k with q | q
    ·have:=hm (k - (j+1)) (j+1) (by omega)
     rw[show j+1+(k - (j+1))=k by omega]at this;omega
    ·have:=hm (j - (k+1)) (k+1) (by omega)
     rw[show k+1+(j - (k+1))=j by omega]at this;omega
theorem alz {f:Int→Int} (hp:E.Pairwise (· < ·)) (hE:∀ e∈E,0≤e∧e≤1114111):∀ x∈pieces f E E.length,OkP x:=by
 intro x hx
 unfold pieces at hx
 obtain ⟨i,hi,rfl⟩:=List.mem_map.1 hx
 have hi2:i < E.length:=List.mem_range.1 hi
 have h1:=alp hp (fun e he=>(hE e he).2) hi2
 have h2:=hE _ (gM hi2)
 unfold OkP
 simp only
 rw[← gO hi2]at h1 h2
 refine ⟨h2.1,by omega,?_⟩
 by_cases h3:i+1 < E.length
 ·have:=hE _ (gM h3)
  rw[gO h3];omega
 ·rw[show i+1=E.length by omega,nZ];omega
theorem pO:bg=ct:=rfl
theorem ajN {l:List ak} (hl:l.length≤1000000):∃ out e,cD l=some (out,e)∧bH l=some (out,e)∧gQ out∧out.length≤l.length∧(e=0→∀ t,In out t↔In l t)∧(e≠0→e=1∧out=[]∧¬ ∀ x∈l,Ok x):=by
 by_cases hok:∀ x∈l,Ok x
 ·obtain ⟨o,h1,h2,h3,h4⟩:=akZ hok (by omega)
  obtain ⟨p,q1,q2,q3⟩:=agD hok (by omega)
  have e:p=o:=gQ.unique q2 h2 fun r=>by rw[q3,h3]
  subst e
  exact ⟨p,0,h1,q1,h2,h4,fun _=>h3,fun h=>absurd rfl h⟩
 ·exact ⟨[],1,aeI hok (by omega),aa2 hok (by omega),mS,by simp,fun h=>by simp at h,fun _=>⟨rfl,rfl,hok⟩⟩
theorem xN {l out:List ak} {e:Int} (h:gQ l) (ho:gQ out) (h0:e=0→∀ t,In out t↔In l t) (h1:e≠0→e=1∧out=[]∧¬ ∀ x∈l,Ok x):e=0∧out=l:=by
 by_cases he:e=0
 ·exact ⟨he,gQ.unique ho h (h0 he)⟩
 ·exact absurd h.1 (h1 he).2.2
structure Good (S:List (List ak)):Prop where
 norm:∀ s∈S,gQ s
 few:S.length≤60
 small:S.flatten.length≤1200
theorem Good.ok {S:List (List ak)} (h:Good S):∀ x∈S.flatten,Ok x:=by
 intro x hx
 obtain ⟨s,hs,hx⟩:=List.mem_flatten.1 hx
 exact (h.norm s hs).1 x hx
noncomputable def edg (S:List (List ak)):List Int:=(aQ S).getD []
theorem eX {S:List (List ak)} (h:Good S):aQ S=some (edg S)∧bb S=some (edg S)∧(edg S).Pairwise (· < ·)∧(∀ e,e∈edg S↔Edge S.flatten e)∧(edg S).length≤2*S.flatten.length+1:=by
 obtain ⟨E,h1,h2,h3,h4,h5⟩:=afE h.ok (by have:=h.small;omega) (by have:=h.few;omega)
 have:edg S=E:=by unfold edg;rw[h1];rfl
 rw[this];exact ⟨h1,h2,h3,h4,h5⟩
theorem kW {S:List (List ak)} (h:Good S):∀ e∈edg S,0≤e∧e≤1114111:=fun e he=>uk h.ok ((eX h).2.2.2.1 e |>.1 he)
noncomputable def cls (S:List (List ak)):List Int:=firsts ((edg S).map (mkI S))
noncomputable def lst (S:List (List ak)):List Int:=uY (mkI S) (edg S)
noncomputable def prp (S:List (List ak)):List cQ:=pieces (mkI S) (edg S) (edg S).length
def nB:Nat:=4352
theorem zP:nB=4352:=by unfold nB;rfl
def Fit (S:List (List ak)):Prop:=(cls S).length≤200∧(firsts (gC (prp S) nB)).length≤256
noncomputable def jz (S:List (List ak)) (r:Int):Nat:=pos (cls S) (mkI S r)
theorem sE {S:List (List ak)} (h:Good S) {k:Nat} (hk:k < (edg S).length) {r:Int} (h1:bnd (edg S) k≤r) (h2:r < bnd (edg S) (k+1)) (h3:r≤1114111):mkI S r=mkI S (bnd (edg S) k):=by
 have hs:=eX h
 rw[gO hk]at h1 ⊢
 unfold mkI
 have key:∀ n,mY S r n=mY S (edg S)[k] n:=by
  intro n
  induction n with
  | zero=>rfl
  | succ n ih=>
   simp only[mY,ih]
   by_cases hn:n < S.length
   ·have hg:S.getD n []=S[n]:=by simp[gD,gE hn]
    rw[hg,wc h.ok hs.2.2.1 hs.2.2.2.1 (fun x hx=>qT hn hx) hk h1 h2 h3]
   ·have hg:S.getD n []=[]:=by simp[gD,gN (Nat.le_of_not_lt hn)]
    rw[hg];rfl
 rw[key]
theorem sV {S:List (List ak)} (h:Good S) {r:Int} (hr:0≤r) (hr2:r≤1114111):∃ k,k < (edg S).length∧bnd (edg S) k≤r∧r < bnd (edg S) (k+1):=aqS (eX h).2.2.1 (kW h) ((eX h).2.2.2.1 0 |>.2 (.inl rfl)) hr hr2
theorem wJ {S:List (List ak)} (h:Good S) {r:Int} (hr:0≤r) (hr2:r≤1114111):mkI S r∈cls S:=by
 obtain ⟨k,hk,h1,h2⟩:=sV h hr hr2
 rw[sE h hk h1 h2 hr2,gO hk]
 unfold cls
 rw[eu]
 exact List.mem_map_of_mem (gM hk)
theorem abL {S:List (List ak)} (h:Good S) {r:Int} (hr:0≤r) (hr2:r≤1114111):agL (prp S) r=UInt8.ofNat (jz S r):=by
 obtain ⟨k,hk,h1,h2⟩:=sV h hr hr2
 unfold prp jz
 rw[uI (eX h).2.2.1 (kW h) hk h1 h2 _ (Nat.le_refl _),if_pos hk,sE h hk h1 h2 hr2];rfl
theorem awG {S:List (List ak)} (h:Good S):∀ x∈prp S,OkP x:=alz (eX h).2.2.1 (kW h)
theorem asv {S:List (List ak)} (h:Good S):(prp S).length≤2401:=by
 have:=(eX h).2.2.2.2
 have:=h.small
 unfold prp;rw[uB];omega
theorem aoV {S:List (List ak)} (h:Good S):(prp S).length≤4096:=by have:=asv h;omega
theorem yM {N:Nat} (hN:N=4352) {l:List cQ} (ho:∀ x∈l,OkP x) (hl:l.length≤4096):
  ((firsts (gC l N)).length≤256→∃ like',pd l like' N∧aO l=some (some ⟨like',firsts (gC l N)⟩,0))∧(¬ (firsts (gC l N)).length≤256→aO l=some (none,3)):=by
 have h:=apJ hN ho hl
 constructor
 ·intro f;rw[if_pos f]at h;exact h
 ·intro f;rw[if_neg f]at h;exact h
theorem arE {S:List (List ak)} (h:Good S):(Fit S→∃ like,pd (prp S) like nB∧aG.k1 S=some (some ⟨⟨like,firsts (gC (prp S) nB)⟩,cls S,lst S⟩,0))∧(¬ Fit S→aG.k1 S=some (none,3)):=by
 have hs:=eX h
 have hsm:=h.small
 have hloop:=vH (E:=edg S) h.norm h.few (kW h) (by omega) (edg S).length 0 (by omega) [] rz (by simp[firsts])
 have hk1:aG.k1 S=if (cls S).length≤200 then aG.k2 (prp S) (cls S) (lst S)else some (none,3):=by
  unfold aG.k1
  rw[hs.1,oB];exact hloop
 have hb:=yM (N:=nB) zP (awG h) (aoV h)
 rw[hk1]
 constructor
 ·rintro ⟨f1,f2⟩
  obtain ⟨like,b1,b2⟩:=hb.1 f2
  refine ⟨like,b1,?_⟩
  rw[if_pos f1]
  unfold aG.k2
  rw[b2,oB];rfl
 ·intro hf
  by_cases f1:(cls S).length≤200
  ·have f2:¬ (firsts (gC (prp S) nB)).length≤256:=fun f2=>hf ⟨f1,f2⟩
   rw[if_pos f1]
   unfold aG.k2
   rw[hb.2 f2,oB];rfl
  ·rw[if_neg f1]
end Go.Val
namespace Go.Val
set_option linter.unusedSectionVars false
section
variable {α K K':Type} [DecidableEq K] [DecidableEq K']
theorem ig [DecidableEq α]:∀ {l m:List α},l.Nodup→(∀ x∈l,x∈m)→l.length≤m.length
 | [],m,_,_=>by simp
 | a::l,m,h,hs=>by
  rw[List.nodup_cons]at h
  have ha:=hs a (by simp)
  have ih:=ig (l:=l) (m:=m.erase a) h.2 fun x hx=>by
   have hne:x≠a:=fun e=>h.1 (e ▸ hx)
   exact (List.mem_erase_of_ne hne).2 (hs x (by simp[hx]))
  rw[List.length_erase_of_mem ha]at ih
  have:=List.length_pos_of_mem ha
  simp;omega
theorem aoQ {f:α→K} {l:List α}:(uY f l).Sublist l:=by
 induction l using mP with
 | h0=>exact List.Sublist.refl _
 | h1 l a ih=>
  rw[sQ,asU]
  split
  ·exact ih.trans (List.sublist_append_left _ _)
  ·exact List.Sublist.append ih (List.Sublist.refl _)
theorem apB {f:α→K} {l:List α} {x:α} (h:x∈l):∃ y,y∈uY f l∧f y=f x:=by
 have:f x∈(uY f l).map f:=by rw[rb,eu];exact List.mem_map_of_mem h
 obtain ⟨y,hy,e⟩:=List.mem_map.1 this
 exact ⟨y,hy,e⟩
theorem count_le {f:α→K} {g:α→K'} {l l':List α} (hs:∀ x∈l',x∈l) (h:∀ x∈l,∀ y∈l,f x=f y→g x=g y):(firsts (l'.map g)).length≤(firsts (l.map f)).length:=by
 rw[← aec (f:=f) (l:=l),← List.length_map (f:=g)]
 refine ig mL fun z hz=>?_
 rw[eu]at hz
 obtain ⟨x,hx,rfl⟩:=List.mem_map.1 hz
 obtain ⟨y,hy,e⟩:=apB (f:=f) (hs x hx)
 exact List.mem_map.2 ⟨y,hy,h y (aoQ.subset hy) x (hs x hx) e⟩
end
theorem pg {S:List (List ak)} (h:Good S) {x:Int} (hx:0≤x∧x≤1114111):jz S x < (cls S).length:=yW (wJ h hx.1 hx.2)
theorem rS {S:List (List ak)} (h:Good S) {k j:Nat} (hk:k < 4352) (hj:j < 256):(cP (prp S) k).toList[j]? =some (UInt8.ofNat (jz S ((k*256+j:Nat):Int))):=by
 rw[kX _ _ _ hj,abL h (by omega) (by omega)]
theorem ofNat_inj {a b:Nat} (ha:a < 256) (hb:b < 256) (h:UInt8.ofNat a=UInt8.ofNat b):a=b:=by
 have:=congrArg UInt8.toNat h
 rw[UInt8.toNat_ofNat',UInt8.toNat_ofNat']at this
 omega
theorem axX {k j:Nat} (hk:k < 4352) (hj:j < 256):0≤((k*256+j:Nat):Int)∧((k*256+j:Nat):Int)≤1114111:=by omega
end Go.Val
namespace Go.Val
def IsA (S:List (List ak)) (A:aH):Prop:=∃ like,pd (prp S) like nB∧A=⟨⟨like,firsts (gC (prp S) nB)⟩,cls S,lst S⟩
def inR (r:Int):Prop:=0≤r∧r≤1114111
instance (r:Int):Decidable (inR r):=inferInstanceAs (Decidable (_∧_))
noncomputable def ofI (S:List (List ak)) (r:Int):Int:=if inR r then (jz S r:Int)else -1
variable {S:List (List ak)} {A:aH}
theorem ay0 (h:Good S) (hF:Fit S) (hA:IsA S A) (r:Int):dS A r=some (ofI S r):=by
 obtain ⟨like,hL,rfl⟩:=hA
 unfold dS ofI
 by_cases hr:inR r
 ·obtain ⟨h0,h1⟩:=hr
  rw[if_neg (by simp;omega),if_pos ⟨h0,h1⟩]
  simp only
  rw[zP]at hL
  have hFb:=hF.2
  have hT:=xI (N:=4352) rfl hL (by rw[zP]at hFb;exact hFb) h0 h1
  rw[zP,hT,oB,abL h h0 h1]
  have hlt:=pg h ⟨h0,h1⟩
  have hc:=hF.1
  rw[UInt8.toNat_ofNat',Nat.mod_eq_of_lt (by omega),w64 (by omega) (by omega)]
 ·rw[if_neg hr]
  unfold inR at hr
  rw[if_pos (by simp;omega)]
theorem apq (hA:IsA S A):dB A=some ((cls S).length:Int):=by
 obtain ⟨like,hL,rfl⟩:=hA;rfl
theorem anl {a:List ak} (hl:a.length < 9223372036854775807):ct a a=some true:=by rw[abP hl];simp
theorem ae2 (h:Good S):aG S=aG.k1 S:=by
 unfold aG
 have hf:=h.few
 rw[if_neg (by simp;omega)]
 have hrun:=oP (b:=aG.b2 S) (i:=0) (n:=S.length) (Nat.zero_le _) (fun j _ hj=>by
  have hn:=h.norm _ (gM hj)
  have hlen:=hn.len
  have hsm:S[j].length≤S.flatten.length:=by have:=aeM hj;omega
  have hs2:=h.small
  obtain ⟨out,e,m1,m2,m3,m4,m5,m6⟩:=ajN (l:=S[j]) (by omega)
  obtain ⟨e1,e2⟩:=xN hn m3 m5 m6
  subst e1 e2
  simp only[aG.b2]
  rw[if_pos (by simpa using hj),bw,gE hj,oB,m1,oB,if_neg (by simp),pO,anl (a:=S[j]) (by omega),oB,oB,if_neg (by simp),fH (by omega)])
 simp only[Int.ofNat_zero,Int.natCast_zero]at hrun
 rw[hrun]
 refine bP ?_
 simp only[aG.b2]
 rw[if_neg (by simp)]
theorem auX (h:Good S) (hF:Fit S):∃ A,IsA S A∧aG S=some (some A,0):=by
 obtain ⟨like,h1,h2⟩:=(arE h).1 hF
 exact ⟨_,⟨like,h1,rfl⟩,(ae2 h).trans h2⟩
theorem alq (h:Good S) (hF:¬ Fit S):aG S=some (none,3):=(ae2 h).trans ((arE h).2 hF)
noncomputable section
def atN (d:Nat):UInt8:=if d < 10 then UInt8.ofNat (48+d)else UInt8.ofNat (55+d)
def dv7 (c:UInt8):Nat:=if c.toNat < 58 then c.toNat - 48 else c.toNat - 55
theorem afd:∀ d:Fin 16,dv7 (atN d.1)=d.1∧atN d.1≠125∧([48,49,50,51,52,53,54,55,56,57,65,66,67,68,69,70]:Str)[d.1]? =some (atN d.1):=by decide
theorem tO {n:Nat} (h:n < 16):nv n=[atN n]:=by rw[nv,dif_pos h];rfl
theorem als {n:Nat} (h:¬ n < 16):nv n=nv (n/16)++[atN (n%16)]:=by rw[nv,dif_neg h,tO (n:=n%16) (by omega)]
def aym (l:Str):Nat:=l.foldl (fun a c=>a*16+dv7 c) 0
theorem ji:∀ (k n:Nat),n < 16^(k+1)→(nv n).length≤k+1∧(∀ c∈nv n,c≠125)∧aym (nv n)=n
 | k,n,h=>by
  by_cases h16:n < 16
  ·obtain ⟨h1,h2,_⟩:=afd ⟨n,h16⟩
   simp only at h1 h2
   rw[tO h16]
   exact ⟨by simp,fun c hc=>by rw[List.mem_singleton.1 hc];exact h2,by simp[aym,h1]⟩
  ·cases k with
   | zero=>omega
   | succ k=>
    have hp:n/16 < 16^(k+1):=by rw[Nat.pow_succ]at h;omega
    obtain ⟨g1,g2,g3⟩:=ji k (n/16) hp
    obtain ⟨h1,h2,_⟩:=afd ⟨n%16,by omega⟩
    simp only at h1 h2
    rw[als h16]
    refine ⟨by simp;omega,fun c hc=>?_,?_⟩
    ·rcases List.mem_append.1 hc with hc | hc
     ·exact g2 c hc
     ·rw[List.mem_singleton.1 hc];exact h2
    ·have:aym (nv (n/16)++[atN (n%16)])=aym (nv (n/16))*16+dv7 (atN (n%16)):=by unfold aym;rw[List.foldl_append];rfl
     rw[this,g3,h1];omega
theorem aqI {n m:Nat} (hn:n≤1114111) (hm:m≤1114111) (h:nv n=nv m):n=m:=by
 have h1:=(ji 5 n (by omega)).2.2
 rw[h,(ji 5 m (by omega)).2.2]at h1
 exact h1.symm
def wT (x:ak):Str:=uf x.Low++if x.High=x.Low then []else 45::uf x.High
theorem oE {n:Int} (h1:n≤1114111):(uf n).length≤10:=by
 have:=(ji 5 n.toNat (by omega)).1
 unfold uf;simp only[List.length_append,List.length_cons,List.length_nil];omega
theorem ug (l:List ak):kc l=91::(l.flatMap wT++[93]):=rfl
theorem abM {l:List ak} (ho:∀ x∈l,Ok x) (hl:l.length≤1200000):mh l=some (kc l):=by
 unfold mh
 rw[if_pos ⟨hl,fun x hx=>by have:=ho x hx;unfold Ok at this;omega⟩]
theorem aeN {c:UInt8}:∀ {A B R S:Str},(∀ x∈A,x≠c)→(∀ x∈B,x≠c)→A++c::R=B++c::S→A=B∧R=S
 | [],[],R,S,_,_,h=>⟨rfl,by simpa using h⟩
 | [],b::B,R,S,_,hb,h=>by
  simp only[List.nil_append,List.cons_append,List.cons.injEq]at h
  exact absurd h.1.symm (hb b (by simp))
 | a::A,[],R,S,ha,_,h=>by
  simp only[List.nil_append,List.cons_append,List.cons.injEq]at h
  exact absurd h.1 (ha a (by simp))
 | a::A,b::B,R,S,ha,hb,h=>by
  simp only[List.cons_append,List.cons.injEq]at h
  obtain ⟨h1,h2⟩:=aeN (fun x hx=>ha x (List.mem_cons_of_mem _ hx)) (fun x hx=>hb x (List.mem_cons_of_mem _ hx)) h.2
  exact ⟨by rw[h.1,h1],h2⟩
theorem ua {n m:Int} {A B:Str} (hn:0≤n∧n≤1114111) (hm:0≤m∧m≤1114111) (h:uf n++A=uf m++B):n=m∧A=B:=by
 unfold uf at h
 simp only[List.cons_append,List.nil_append,List.append_assoc,List.cons.injEq,true_and]at h
 obtain ⟨h1,h2⟩:=aeN (ji 5 n.toNat (by omega)).2.1 (ji 5 m.toNat (by omega)).2.1 h
 have:=aqI (by omega) (by omega) h1
 exact ⟨by omega,h2⟩
theorem zx (l:List ak):∃ c r,l.flatMap wT++[93]=c::r∧c≠45:=by
 cases l with
 | nil=>exact ⟨93,[],rfl,by decide⟩
 | cons x l=>exact ⟨92,_,rfl,by decide⟩
theorem aeT:∀ {l m:List ak},(∀ x∈l,Ok x)→(∀ x∈m,Ok x)→l.flatMap wT++[93]=m.flatMap wT++[93]→l=m
 | [],[],_,_,_=>rfl
 | [],y::m,_,_,h=>by
  have h2:(93:UInt8)::[]=92::_:=h
  simp at h2
 | x::l,[],_,_,h=>by
  have h2:(92:UInt8)::_=93::[]:=h
  simp at h2
 | x::l,y::m,hl,hm,h=>by
  have hx:=hl x (by simp)
  have hy:=hm y (by simp)
  unfold Ok at hx hy
  simp only[List.flatMap_cons]at h
  unfold wT at h
  simp only[List.append_assoc]at h
  obtain ⟨h1,h2⟩:=ua (by omega) (by omega) h
  obtain ⟨c,r,hc,hc2⟩:=zx l
  obtain ⟨d,q,hd,hd2⟩:=zx m
  have ih:=aeT (l:=l) (m:=m) (fun z hz=>hl z (by simp[hz])) (fun z hz=>hm z (by simp[hz]))
  unfold wT at ih hc hd
  by_cases ex:x.High=x.Low
  ·rw[if_pos ex,List.nil_append]at h2
   by_cases ey:y.High=y.Low
   ·rw[if_pos ey,List.nil_append]at h2
    rw[ih h2]
    have:x=y:=by cases x;cases y;simp_all
    rw[this]
   ·rw[if_neg ey,hc]at h2
    simp only[List.cons_append,List.cons.injEq]at h2
    exact absurd h2.1 hc2
  ·rw[if_neg ex]at h2
   by_cases ey:y.High=y.Low
   ·rw[if_pos ey,List.nil_append,hd]at h2
    simp only[List.cons_append,List.cons.injEq]at h2
    exact absurd h2.1.symm hd2
   ·rw[if_neg ey]at h2
    simp only[List.cons_append,List.cons.injEq,true_and]at h2
    obtain ⟨h3,h4⟩:=ua (by omega) (by omega) h2
    rw[ih h4]
    have:x=y:=by cases x;cases y;simp_all
    rw[this]
theorem abo {l m:List ak} (hl:∀ x∈l,Ok x) (hm:∀ x∈m,Ok x) (h:kc l=kc m):l=m:=by
 rw[ug,ug]at h
 simp only[List.cons.injEq,true_and]at h
 exact aeT hl hm h
end
end Go.Val

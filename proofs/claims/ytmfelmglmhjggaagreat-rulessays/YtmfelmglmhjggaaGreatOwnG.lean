/- A value semantics of the model's programs, sound against it, and functions read off the given program with the proofs that it runs so; no condition. -/
import Derived.Test.YtmfelmglmhjggaaGreatOwnC
import Derived.Test.YtmfelmglmhjggaaGreatOwnD
import Derived.Test.YtmfelmglmhjggaaGreatOwnE
import Derived.Test.YtmfelmglmhjggaaGreatOwnF
import Derived.Sort.AssemblyPlain
set_option linter.all false
set_option linter.unnecessarySimpa false
set_option linter.unusedVariables false
set_option linter.unusedSimpArgs false
namespace Go.Val
set_option maxRecDepth 20000
open Go.Proofs
theorem jL(p:bL) (l:List Int) {h:bn} {a:Bool} (e:af p l=some a):
  cq CT 4 [.cv (.val (.agg [.sl (List.map (eL ay) p.Sets),.sl (List.map eu p.Rules)])),vL eI l] h fun o h'=>o=[vB a]∧h'=h:=by
 refine bg Tryz.func4 fun hwf hu=>?_
 obtain⟨D,hD,hr⟩:=Holds.one e
 dsimp only[af]at hr
 change aO _ _ _ _ _ ⟨[(0,.cv (.val (.agg [.sl (List.map (eL ay) p.Sets),.sl (List.map eu p.Rules)]))),(1,vL eI l)],h.on []⟩
 refine A_s ?_
 refine al (cB ?_)
 obtain⟨r,eF1,hr⟩:=hr.bind
 refine aT (out:=?o1) (hp:=?p1) ?c1 ?d1 ?_
 case c1=>exact lV  eF1
 case d1=>rfl
 refine fj ?_
 refine fD 1 ?_
 obtain⟨r1,eF2,hr⟩:=hr.bind
 refine aT (out:=?o2) (hp:=?p2) ?c2 ?d2 ?_
 case c2=>exact nd p eF2
 case d2=>rfl
 refine fj ?_
 refine al (cf (sj:=⟨[(1,vL eI l),(2,vP (h.n+0)),(5,vB r),(27,vB ((!r)||((!r1)||(decide ((l.length:Int) > (12:Int))))))],h.on [some (.cells [wL (eL ay) p.Sets,wL eu p.Rules])]⟩) (cB ?_) ?_)
 ·refine aG 3 ?_
  rcases Bool.eq_false_or_eq_true (!r)with cF3|cF3
  ·refine aj ?_
   exact w_k A_c
  ·refine aG 4 ?_
   rcases Bool.eq_false_or_eq_true (!r1)with cF4|cF4
   ·refine aj ?_
    exact w_k A_c
   ·refine aj ?_
    exact w_k A_c
 refine ak hr (fun cF5 hr=>?_) (fun cF5 hr=>?_)
 ·refine A_s ?_
  refine bk ?_
  obtain rfl:=hD _ hr
  exact(cm (aN (aU (os':=[]) (sl:=[(4,vB r)]) hwf) ⟨rfl,aE hwf⟩))
 ·refine az (w_n (fD 1 ?_))
  obtain⟨r2,eF6,hr⟩:=hr.bind
  try dsimp only at hr
  rcases xF56:r2.1 with _|y
  ·rw[xF56]at hr
   dsimp only at hr
   refine aT (out:=?o_eF6a) (hp:=?p_eF6a) ?c_eF6a ?d_eF6a ?_
   case c_eF6a=>exact iQ p (40:Int) eF6 xF56
   case d_eF6a=>rfl
   refine fj ?_
   refine al (A_s ?_)
   refine ak hr (fun cF7 hr=>?_) (fun cF7 hr=>?_)
   ·refine A_s ?_
    refine bk ?_
    obtain rfl:=hD _ hr
    exact(cm (aN (aU (os':=[]) (sl:=[(4,vB true)]) hwf) ⟨rfl,aE hwf⟩))
   ·refine az (w_n (al (A_s ?_)))
    refine w_K (D:=D) (fun xX:Unit=>⟨[(1,vL eI l),(2,vP (h.n+0)),(7,.cv (.val (.ptr none)))],h.on [some (.cells [wL (eL ay) p.Sets,wL eu p.Rules])]⟩) (fun xX:Unit=>af.k1 p l) (fun xX s' hr ht=>?_) ?_
    ·dsimp only[af.k1]at hr ht
     refine(dG ht ?_)
     refine A_s ?_
     refine al (A_s ?_)
     refine w_K (D:=D) (fun xX:Unit=>⟨[(1,vL eI l),(7,.cv (.val (.ptr none))),(10,.cv .nil)],h.on []⟩) (fun xX:Unit=>af.k2) (fun xX s' hr ht=>?_) ?_
     ·dsimp only[af.k2]at hr ht
      refine(dG ht ?_)
      exact al (hr.elim)
     ·refine aw (cb (fun xX:Unit=>⟨[(1,vL eI l),(2,vP (h.n+0)),(7,.cv (.val (.ptr none))),(10,.cv .nil),(11,vI (0:Int))],h.on [some (.cells [wL (eL ay) p.Sets,wL eu p.Rules])]⟩) hr A_c (fun W1 xX hr=>?_))
      dsimp only[af.b1]at hr
      refine al (A_s ?_)
      refine ak hr (fun cF8 hr=>?_) (fun cF8 hr=>?_)
      ·refine az (w_n (al (aw (fD 3 ?_))))
       obtain⟨r3,eF9,hr⟩:=hr.bind
       refine aT (out:=?o9) (hp:=?p9) ?c9 ?d9 ?_
       case c9=>exact iM p l (0:Int) eF9
       case d9=>rfl
       refine fj ?_
       obtain⟨is,vF16,hr⟩:=hr.bind
       refine cf (sj:=⟨[(1,vL eI l),(2,vP (h.n+0)),(7,.cv (.val (.ptr none))),(10,.cv .nil),(11,vI (0:Int)),(12,vI r3),(13,vB is)],h.on [some (.cells [wL (eL ay) p.Sets,wL eu p.Rules])]⟩) (cB ?_) ?_
       ·have hr:=Holds.intro (D:=fun z=>z=is) vF16 rfl
        refine aG 3 ?_
        rcases hr.ite with⟨cF10,hr⟩|⟨cF10,hr⟩
        ·refine aj ?_
         obtain rfl:_=is:=hr
         exact w_k A_c
        ·refine aG 6 ?_
         rcases hr.ite with⟨cF11,hr⟩|⟨cF11,hr⟩
         ·refine aj ?_
          obtain rfl:_=is:=hr
          exact w_k A_c
         ·refine aG 4 ?_
          rcases hr.ite with⟨cF12,hr⟩|⟨cF12,hr⟩
          ·refine aj ?_
           obtain rfl:_=is:=hr
           exact w_k A_c
          ·obtain⟨x,nF13,eF14,gF15,hr⟩:=hr.idx
           refine aj ?_
           obtain rfl:_=is:=hr
           exact w_k A_c
       exact al (al (hr.elim))
      ·exact ca (cX (cX (fm (w_k ⟨(),(hr).map,A_c⟩))))
    ·refine aw (cb (fun xX:Int=>⟨[(1,vL eI l),(2,vP (h.n+0)),(7,.cv (.val (.ptr none))),(9,vI xX)],h.on [some (.cells [wL (eL ay) p.Sets,wL eu p.Rules])]⟩) hr A_c (fun W2 i hr=>?_))
     dsimp only[af.b2]at hr
     refine al (A_s ?_)
     refine ak hr (fun cF17 hr=>?_) (fun cF17 hr=>?_)
     ·refine az (w_n (al (aw ?_)))
      obtain⟨v1,vF22,hr⟩:=hr.bind
      refine cf (sj:=⟨[(1,vL eI l),(2,vP (h.n+0)),(7,.cv (.val (.ptr none))),(9,vI i),(55,vB v1)],h.on [some (.cells [wL (eL ay) p.Sets,wL eu p.Rules])]⟩) (cB ?_) ?_
      ·have hr:=Holds.intro (D:=fun z=>z=v1) vF22 rfl
       obtain⟨n,nF18,eF19,gF20,hr⟩:=hr.idx
       refine aG 6 ?_
       rcases hr.ite with⟨cF21,hr⟩|⟨cF21,hr⟩
       ·refine aj ?_
        obtain rfl:_=v1:=hr
        exact w_k A_c
       ·refine aj ?_
        obtain rfl:_=v1:=hr
        exact w_k A_c
      refine ak hr (fun cF23 hr=>?_) (fun cF23 hr=>?_)
      ·exact al (hr.elim)
      ·refine az (dC (w_n ?_))
       refine aC ?_
       exact(w_k ⟨(IntKind.i64.wrap (i+(1:Int))),hr,A_c⟩)
     ·exact ca (cX (cX (fm (w_k ⟨(),(hr).map,A_c⟩))))
  ·rw[xF56]at hr
   dsimp only at hr
   refine aT (out:=?o_eF6b) (hp:=?p_eF6b) ?c_eF6b ?d_eF6b ?_
   case c_eF6b=>exact iJ p (40:Int) eF6 xF56
   case d_eF6b=>rfl
   refine fj ?_
   refine al (A_s ?_)
   refine ak hr (fun cF24 hr=>?_) (fun cF24 hr=>?_)
   ·refine A_s ?_
    refine bk ?_
    obtain rfl:=hD _ hr
    exact(cm (aN (aU (os':=[]) (sl:=[(4,vB false)]) hwf) ⟨rfl,aE hwf⟩))
   ·refine az (w_n (al (A_s ?_)))
    refine w_K (D:=D) (fun xX:Unit=>⟨[(1,vL eI l),(2,vP (h.n+0)),(7,vP (h.n+5))],h.on [some (.cells [wL (eL ay) p.Sets,wL eu p.Rules]),none,none,none,some (.cells (cH eU y.trie.like++([wL (eA eU) y.trie.first]:List CV))),some (.cells [wL cu y.rules,wP (h.n+4),wI y.classes])]⟩) (fun xX:Unit=>af.k3 p l y) (fun xX s' hr ht=>?_) ?_
    ·dsimp only[af.k3]at hr ht
     refine(dG ht ?_)
     refine A_s ?_
     refine al (A_s ?_)
     refine w_K (D:=D) (fun xX:List Int=>⟨[(1,vL eI l),(7,vP (h.n+5)),(10,rI xX)],h.on [none,none,none,none,some (.cells (cH eU y.trie.like++([wL (eA eU) y.trie.first]:List CV))),some (.cells [wL cu y.rules,wP (h.n+4),wI y.classes])]⟩) (fun xX:List Int=>af.k4 l y xX) (fun want s' hr ht=>?_) ?_
     ·dsimp only[af.k4]at hr ht
      refine(dG ht ?_)
      refine fD 2 ?_
      obtain⟨r4,eF25,hr⟩:=hr.bind
      refine aT (out:=?o25) (hp:=?p25) ?c25 ?d25 ?_
      case c25=>(refine eZ y l (h.n+5) (h.n+4) ?_ ?_ ?_ eF25;exact cN;exact cN;exact qv)
      case d25=>rfl
      refine aG 1 ?_
      obtain⟨r5,eF26,hr⟩:=hr.bind
      refine aT (out:=?o26) (hp:=?p26) ?c26 ?d26 ?_
      case c26=>exact gq r4 want eF26
      case d26=>rfl
      refine fj ?_
      refine bk ?_
      obtain rfl:=hD _ hr
      exact(aN (aU (os':=[]) (sl:=[(4,vB r5)]) hwf) ⟨rfl,aE hwf⟩)
     ·refine aw (cb (fun xX:(List Int×Int)=>⟨[(1,vL eI l),(2,vP (h.n+0)),(7,vP (h.n+5)),(10,rI xX.1),(11,vI xX.2)],h.on [some (.cells [wL (eL ay) p.Sets,wL eu p.Rules]),none,none,none,some (.cells (cH eU y.trie.like++([wL (eA eU) y.trie.first]:List CV))),some (.cells [wL cu y.rules,wP (h.n+4),wI y.classes])]⟩) hr A_c (fun W3 xX hr=>?_))
      obtain⟨want1,i1⟩:=xX
      dsimp only[af.b3]at hr
      refine al (A_s ?_)
      refine ak hr (fun cF27 hr=>?_) (fun cF27 hr=>?_)
      ·refine az (w_n (al (w_K (D:=(Aft W3 D)) (fun xX:List Int=>⟨[(1,vL eI l),(2,vP (h.n+0)),(7,vP (h.n+5)),(10,rI xX),(11,vI i1)],h.on [some (.cells [wL (eL ay) p.Sets,wL eu p.Rules]),none,none,none,some (.cells (cH eU y.trie.like++([wL (eA eU) y.trie.first]:List CV))),some (.cells [wL cu y.rules,wP (h.n+4),wI y.classes])]⟩) (fun xX:List Int=>af.k5 i1 xX) (fun want2 s' hr ht=>?_) ?_)))
       ·dsimp only[af.k5]at hr ht
        refine(dG ht ?_)
        refine aC ?_
        exact(w_k ⟨(want2,(IntKind.i64.wrap (i1+(1:Int)))),hr,A_c⟩)
       ·refine aw (fD 3 ?_)
        obtain⟨r6,eF28,hr⟩:=hr.bind
        refine aT (out:=?o28) (hp:=?p28) ?c28 ?d28 ?_
        case c28=>exact iM p l i1 eF28
        case d28=>rfl
        refine fj ?_
        obtain⟨is1,vF35,hr⟩:=hr.bind
        refine cf (sj:=⟨[(1,vL eI l),(2,vP (h.n+0)),(7,vP (h.n+5)),(10,rI want1),(11,vI i1),(12,vI r6),(13,vB is1)],h.on [some (.cells [wL (eL ay) p.Sets,wL eu p.Rules]),none,none,none,some (.cells (cH eU y.trie.like++([wL (eA eU) y.trie.first]:List CV))),some (.cells [wL cu y.rules,wP (h.n+4),wI y.classes])]⟩) (cB ?_) ?_
        ·have hr:=Holds.intro (D:=fun z=>z=is1) vF35 rfl
         refine aG 3 ?_
         rcases hr.ite with⟨cF29,hr⟩|⟨cF29,hr⟩
         ·refine aj ?_
          obtain rfl:_=is1:=hr
          exact w_k A_c
         ·refine aG 6 ?_
          rcases hr.ite with⟨cF30,hr⟩|⟨cF30,hr⟩
          ·refine aj ?_
           obtain rfl:_=is1:=hr
           exact w_k A_c
          ·refine aG 4 ?_
           rcases hr.ite with⟨cF31,hr⟩|⟨cF31,hr⟩
           ·refine aj ?_
            obtain rfl:_=is1:=hr
            exact w_k A_c
           ·obtain⟨x1,nF32,eF33,gF34,hr⟩:=hr.idx
            refine aj ?_
            obtain rfl:_=is1:=hr
            exact w_k A_c
        refine al ?_
        obtain⟨v2,vF39,hr⟩:=hr.bind
        refine cf (sj:=⟨[(1,vL eI l),(2,vP (h.n+0)),(7,vP (h.n+5)),(10,rI want1),(11,vI i1),(13,vB is1),(116,vB v2)],h.on [some (.cells [wL (eL ay) p.Sets,wL eu p.Rules]),none,none,none,some (.cells (cH eU y.trie.like++([wL (eA eU) y.trie.first]:List CV))),some (.cells [wL cu y.rules,wP (h.n+4),wI y.classes])]⟩) (cB ?_) ?_
        ·have hr:=Holds.intro (D:=fun z=>z=v2) vF39 rfl
         refine aG 3 ?_
         obtain⟨r7,eF36,hr⟩:=hr.bind
         refine aT (out:=?o36) (hp:=?p36) ?c36 ?d36 ?_
         case c36=>(refine iV y l i1 (h.n+5) (h.n+4) ?_ ?_ ?_ eF36;exact cN;exact cN;exact qv)
         case d36=>rfl
         refine aG 3 ?_
         rcases hr.ite with⟨cF37,hr⟩|⟨cF37,hr⟩
         ·refine aG 3 ?_
          refine iF ?_
          refine aj ?_
          obtain rfl:_=v2:=hr
          exact w_k A_c
         ·refine aG 3 ?_
          obtain⟨r8,eF38,hr⟩:=hr.bind
          refine aT (out:=?o38) (hp:=?p38) ?c38 ?d38 ?_
          case c38=>(refine iz y l i1 (h.n+5) (h.n+4) ?_ ?_ ?_ eF38;exact cN;exact cN;exact qv)
          case d38=>rfl
          refine aj ?_
          obtain rfl:_=v2:=hr
          exact w_k A_c
        refine ak hr (fun cF40 hr=>?_) (fun cF40 hr=>?_)
        ·refine A_s ?_
         refine bk ?_
         obtain rfl:=hD _ hr
         exact(cm (fa (cm (cm (cm (fa (cm (cm (aN (aU (os':=[]) (sl:=[(4,vB false)]) hwf) ⟨rfl,aE hwf⟩)))))))))
        ·refine az (w_n (A_s ?_))
         refine ak hr (fun cF41 hr=>?_) (fun cF41 hr=>?_)
         ·obtain⟨nF42,hr⟩:=hr.room
          refine aC ?_
          exact(dC (w_k ⟨(want1++([i1])),hr,A_c⟩))
         ·exact az (dC (w_k ⟨want1,hr,A_c⟩))
      ·exact ca (cX (cX (fm (w_k ⟨want1,(hr).map,A_c⟩))))
    ·refine aw (cb (fun xX:Int=>⟨[(1,vL eI l),(2,vP (h.n+0)),(7,vP (h.n+5)),(9,vI xX)],h.on [some (.cells [wL (eL ay) p.Sets,wL eu p.Rules]),none,none,none,some (.cells (cH eU y.trie.like++([wL (eA eU) y.trie.first]:List CV))),some (.cells [wL cu y.rules,wP (h.n+4),wI y.classes])]⟩) hr A_c (fun W4 i2 hr=>?_))
     dsimp only[af.b4]at hr
     refine al (A_s ?_)
     refine ak hr (fun cF43 hr=>?_) (fun cF43 hr=>?_)
     ·refine az (w_n (al (aw ?_)))
      obtain⟨v3,vF48,hr⟩:=hr.bind
      refine cf (sj:=⟨[(1,vL eI l),(2,vP (h.n+0)),(7,vP (h.n+5)),(9,vI i2),(55,vB v3)],h.on [some (.cells [wL (eL ay) p.Sets,wL eu p.Rules]),none,none,none,some (.cells (cH eU y.trie.like++([wL (eA eU) y.trie.first]:List CV))),some (.cells [wL cu y.rules,wP (h.n+4),wI y.classes])]⟩) (cB ?_) ?_
      ·have hr:=Holds.intro (D:=fun z=>z=v3) vF48 rfl
       obtain⟨n1,nF44,eF45,gF46,hr⟩:=hr.idx
       refine aG 6 ?_
       rcases hr.ite with⟨cF47,hr⟩|⟨cF47,hr⟩
       ·refine aj ?_
        obtain rfl:_=v3:=hr
        exact w_k A_c
       ·refine aj ?_
        obtain rfl:_=v3:=hr
        exact w_k A_c
      refine ak hr (fun cF49 hr=>?_) (fun cF49 hr=>?_)
      ·obtain⟨v4,vF55,hr⟩:=hr.bind
       refine cf (sj:=⟨[(4,vB v4)],h.on []⟩) (cB ?_) ?_
       ·have hr:=Holds.intro (D:=fun z=>z=v4) vF55 rfl
        refine aG 2 ?_
        obtain⟨r9,eF50,hr⟩:=hr.bind
        refine aT (out:=?o50) (hp:=?p50) ?c50 ?d50 ?_
        case c50=>(refine eZ y l (h.n+5) (h.n+4) ?_ ?_ ?_ eF50;exact cN;exact cN;exact qv)
        case d50=>rfl
        refine aG 3 ?_
        rcases hr.ite with⟨cF51,hr⟩|⟨cF51,hr⟩
        ·refine aG 2 ?_
         obtain⟨r10,eF52,hr⟩:=hr.bind
         refine aT (out:=?o52) (hp:=?p52) ?c52 ?d52 ?_
         case c52=>(refine iV y l (0:Int) (h.n+5) (h.n+4) ?_ ?_ ?_ eF52;exact cN;exact cN;exact qv)
         case d52=>rfl
         refine aG 3 ?_
         rcases hr.ite with⟨cF53,hr⟩|⟨cF53,hr⟩
         ·refine aG 2 ?_
          obtain⟨r11,eF54,hr⟩:=hr.bind
          refine aT (out:=?o54) (hp:=?p54) ?c54 ?d54 ?_
          case c54=>(refine iz y l (0:Int) (h.n+5) (h.n+4) ?_ ?_ ?_ eF54;exact cN;exact cN;exact qv)
          case d54=>rfl
          refine aj ?_
          obtain rfl:_=v4:=hr
          exact w_k A_c
         ·refine aG 2 ?_
          refine iF ?_
          refine aj ?_
          obtain rfl:_=v4:=hr
          exact w_k A_c
        ·refine aG 2 ?_
         refine iF ?_
         refine aG 5 ?_
         refine iF ?_
         refine aj ?_
         obtain rfl:_=v4:=hr
         exact w_k A_c
       refine bk ?_
       obtain rfl:=hD _ hr
       exact(fa (cm (cm (fa (cm (cm (aN (aU (os':=[]) (sl:=[(4,vB v4)]) hwf) ⟨rfl,aE hwf⟩)))))))
      ·refine az (dC (w_n ?_))
       refine aC ?_
       exact(w_k ⟨(IntKind.i64.wrap (i2+(1:Int))),hr,A_c⟩)
     ·exact ca (cX (cX (fm (w_k ⟨(),(hr).map,A_c⟩))))
end Go.Val
namespace Go.Val
theorem w64{n:Int}(h1: -9223372036854775808≤n)(h2:n≤9223372036854775807):IntKind.i64.wrap n=n:=by rw[IntKind.wrap_i64];omega
theorem eN{i:Nat}(h:i < 9223372036854775807):IntKind.i64.wrap ((i:Int)+1)=((i+1:Nat):Int):=by rw[w64 (by omega) (by omega)];omega
theorem bz{α:Type}{xs:List α}{i:Nat}:idx xs (i:Int)=xs[i]? :=by
 unfold idx;rw[if_neg (by omega)];simp
theorem sq{α:Type}{xs:List α}{i:Int}{x:α}(h0:0≤i)(h:xs[i.toNat]? =some x):idx xs i=some x:=by
 unfold idx;rw[if_neg (by omega)];exact h
theorem cK{sz n:Nat}(h:n*sz≤140737488355328):room sz n=some ():=by
 unfold room dU;rw[if_pos h]
theorem aaH{α:Type}{sz:Nat}{z:α}{n:Nat}(h:n*sz≤140737488355328):mk sz z (n:Int)=some (List.replicate n z):=by
 unfold mk dU;rw[if_pos ⟨by omega,by simpa using h⟩];simp
theorem mD{α:Type}{P:List α→Prop}(h0:P [])(h1:∀l x,P l→P (l++[x]))(l:List α):P l:=by
 have key:∀l:List α,P l.reverse:=by
  intro l
  induction l with
  |nil=>exact h0
  |cons x l ih=>rw[List.reverse_cons];exact h1 _ _ ih
 have:=key l.reverse
 rwa[List.reverse_reverse]at this
theorem dZ{σ ρ:Type}{b:σ→Option (Step σ ρ)}(st:Nat→σ){i n:Nat}(hin:i≤n)(h:∀j,i≤j→j < n→b (st j)=some (.next (st (j+1)))):Loop b (st i)=Loop b (st n):=by
 induction n with
 |zero=>obtain rfl:i=0:=by omega
        rfl
 |succ n ih=>
  by_cases e:i=n+1
  ·rw[e]
  ·rw[ih (by omega) fun j h1 h2=>h j h1 (by omega)]
   exact bM (h n (by omega) (by omega))
theorem mM{ρ:Type}{b:Int→Option (Step Int ρ)}{i n:Nat}(hin:i≤n)(h:∀j:Nat,i≤j→j < n→b j=some (.next ((j+1:Nat):Int))):Loop b (i:Int)=Loop b (n:Int):=dZ (fun j:Nat=>(j:Int)) hin h
theorem bK{σ ρ:Type}{b:σ→Option (Step σ ρ)}{s:σ}{R:Option ρ}(h:b s=R.map Step.done):Loop b s=R:=by
 cases R with
 |some r=>exact cP h
 |none=>
  apply Option.ext_some
  ·intro r hr
   obtain⟨n,hn⟩:=sA hr
   cases n with
   |zero=>simp[rounds]at hn
   |succ n=>simp[rounds,h]at hn
  ·intro r hr;cases hr
open Classical in
theorem ank{ρ:Type}{b:Int→Option (Step Int ρ)}(P:Nat→Prop){n:Nat}{r R:ρ}(hg:∀j,j < n→P j→b (j:Int)=some (.next ((j+1:Nat):Int)))(hb:∀j,j < n→¬ P j→b (j:Int)=some (.done r))(he:b (n:Int)=some (.done R)):
  ∀(d i:Nat),i+d=n→Loop b (i:Int)=if ∀j,i≤j→j < n→P j then some R else some r:=by
 intro d
 induction d with
 |zero=>
  intro i hi
  obtain rfl:i=n:=by omega
  rw[if_pos (fun j h1 h2=>by omega)]
  exact cP he
 |succ d ih=>
  intro i hi
  by_cases hp:P i
  ·rw[bM (hg i (by omega) hp),ih (i+1) (by omega)]
   have:(∀j,i+1≤j→j < n→P j)↔∀j,i≤j→j < n→P j:=by
    constructor
    ·intro h j h1 h2
     by_cases e:j=i
     ·rw[e];exact hp
     ·exact h j (by omega) h2
    ·intro h j h1 h2;exact h j (by omega) h2
   simp only[this]
  ·rw[cP (hb i (by omega) hp),if_neg (fun h=>hp (h i (nR _) (by omega)))]
theorem nA{ρ:Type}{b:Int→Option (Step Int ρ)}(P:Nat→Prop)(n:Nat){r R:ρ}(hg:∀j,j < n→P j→b (j:Int)=some (.next ((j+1:Nat):Int)))(hb:∀j,j < n→¬ P j→b (j:Int)=some (.done r))(he:b (n:Int)=some (.done R)):
  ((∀j,j < n→P j)→Loop b 0=some R)∧((¬ ∀j,j < n→P j)→Loop b 0=some r):=by
 have:=ank P hg hb he n 0 (by omega)
 exact⟨fun h=>by rw[if_pos (fun j _ hj=>h j hj)]at this;exact this,fun h=>by rw[if_neg (fun h'=>h fun j hj=>h' j (Nat.zero_le _) hj)]at this;exact this⟩
theorem lO{σ ρ:Type}{body:σ→Option (Step σ ρ)}{Q:ρ→Prop}(I:σ→Prop)(μ:σ→Nat)
  (h:∀s,I s→(∃s',body s=some (.next s')∧I s'∧μ s' < μ s)∨(∃r,body s=some (.done r)∧Q r)):∀s,I s→∃r,Loop body s=some r∧Q r:=by
 have key:∀(n:Nat) (s:σ),μ s=n→I s→∃r,Loop body s=some r∧Q r:=by
  intro n
  induction n using Nat.strongRecOn with
  |_ n ih=>
   intro s hn hs
   rcases h s hs with⟨s',h1,h2,h3⟩|⟨r,h1,h2⟩
   ·rw[bM h1]
    exact ih _ (by omega) s' rfl h2
   ·exact⟨r,cP h1,h2⟩
 intro s hs
 exact key _ s rfl hs
def In(a:List ah)(r:Int):Prop:=∃x∈a,x.Low≤r∧r≤x.High
def Ok(x:ah):Prop:=0≤x.Low∧x.Low≤x.High∧x.High≤1114111
def iB(a:List ah):Prop:=(∀x∈a,Ok x)∧a.Pairwise (fun x y=>x.High+1 < y.Low)
theorem vV{r:Int}:¬ In [] r:=by rintro⟨x,h,_⟩;cases h
theorem mF{x:ah}{l:List ah}{r:Int}:In (x::l) r↔(x.Low≤r∧r≤x.High)∨In l r:=by
 simp only[In,mC]
 constructor
 ·rintro⟨y,rfl|h,hy⟩
  ·exact .inl hy
  ·exact .inr ⟨y,h,hy⟩
 ·rintro(h|⟨y,h,hy⟩)
  ·exact⟨x,.inl rfl,h⟩
  ·exact⟨y,.inr h,hy⟩
theorem kq{l m:List ah}{r:Int}:In (l++m) r↔In l r∨In m r:=by
 simp only[In,List.mem_append]
 constructor
 ·rintro⟨y,h|h,hy⟩
  ·exact .inl ⟨y,h,hy⟩
  ·exact .inr ⟨y,h,hy⟩
 ·rintro(⟨y,h,hy⟩|⟨y,h,hy⟩)
  ·exact⟨y,.inl h,hy⟩
  ·exact⟨y,.inr h,hy⟩
theorem ql{x:ah}{r:Int}:In [x] r↔x.Low≤r∧r≤x.High:=by
 rw[mF]
 exact⟨fun h=>h.elim id fun h=>absurd h vV,.inl⟩
theorem asy{l m:List ah}(h:l.Perm m){r:Int}:In l r↔In m r:=by
 simp only[In,h.mem_iff]
theorem od:iB []:=⟨fun x h=>(by cases h),.nil⟩
theorem lN{x:ah}{l:List ah}:iB (x::l)↔Ok x∧(∀y∈l,x.High+1 < y.Low)∧iB l:=by
 simp only[iB,mC,forall_eq_or_imp,List.pairwise_cons]
 constructor
 ·rintro⟨⟨h1,h2⟩,h3,h4⟩;exact⟨h1,h3,h2,h4⟩
 ·rintro⟨h1,h3,h2,h4⟩;exact⟨⟨h1,h2⟩,h3,h4⟩
theorem jw{x:ah}{l:List ah}:iB (l++[x])↔iB l∧Ok x∧∀y∈l,y.High+1 < x.Low:=by
 simp only[iB,List.mem_append,List.mem_singleton,List.pairwise_append]
 constructor
 ·rintro⟨h1,h2,h3,h4⟩
  exact⟨⟨fun y hy=>h1 y (.inl hy),h2⟩,h1 x (.inr rfl),fun y hy=>h4 y hy x rfl⟩
 ·rintro⟨⟨h1,h2⟩,h3,h4⟩
  refine⟨fun y hy=>?_,h2,List.pairwise_singleton _ _,fun y hy z hz=>?_⟩
  ·rcases hy with hy|rfl
   ·exact h1 y hy
   ·exact h3
  ·subst hz;exact h4 y hy
theorem iB.bound{a:List ah}(h:iB a){r:Int}(hr:In a r):0≤r∧r≤1114111:=by
 obtain⟨x,hx,h1,h2⟩:=hr
 have:=h.1 x hx
 unfold Ok at this
 omega
theorem aeq{a:List ah}(h:iB a){x:ah}(hx:x∈a):In a x.Low:=⟨x,hx,Int.le_refl _,(h.1 x hx).2.1⟩
theorem atG{a:List ah}(h:iB a){x:ah}(hx:x∈a):In a x.High:=⟨x,hx,(h.1 x hx).2.1,Int.le_refl _⟩
theorem iB.unique:∀{a b:List ah},iB a→iB b→(∀r,In a r↔In b r)→a=b
 | [],[],_,_,_=>rfl
 | [],y::m,_,hb,h=>absurd ((h y.Low).2 (aeq hb (by simp))) vV
 |x::l,[],ha,_,h=>absurd ((h x.Low).1 (aeq ha (by simp))) vV
 |x::l,y::m,ha,hb,h=>by
  have ha':=lN.1 ha
  have hb':=lN.1 hb
  have hxo:=ha'.1
  have hyo:=hb'.1
  unfold Ok at hxo hyo
  have low:∀{x:ah} {l:List ah},iB (x::l)→∀{r:Int},In (x::l) r→x.Low≤r:=fun {x l} hn {r} hr=>by
   have hn':=lN.1 hn
   have ho:=hn'.1
   unfold Ok at ho
   rcases mF.1 hr with h|⟨z,hz,h1,h2⟩
   ·exact h.1
   ·have:=hn'.2.1 z hz;omega
  have next:∀{x:ah} {l:List ah},iB (x::l)→¬ In (x::l) (x.High+1):=fun {x l} hn hr=>by
   have hn':=lN.1 hn
   rcases mF.1 hr with h|⟨z,hz,h1,h2⟩
   ·omega
   ·have:=hn'.2.1 z hz;omega
  have e1:x.Low=y.Low:=by
   have h1:=low hb ((h x.Low).1 (aeq ha (by simp)))
   have h2:=low ha ((h y.Low).2 (aeq hb (by simp)))
   omega
  have e2:x.High=y.High:=by
   have h1:¬ x.High < y.High:=fun hlt=>next ha ((h _).2 (mF.2 (.inl ⟨by omega,by omega⟩)))
   have h2:¬ y.High < x.High:=fun hlt=>next hb ((h _).1 (mF.2 (.inl ⟨by omega,by omega⟩)))
   omega
  have e:x=y:=by cases x;cases y;simp_all
  subst e
  rw[iB.unique ha'.2.2 hb'.2.2 fun r=>?_]
  constructor
  ·intro hr
   rcases mF.1 ((h r).1 (mF.2 (.inr hr)))with h1|h1
   ·obtain⟨z,hz,k1,k2⟩:=hr
    have:=ha'.2.1 z hz;omega
   ·exact h1
  ·intro hr
   rcases mF.1 ((h r).2 (mF.2 (.inr hr)))with h1|h1
   ·obtain⟨z,hz,k1,k2⟩:=hr
    have:=hb'.2.1 z hz;omega
   ·exact h1
theorem avU{a b:Int}:a≤mx a b∧b≤mx a b:=by unfold mx;split <;> omega
theorem axQ{a b c:Int}(h1:a≤c)(h2:b≤c):mx a b≤c:=by unfold mx;split <;> omega
theorem axC{a b:Int}:mx a b=a∨mx a b=b:=by unfold mx;split <;> simp
theorem aeo{n:Nat}(h:n < 9223372036854775807):IntKind.i64.wrap (((n+1:Nat):Int) - 1)=n:=by rw[w64 (by omega) (by omega)];omega
theorem apg{out:List ah}{x:ah}(hn:iB out)(hx:Ok x)(hl:∀y∈out,y.Low≤x.Low)(hlen:(out.length+1)*16≤140737488355328):
  ∃out',jm out x=some out'∧iB out'∧(∀r,In out' r↔In out r∨(x.Low≤r∧r≤x.High))∧out'.length≤out.length+1∧∀y∈out',y.Low≤x.Low:=by
 have hxo:=hx
 unfold Ok at hxo
 rcases List.eq_nil_or_concat out with rfl|⟨init,y,rfl⟩
 ·refine⟨[x],?_,jw (l:=[]).2 ⟨od,hx,fun y h=>by cases h⟩,fun r=>?_,by simp,fun y hy=>?_⟩
  ·unfold jm
   rw[if_neg (by simp),oB,if_neg (by simp),cK (by simp),oB];rfl
  ·rw[ql];exact⟨.inr,fun h=>h.elim (fun h=>absurd h vV) id⟩
  ·simp at hy;subst hy;omega
 ·rw[List.concat_eq_append]at*
  have hlen':(init++[y]).length=init.length+1:=by simp
  obtain⟨n1,n2,n3⟩:=jw.1 hn
  have hyo:=n2
  unfold Ok at hyo
  have hyl:=hl y (by simp)
  have hi:(init++[y])[init.length]? =some y:=by simp
  have hbig:init.length < 9223372036854775807:=by rw[hlen']at hlen;omega
  have hw:IntKind.i64.wrap (((init++[y]).length:Int) - 1)=(init.length:Int):=by rw[hlen'];exact aeo hbig
  have hcond:(if (decide (((init++[y]).length:Int) > (0:Int)))then
   (idx (init++[y]) (IntKind.i64.wrap (((init++[y]).length:Int) - (1:Int)))).bind fun x1=>
   some (decide (x.Low≤(IntKind.i64.wrap (x1.High+(1:Int)))))
  else
   some false)=some (decide (x.Low≤y.High+1)):=by
   rw[if_pos (by simp),hw,bz,hi,oB,w64 (by omega) (by omega)]
  by_cases hc:x.Low≤y.High+1
  ·refine⟨init++[⟨y.Low,mx y.High x.High⟩],?_,jw.2 ⟨n1,⟨(show 0≤y.Low by omega),?_,axQ (by omega) (by omega)⟩,n3⟩,fun r=>?_,by simp,fun z hz=>?_⟩
   ·unfold jm
    rw[hcond,oB,if_pos (by simpa using hc),hw,bz,hi,oB]
    try simp
   ·have:=(avU (a:=y.High) (b:=x.High)).1
    show y.Low≤mx y.High x.High
    omega
   ·rw[kq,kq,ql,ql]
    have h1:=avU (a:=y.High) (b:=x.High)
    have h2:=axC (a:=y.High) (b:=x.High)
    show In init r∨(y.Low≤r∧r≤mx y.High x.High)↔(In init r∨(y.Low≤r∧r≤y.High))∨(x.Low≤r∧r≤x.High)
    constructor
    ·rintro(h|⟨h3,h4⟩)
     ·exact .inl (.inl h)
     ·by_cases h5:r≤y.High
      ·exact .inl (.inr ⟨h3,h5⟩)
      ·exact .inr ⟨by omega,by omega⟩
    ·rintro((h|⟨h3,h4⟩)|⟨h3,h4⟩)
     ·exact .inl h
     ·exact .inr ⟨h3,by omega⟩
     ·exact .inr ⟨by omega,by omega⟩
   ·rcases List.mem_append.1 hz with hz|hz
    ·exact hl z (by simp[hz])
    ·simp at hz;subst hz;exact hyl
  ·refine⟨init++[y]++[x],?_,jw.2 ⟨hn,hx,fun z hz=>?_⟩,fun r=>?_,by simp,fun z hz=>?_⟩
   ·unfold jm
    rw[hcond,oB,if_neg (by simpa using hc),cK hlen,oB]
   ·rcases List.mem_append.1 hz with hz|hz
    ·have:=n3 z hz;omega
    ·simp at hz;subst hz;omega
   ·rw[kq,ql]
   ·rcases List.mem_append.1 hz with hz|hz
    ·exact hl z hz
    ·simp at hz;subst hz;omega
theorem tX{l:List ah}{f:ah→Option Bool}{g:ah→Bool}(hf:∀x∈l,f x=some (g x))(hl:l.length < 9223372036854775807):cA l f=some (l.any g):=by
 obtain⟨r,h1,h2⟩:=lO (body:=aJ.b1 l f) (Q:=fun r=>decide (r≥(0:Int))=l.any g) (fun v=>∃k:Nat,v=k∧k≤l.length∧∀j,j < k→∀x,l[j]? =some x→g x=false) (fun v=>l.length - v.toNat) (fun s ⟨k,hk,hkl,hall⟩=>by
  subst hk
  by_cases h:k < l.length
  ·have hx:l[k]? =some l[k]:=gE h
   cases hg:g l[k]with
   |true=>
    right
    refine⟨(k:Int),?_,?_⟩
    ·rw[aJ.b1,if_pos (by simpa using h),bz,hx,oB,hf _ (gM h),oB,hg,if_pos rfl]
    ·rw[decide_eq_true (by omega)];symm;rw[List.any_eq_true];exact⟨_,gM h,hg⟩
   |false=>
    left
    refine⟨((k+1:Nat):Int),?_,⟨k+1,rfl,h,fun j hj x hx'=>?_⟩,by omega⟩
    ·rw[aJ.b1,if_pos (by simpa using h),bz,hx,oB,hf _ (gM h),oB,hg,if_neg (by simp),eN (by omega)]
    ·by_cases e:j=k
     ·subst e;rw[hx]at hx';cases hx';exact hg
     ·exact hall j (by omega) x hx'
  ·right
   obtain rfl:k=l.length:=by omega
   refine⟨-1,?_,?_⟩
   ·rw[aJ.b1,if_neg (by simp)];rfl
   ·rw[decide_eq_false (by omega)];symm;rw[List.any_eq_false]
    intro x hx
    obtain⟨j,hj,rfl⟩:=List.getElem_of_mem hx
    simp[hall j hj _ (gE hj)]) (0:Int) ⟨0,rfl,Nat.zero_le _,fun j hj=>absurd hj (by omega)⟩
 unfold cA aJ
 rw[h1,oB,h2]
theorem ayl:Go.Sort.SWO ltR where
 irrefl x:=by simp[ltR]
 trans x y z h1 h2:=by simp[ltR]at*;omega
 ntrans x y z h1 h2:=by simp[ltR]at*;omega
theorem agw{l:List ah}(h:l.length≤140737488355328):∃l',adx l=some l'∧l'.Perm l∧l'.Pairwise (fun x y=>x.Low≤y.Low):=by
 unfold adx
 rw[if_pos (show l.length≤dU from h)]
 obtain⟨⟨h1,_,h2⟩,h3⟩:=Go.Sort.pdq_sorts ltR ayl l.toArray 0 l.length (Go.Lib.bitLen l.length) true true (Nat.zero_le _) (by simp) (Or.inl rfl)
 generalize Go.Sort.pdq ltR l.toArray 0 l.length (Go.Lib.bitLen l.length) true true=d at h1 h2 h3 ⊢
 have hs:d.size=l.length:=by simpa using h1
 refine⟨_,rfl,?_,?_⟩
 ·have e1:d.extract 0 l.length=d:=by rw[← hs];simp
  have e2:l.toArray.extract 0 l.length=l.toArray:=by simp
  rw[e1,e2]at h2
  simpa using h2
 ·rw[List.pairwise_iff_getElem]
  intro i j hi hj hij
  have:=h3 i j (Nat.zero_le _) hij (by simpa[hs]using hj)
  rw[getElem!_pos d j (by simpa using hj),getElem!_pos d i (by simpa using hi)]at this
  simp only[ltR,decide_eq_false_iff_not]at this
  simp only[Array.getElem_toList]
  omega
theorem aoQ{l:List ah}(h:l.length*16≤140737488355328):cF l=some l:=by
 unfold cF
 rw[cK (by omega)];rfl
instance (x:ah):Decidable (Ok x):=inferInstanceAs (Decidable (_∧_∧_))
theorem zq(x:ah):gA x=some (!decide (Ok x)):=by
 unfold gA Ok
 congr 1
 by_cases h1:x.Low < 0
 ·have:¬ (0≤x.Low∧x.Low≤x.High∧x.High≤1114111):=by omega
  simp[h1,this]
 ·by_cases h2:x.High > 1114111
  ·have:¬ (0≤x.Low∧x.Low≤x.High∧x.High≤1114111):=by omega
   simp[h2,this]
  ·by_cases h3:x.Low > x.High
   ·have:¬ (0≤x.Low∧x.Low≤x.High∧x.High≤1114111):=by omega
    simp[h3,this]
   ·have:0≤x.Low∧x.Low≤x.High∧x.High≤1114111:=by omega
    simp[h1,h2,h3,this]
theorem ak2{l:List ah}:(l.any fun x=>!decide (Ok x))= !decide (∀x∈l,Ok x):=by
 rw[Bool.eq_iff_iff]
 simp
theorem ait{l:List ah}{s:Nat}{x:ah}(h:l[s]? =some x):l.take (s+1)=l.take s++[x]:=by
 rw[List.take_add_one,h];rfl
theorem amA{l1:List ah}(hok:∀x∈l1,Ok x)(hs:l1.Pairwise (fun x y=>x.Low≤y.Low))(hl:l1.length*16≤140737488355328):
  ∃r,Loop (cW.b1 l1) ([],(0:Int))=some r∧r.2=0∧iB r.1∧(∀t,In r.1 t↔In l1 t)∧r.1.length≤l1.length:=by
 refine lO (body:=cW.b1 l1) (fun p=>∃k:Nat,p.2=k∧k≤l1.length∧iB p.1∧(∀t,In p.1 t↔In (l1.take k) t)∧p.1.length≤k∧∀y∈p.1,∀z∈l1.drop k,y.Low≤z.Low) (fun p=>l1.length - p.2.toNat) (fun p hp=>?_) _
  ⟨0,rfl,Nat.zero_le _,od,fun t=>by simp,nR _,fun y hy=>by cases hy⟩
 obtain⟨out,v⟩:=p
 obtain⟨k,hk,hkl,hn,hin,hlen,hlow⟩:=hp
 simp only at hk hn hin hlen hlow
 subst hk
 by_cases h:k < l1.length
 ·left
  have hx:l1[k]? =some l1[k]:=gE h
  have hd:l1.drop k=l1[k]::l1.drop (k+1):=List.drop_eq_getElem_cons h
  obtain⟨out',g1,g2,g3,g4,g5⟩:=apg (x:=l1[k]) hn (hok _ (gM h)) (fun y hy=>hlow y hy _ (by rw[hd];exact List.mem_cons_self)) (by omega)
  refine⟨(out',((k+1:Nat):Int)),?_,⟨k+1,rfl,h,g2,fun t=>?_,by simp only;omega,fun y hy z hz=>?_⟩,by simp only;omega⟩
  ·simp only[cW.b1]
   rw[if_pos (by simpa using h),bz,hx,oB,g1,oB,eN (by omega)]
  ·simp only
   rw[g3,hin,ait hx,kq,ql]
  ·have h1:=g5 y hy
   rw[List.pairwise_iff_getElem]at hs
   obtain⟨j,hj,rfl⟩:=List.getElem_of_mem hz
   simp only[List.getElem_drop]
   have:=hs k (k+1+j) h (by simp at hj;omega) (by omega)
   omega
 ·right
  obtain rfl:k=l1.length:=by omega
  refine⟨(out,0),?_,rfl,hn,fun t=>?_,hlen⟩
  ·simp only[cW.b1]
   rw[if_neg (by simp)];rfl
  ·simp only
   rw[hin,List.take_length]
theorem aj0{l:List ah}(hok:∀x∈l,Ok x)(hl:l.length*16≤140737488355328):
  ∃out,cW l=some (out,0)∧iB out∧(∀t,In out t↔In l t)∧out.length≤l.length:=by
 obtain⟨l1,h1,h2,h3⟩:=agw (l:=l) (by omega)
 obtain⟨r,g1,g2,g3,g4,g5⟩:=amA (l1:=l1) (fun x hx=>hok x (h2.mem_iff.1 hx)) h3 (by rw[h2.length_eq];exact hl)
 refine⟨r.1,?_,g3,fun t=>(g4 t).trans (asy h2),by rw[← h2.length_eq];exact g5⟩
 unfold cW
 rw[tX (fun x _=>zq x) (by omega),oB,ak2,decide_eq_true hok]
 rw[if_neg (by simp),aoQ hl,oB,h1,oB,g1,← g2]
theorem aez{l:List ah}(hbad:¬ ∀x∈l,Ok x)(hl:l.length < 9223372036854775807):cW l=some ([],1):=by
 unfold cW
 rw[tX (fun x _=>zq x) hl,oB,ak2,decide_eq_false hbad]
 rfl
theorem abX{a b:List ah}(hl:a.length < 9223372036854775807):bV a b=some (decide (a=b)):=by
 unfold bV
 by_cases hlen:a.length=b.length
 ·rw[if_neg (by simp[hlen])]
  have:=nA (b:=bV.b1 a b) (fun j=>a[j]? =b[j]?) a.length (r:=false) (R:=true) (fun j hj hp=>?_) (fun j hj hp=>?_) ?_
  ·by_cases h:a=b
   ·rw[this.1 (fun j _=>by rw[h]),decide_eq_true h]
   ·rw[this.2 (fun hall=>h (List.ext_getElem? fun j=>?_)),decide_eq_false h]
    by_cases hj:j < a.length
    ·exact hall j hj
    ·rw[gN (by omega),gN (by omega)]
  ·have ha:a[j]? =some a[j]:=gE hj
   have hb:b[j]? =some a[j]:=by rw[← hp];exact ha
   rw[bV.b1,if_pos (by simpa using hj),bz,ha,oB,bz,hb,oB,if_neg (by simp),eN (by omega)]
  ·have ha:a[j]? =some a[j]:=gE hj
   have hb:b[j]? =some (b[j]'(by omega)):=gE (by omega)
   rw[ha,hb]at hp
   rw[bV.b1,if_pos (by simpa using hj),bz,ha,oB,bz,hb,oB,if_pos]
   generalize a[j]=x at*
   generalize b[j]'(by omega)=y at*
   cases x;cases y
   simp only[sJ,ah.mk.injEq]at hp
   simp
   omega
  ·rw[bV.b1,if_neg (by simp)];rfl
 ·rw[if_pos (by simp;omega)]
  rw[decide_eq_false (fun h=>hlen (by rw[h]))]
theorem iB.short:∀{l:List ah} {lo:Int},iB l→(∀x∈l,lo≤x.Low)→(l.length:Int)≤max 0 (1114112 - lo)
 | [],lo,_,_=>by simp;omega
 |x::l,lo,h,hlo=>by
  obtain⟨h1,h2,h3⟩:=lN.1 h
  unfold Ok at h1
  have:=iB.short h3 (lo:=x.High+2) (fun y hy=>by have:=h2 y hy;omega)
  have:=hlo x (by simp)
  simp only[lC]
  omega
theorem iB.len{l:List ah}(h:iB l):l.length≤1114112:=by
 have:=h.short (lo:=0) (fun x hx=>(h.1 x hx).1)
 omega
theorem iB.sep:∀{a:List ah},iB a→∀x∈a,∀z∈a,z=x∨z.High+1 < x.Low∨x.High+1 < z.Low
 | [],_,x,hx,_,_=>by cases hx
 |y::l,h,x,hx,z,hz=>by
  obtain⟨h1,h2,h3⟩:=lN.1 h
  rcases List.mem_cons.1 hx with e1|hx1
  ·rcases List.mem_cons.1 hz with e2|hz1
   ·exact .inl (e2.trans e1.symm)
   ·rw[e1];exact .inr (.inr (h2 z hz1))
  ·rcases List.mem_cons.1 hz with e2|hz1
   ·rw[e2];exact .inr (.inl (h2 x hx1))
   ·exact iB.sep h3 x hx1 z hz1
theorem iB.below{a:List ah}(h:iB a){x:ah}(hx:x∈a):¬ In a (x.Low - 1):=by
 rintro⟨z,hz,h1,h2⟩
 have k1:=h.1 x hx
 have k2:=h.1 z hz
 unfold Ok at k1 k2
 rcases h.sep x hx z hz with e|e|e
 ·subst e;omega
 ·omega
 ·omega
theorem iB.take{a:List ah}(h:iB a)(k:Nat):iB (a.take k):=⟨fun x hx=>h.1 x (List.mem_of_mem_take hx),h.2.sublist (List.take_sublist _ _)⟩
theorem iB.drop{a:List ah}(h:iB a)(k:Nat):iB (a.drop k):=⟨fun x hx=>h.1 x (List.mem_of_mem_drop hx),h.2.sublist (List.drop_sublist _ _)⟩
def hasB(a:List ah)(r:Int):Bool:=a.any fun x=>decide (x.Low≤r)&&decide (r≤x.High)
theorem ml{a:List ah}{r:Int}:hasB a r=true↔In a r:=by
 simp[hasB,In]
theorem am8{a:List ah}{r:Int}{p:Prop}[Decidable p](h:In a r↔p):hasB a r=decide p:=by
 rw[Bool.eq_iff_iff,ml,h];simp
theorem ash{i j:Nat}(h:i+j < 9223372036854775807):shR .u64 (IntKind.u64.wrap (IntKind.i64.wrap ((i:Int)+j))) 1=(((i+j)/2:Nat):Int):=by
 rw[w64 (by omega) (by omega)]
 have:IntKind.u64.wrap ((i:Int)+j)=(i:Int)+j:=by simp[IntKind.wrap,IntKind.bits,IntKind.signed];omega
 rw[this]
 unfold shR
 rw[show(2:Int)^(min (1:Int).toNat IntKind.u64.bits)=2 from rfl,Int.fdiv_eq_ediv_of_nonneg _ (by omega)]
 omega
def avY(x:ah)(r:Int):Int:=if x.High < r then -1 else if x.Low > r then 1 else 0
theorem afc(x:ah)(r:Int):gm x r=some (avY x r):=by
 unfold gm avY
 by_cases h1:x.High < r
 ·simp[h1]
 ·by_cases h2:x.Low > r
  ·simp[h1,h2]
  ·simp[h1,h2]
theorem auR{a:List ah}(hn:iB a)(r:Int):lG a r=some (hasB a r):=by
 have hl:=hn.len
 have hp:=List.pairwise_iff_getElem.1 hn.2
 have ho:=hn.1
 obtain⟨q,h1,h2⟩:=lO (body:=ao.b1 a r gm) (Q:=fun q=>q.2=hasB a r)
  (fun p=>∃i j:Nat,p.1=i∧p.2=j∧i≤j∧j≤a.length∧(∀k,k < i→∀x,a[k]? =some x→x.High < r)∧(∀k,j≤k→∀x,a[k]? =some x→r≤x.High)) (fun p=>(p.2 - p.1).toNat) (fun p hp'=>by
  obtain⟨i0,j0⟩:=p
  obtain⟨i,j,e1,e2,hij,hj,hlo,hhi⟩:=hp'
  simp only at e1 e2
  subst e1;subst e2
  simp only[ao.b1]
  by_cases h:i < j
  ·left
   have hm:(i+j)/2 < a.length:=by omega
   have hx:a[(i+j)/2]? =some a[(i+j)/2]:=gE hm
   rw[if_pos (by simpa using h),ash (by omega),oB,w64 (by omega) (by omega),bz,hx,oB,afc,oB]
   by_cases hc:a[(i+j)/2].High < r
   ·refine⟨((((i+j)/2+1:Nat):Int),(j:Int)),?_,⟨(i+j)/2+1,j,rfl,rfl,by omega,hj,fun k hk x hx'=>?_,hhi⟩,by simp only;omega⟩
    ·rw[if_pos (by simp[avY,hc]),eN (by omega)];rfl
    ·by_cases e:k=(i+j)/2
     ·subst e;rw[hx]at hx';cases hx';exact hc
     ·have hkl:k < a.length:=(List.getElem?_eq_some_iff.1 hx').1
      have hkx:a[k]=x:=(List.getElem?_eq_some_iff.1 hx').2
      have:=hp k ((i+j)/2) hkl hm (by omega)
      have o1:=ho _ (gM hm)
      unfold Ok at o1
      rw[hkx]at this
      omega
   ·refine⟨((i:Int),(((i+j)/2:Nat):Int)),?_,⟨i,(i+j)/2,rfl,rfl,by omega,by omega,hlo,fun k hk x hx'=>?_⟩,by simp only;omega⟩
    ·rw[if_neg (by simp only[avY,hc,if_false];split <;> simp)];rfl
    ·by_cases e:k=(i+j)/2
     ·subst e;rw[hx]at hx';cases hx';omega
     ·have hkl:k < a.length:=(List.getElem?_eq_some_iff.1 hx').1
      have hkx:a[k]=x:=(List.getElem?_eq_some_iff.1 hx').2
      have:=hp ((i+j)/2) k hm hkl (by omega)
      have o1:=ho _ (gM hkl)
      unfold Ok at o1
      rw[hkx]at this o1
      omega
  ·right
   obtain rfl:i=j:=by omega
   rw[if_neg (by simp)]
   unfold ao.k1
   by_cases hi:i < a.length
   ·have hx:a[i]? =some a[i]:=gE hi
    rw[if_pos (by simpa using hi),bz,hx,oB,afc,oB,oB]
    refine⟨_,rfl,?_⟩
    simp only
    have o1:=ho _ (gM hi)
    have hh:=hhi i (nR _) _ hx
    unfold Ok at o1
    have hin:In a r↔a[i].Low≤r:=by
     constructor
     ·rintro⟨x,hx',k1,k2⟩
      obtain⟨k,hk,rfl⟩:=List.getElem_of_mem hx'
      by_cases e:k < i
      ·have:=hlo k e _ (gE hk);omega
      ·by_cases e2:k=i
       ·subst e2;exact k1
       ·have:=hp i k hi hk (by omega);omega
     ·exact fun hlow=>⟨_,gM hi,hlow,hh⟩
    rw[am8 hin,Bool.eq_iff_iff]
    simp only[avY,beq_iff_eq,decide_eq_true_eq]
    rw[if_neg (by omega)]
    split <;> simp <;> omega
   ·rw[if_neg (by simpa using hi),oB]
    refine⟨_,rfl,?_⟩
    simp only
    have hin:¬ In a r:=by
     rintro⟨x,hx',k1,k2⟩
     obtain⟨k,hk,rfl⟩:=List.getElem_of_mem hx'
     have:=hlo k (by omega) _ (gE hk);omega
    symm
    rw[← Bool.not_eq_true,ml]
    exact hin) ((0:Int),(a.length:Int)) ⟨0,a.length,rfl,rfl,Nat.zero_le _,nR _,fun k hk=>absurd hk (by omega),fun k hk x hx=>by
   have:=(List.getElem?_eq_some_iff.1 hx).1;omega⟩
 unfold lG ao
 rw[h1,oB,h2]
theorem ti{a:List ah}(hl:a.length < 9223372036854775807)(r:Int):bY a r=some (hasB a r):=by
 have:=nA (b:=bY.b1 a r) (fun j=>∀x,a[j]? =some x→¬ (x.Low≤r∧r≤x.High)) a.length (r:=true) (R:=false) (fun j hj hp=>?_) (fun j hj hp=>?_) ?_
 ·unfold bY
  by_cases h:∀j,j < a.length→∀x,a[j]? =some x→¬ (x.Low≤r∧r≤x.High)
  ·rw[this.1 h]
   congr 1
   symm
   rw[← Bool.not_eq_true,ml]
   rintro⟨x,hx,h1⟩
   obtain⟨k,hk,rfl⟩:=List.getElem_of_mem hx
   exact h k hk _ (gE hk) h1
  ·rw[this.2 h]
   congr 1
   symm
   rw[ml]
   simp only[Classical.not_forall,Classical.not_not]at h
   obtain⟨j,hj,x,hx,h1⟩:=h
   exact⟨x,List.mem_of_getElem? hx,h1⟩
 ·have hx:a[j]? =some a[j]:=gE hj
  have h1:=hp _ hx
  rw[bY.b1,if_pos (by simpa using hj),bz,hx,oB]
  by_cases h2:r≥a[j].Low
  ·rw[if_pos (by simpa using h2),oB,if_neg (by simp;omega),eN (by omega)]
  ·rw[if_neg (by simpa using h2),oB,if_neg (by simp),eN (by omega)]
 ·have hx:a[j]? =some a[j]:=gE hj
  have h1:a[j].Low≤r∧r≤a[j].High:=Classical.not_not.1 fun hn=>hp fun x hx'=>by rw[hx]at hx';cases hx';exact hn
  rw[bY.b1,if_pos (by simpa using hj),bz,hx,oB,if_pos (by simpa using h1.1),oB,if_pos (by simpa using h1.2)]
 ·rw[bY.b1,if_neg (by simp)];rfl
def many(x:ah):Int:=x.High - x.Low+1
theorem uV{α:Type}{l:List α}{s:Nat}{x:α}(h:l[s]? =some x):l.take (s+1)=l.take s++[x]:=by
 rw[List.take_add_one,h];rfl
theorem mm{l:List Int}{n:Int}(hp:l.Pairwise (· < ·))(hl:(l.length+1)*8≤140737488355328):
  ∃l',bS l n=some l'∧l'.Pairwise (· < ·)∧(∀x,x∈l'↔x∈l∨x=n)∧l'.length≤l.length+1:=by
 refine lO (body:=bS.b1 l n) (fun v:Int=>∃k:Nat,v=(k:Int)∧k≤l.length∧∀j,j < k→∀x,l[j]? =some x→x < n) (fun v=>l.length - v.toNat) (fun s hs=>?_) _ ⟨0,rfl,Nat.zero_le _,fun j hj=>absurd hj (by omega)⟩
 obtain⟨k,rfl,hk,hlo⟩:=hs
 simp only[bS.b1]
 have hpw:=List.pairwise_iff_getElem.1 hp
 by_cases hc:∃x,l[k]? =some x∧x < n
 ·left
  obtain⟨x,hx,hxn⟩:=hc
  have hkl:k < l.length:=(List.getElem?_eq_some_iff.1 hx).1
  refine⟨((k+1:Nat):Int),?_,⟨k+1,rfl,hkl,fun j hj y hy=>?_⟩,by omega⟩
  ·rw[if_pos (by simpa using hkl),bz,hx,oB,oB,if_pos (by simpa using hxn),eN (by omega)]
  ·by_cases e:j=k
   ·subst e;rw[hx]at hy;cases hy;exact hxn
   ·exact hlo j (by omega) y hy
 ·right
  have hge:∀x,l[k]? =some x→n≤x:=fun x hx=>by
   rcases Int.lt_or_le x n with h|h
   ·exact absurd ⟨x,hx,h⟩ hc
   ·exact h
  have hv:((if (decide (((k:Nat):Int) < (l.length:Int)))then
    (idx l ((k:Nat):Int)).bind fun n2=>
    some (decide (n2 < n))
   else
    some false))=some false:=by
   by_cases hkl:k < l.length
   ·have hx:l[k]? =some l[k]:=gE hkl
    rw[if_pos (by simpa using hkl),bz,hx,oB]
    have:=hge _ hx
    rw[decide_eq_false (by omega)]
   ·rw[if_neg (by simpa using hkl)]
  rw[hv,oB,if_neg (by simp)]
  unfold bS.k1
  by_cases he:l[k]? =some n
  ·have hkl:k < l.length:=(List.getElem?_eq_some_iff.1 he).1
   refine⟨l,?_,hp,fun x=>⟨.inl,fun h=>h.elim id fun e=>by subst e;exact List.mem_of_getElem? he⟩,by omega⟩
   rw[if_pos (by simpa using hkl),bz,he,oB,oB,if_pos (by simp)];rfl
  ·have hv2:((if (decide (((k:Nat):Int) < (l.length:Int)))then
     (idx l ((k:Nat):Int)).bind fun n1=>
     some (n1==n)
    else
     some false))=some false:=by
    by_cases hkl:k < l.length
    ·have hx:l[k]? =some l[k]:=gE hkl
     rw[if_pos (by simpa using hkl),bz,hx,oB]
     rw[hx]at he
     congr 1
     rw[beq_eq_false_iff_ne]
     exact fun e=>he (by rw[e])
    ·rw[if_neg (by simpa using hkl)]
   have hgt:∀j,k≤j→∀x,l[j]? =some x→n < x:=fun j hj x hx=>by
    have hjl:j < l.length:=(List.getElem?_eq_some_iff.1 hx).1
    have hxe:l[j]=x:=(List.getElem?_eq_some_iff.1 hx).2
    have hkl:k < l.length:=by omega
    have h1:=hge _ (gE hkl)
    have h2:l[k]≠n:=fun e=>he (by rw[gE hkl,e])
    by_cases e:j=k
    ·subst e;rw[hxe]at h1 h2;omega
    ·have:=hpw k j hkl hjl (by omega)
     rw[hxe]at this;omega
   have hch:cutH l (k:Int)=some (l.take k):=by unfold cutH;rw[if_pos ⟨by omega,by omega⟩];simp
   have hcl:cutL l (k:Int)=some (l.drop k):=by unfold cutL;rw[if_pos ⟨by omega,by omega⟩];simp
   have ht:(l.take k).length=k:=by simp;omega
   have hd:(l.drop k).length=l.length - k:=by simp
   refine⟨l.take k++[n]++l.drop k,?_,?_,fun x=>?_,by simp;omega⟩
   ·rw[hv2,oB,if_neg (by simp),hch,oB,show(Int.toNat (k:Int))=k by simp,cK (by omega),oB,cK (by omega),oB,hcl,oB,cK (by omega),oB];rfl
   ·rw[List.pairwise_append,List.pairwise_append]
    refine⟨⟨hp.sublist (List.take_sublist _ _),List.pairwise_singleton _ _,fun x hx y hy=>?_⟩,hp.sublist (List.drop_sublist _ _),fun x hx y hy=>?_⟩
    ·simp at hy;subst hy
     obtain⟨j,hj,rfl⟩:=List.getElem_of_mem hx
     rw[List.getElem_take]
     exact hlo j (by omega) _ (gE _)
    ·obtain⟨j,hj,rfl⟩:=List.getElem_of_mem hy
     rw[List.getElem_drop]
     have hyn:=hgt (k+j) (by omega) _ (gE (by omega))
     rcases List.mem_append.1 hx with hx|hx
     ·obtain⟨i,hi,rfl⟩:=List.getElem_of_mem hx
      rw[List.getElem_take]
      have:=hlo i (by omega) _ (gE (by omega))
      omega
     ·simp at hx;subst hx;exact hyn
   ·have hm:x∈l↔x∈l.take k∨x∈l.drop k:=by
     conv=>lhs;rw[← List.take_append_drop k l]
     exact List.mem_append
    simp only[List.mem_append,List.mem_singleton,hm]
    constructor
    ·rintro((h|h)|h)
     ·exact .inl (.inl h)
     ·exact .inr h
     ·exact .inl (.inr h)
    ·rintro((h|h)|h)
     ·exact .inl (.inl h)
     ·exact .inr h
     ·exact .inl (.inr h)
def Edge(m:List ah)(e:Int):Prop:=e=0∨∃x∈m,e=x.Low∨(x.High < 1114111∧e=x.High+1)
theorem lx{m:List ah}{x:ah}{e:Int}:Edge (m++[x]) e↔(Edge m e∨e=x.Low)∨(x.High < 1114111∧e=x.High+1):=by
 unfold Edge
 constructor
 ·rintro(h|⟨y,hy,h⟩)
  ·exact .inl (.inl (.inl h))
  ·rcases List.mem_append.1 hy with hy|hy
   ·exact .inl (.inl (.inr ⟨y,hy,h⟩))
   ·simp at hy;subst hy
    rcases h with h|h
    ·exact .inl (.inr h)
    ·exact .inr h
 ·rintro(((h|⟨y,hy,h⟩)|h)|h)
  ·exact .inl h
  ·exact .inr ⟨y,by simp[hy],h⟩
  ·exact .inr ⟨x,by simp,.inl h⟩
  ·exact .inr ⟨x,by simp,.inr h⟩
theorem afH{a b:List ah}(ha:∀x∈a,Ok x)(hb:∀x∈b,Ok x)(hl:a.length+b.length≤4000000):
  ∃E,bG a b=some E∧E.Pairwise (· < ·)∧(∀e,e∈E↔Edge (a++b) e)∧E.length≤2*(a.length+b.length)+1:=by
 have hlen:(a++b).length=a.length+b.length:=by simp
 have hok:∀x∈a++b,Ok x:=fun x hx=>(List.mem_append.1 hx).elim (ha x) (hb x)
 unfold bG
 rw[cK (by omega),oB,cK (by omega),oB]
 refine lO (body:=bG.b1 a b) (fun p:List Int×Int=>∃k:Nat,p.2=(k:Int)∧k≤(a++b).length∧p.1.Pairwise (· < ·)∧(∀e,e∈p.1↔Edge ((a++b).take k) e)∧p.1.length≤2*k+1) (fun p=>(a++b).length - p.2.toNat) (fun p hp=>?_) _
  ⟨0,rfl,Nat.zero_le _,List.pairwise_singleton _ _,fun e=>by simp[Edge],by simp⟩
 obtain⟨out,v⟩:=p
 obtain⟨k,e,hk,hpw,hm,hol⟩:=hp
 simp only at e hpw hm hol
 subst e
 generalize hL:a++b=L at*
 simp only[bG.b1,hL]
 by_cases h:k < L.length
 ·left
  have hx:L[k]? =some L[k]:=gE h
  have o:=hok _ (gM h)
  unfold Ok at o
  obtain⟨r,r1,r2,r3,r4⟩:=mm (n:=L[k].Low) hpw (by omega)
  rw[if_pos (by simpa using h),bz,hx,oB,r1,oB]
  by_cases hh:L[k].High < 1114111
  ·obtain⟨q,q1,q2,q3,q4⟩:=mm (n:=L[k].High+1) r2 (by omega)
   refine⟨(q,((k+1:Nat):Int)),?_,⟨k+1,rfl,h,q2,fun e=>?_,by simp only;omega⟩,by simp only;omega⟩
   ·rw[if_pos (by simpa using hh),w64 (by omega) (by omega),q1,oB]
    unfold bG.k2
    rw[eN (by omega)]
   ·simp only
    rw[q3,r3,hm,uV hx,lx]
    constructor
    ·rintro(h|h)
     ·exact .inl h
     ·exact .inr ⟨hh,h⟩
    ·rintro(h|h)
     ·exact .inl h
     ·exact .inr h.2
  ·refine⟨(r,((k+1:Nat):Int)),?_,⟨k+1,rfl,h,r2,fun e=>?_,by simp only;omega⟩,by simp only;omega⟩
   ·rw[if_neg (by simpa using hh)]
    unfold bG.k2
    rw[eN (by omega)]
   ·simp only
    rw[r3,hm,uV hx,lx]
    constructor
    ·exact .inl
    ·rintro(h|h)
     ·exact h
     ·exact absurd h.1 hh
 ·right
  obtain rfl:k=L.length:=by omega
  refine⟨out,?_,hpw,fun e=>?_,by omega⟩
  ·rw[if_neg (by simp)];rfl
  ·rw[hm,List.take_length]
theorem akG{out:List ah}{low high:Int}(hn:iB out)(h0:0≤low)(h1:low≤high)(h2:high≤1114111)(hl:∀y∈out,y.High < low):
  ∃out',dV out low high=some out'∧iB out'∧∀r,In out' r↔In out r∨(low≤r∧r≤high):=by
 have hlen:=hn.len
 rcases List.eq_nil_or_concat out with rfl|⟨init,y,rfl⟩
 ·refine⟨[⟨low,high⟩],?_,jw (l:=[]).2 ⟨od,⟨h0,h1,h2⟩,fun y h=>by cases h⟩,fun r=>?_⟩
  ·unfold dV
   rw[if_neg (by simp),oB,if_neg (by simp),cK (by simp),oB];rfl
  ·rw[ql];exact⟨.inr,fun h=>h.elim (fun h=>absurd h vV) id⟩
 ·rw[List.concat_eq_append]at*
  have hlen':(init++[y]).length=init.length+1:=by simp
  obtain⟨n1,n2,n3⟩:=jw.1 hn
  have hyo:=n2
  unfold Ok at hyo
  have hyl:=hl y (by simp)
  have hi:(init++[y])[init.length]? =some y:=by simp
  have hw:IntKind.i64.wrap (((init++[y]).length:Int) - 1)=(init.length:Int):=by rw[hlen'];exact aeo (by omega)
  have hcond:(if (decide (((init++[y]).length:Int) > (0:Int)))then
   (idx (init++[y]) (IntKind.i64.wrap (((init++[y]).length:Int) - (1:Int)))).bind fun x=>
   some (x.High==(IntKind.i64.wrap (low - (1:Int))))
  else
   some false)=some (y.High==low - 1):=by
   rw[if_pos (by simp),hw,bz,hi,oB,w64 (by omega) (by omega)]
  by_cases hc:y.High=low - 1
  ·refine⟨init++[⟨y.Low,high⟩],?_,jw.2 ⟨n1,⟨(show 0≤y.Low by omega),(show y.Low≤high by omega),h2⟩,n3⟩,fun r=>?_⟩
   ·unfold dV
    rw[hcond,oB,if_pos (by simpa using hc),hw,bz,hi,oB]
    simp
   ·rw[kq,kq,ql,ql]
    show In init r∨(y.Low≤r∧r≤high)↔(In init r∨(y.Low≤r∧r≤y.High))∨(low≤r∧r≤high)
    constructor
    ·rintro(h|⟨h3,h4⟩)
     ·exact .inl (.inl h)
     ·by_cases h5:r≤y.High
      ·exact .inl (.inr ⟨h3,h5⟩)
      ·exact .inr ⟨by omega,by omega⟩
    ·rintro((h|⟨h3,h4⟩)|⟨h3,h4⟩)
     ·exact .inl h
     ·exact .inr ⟨h3,by omega⟩
     ·exact .inr ⟨by omega,by omega⟩
  ·refine⟨init++[y]++[⟨low,high⟩],?_,jw.2 ⟨hn,⟨h0,h1,h2⟩,fun z hz=>?_⟩,fun r=>?_⟩
   ·unfold dV
    rw[hcond,oB,if_neg (by simpa using hc),cK (by omega),oB]
   ·show z.High+1 < low
    rcases List.mem_append.1 hz with hz|hz
    ·have:=n3 z hz;omega
    ·simp at hz;subst hz;omega
   ·rw[kq,ql]
def wY(kind:Int)(one two:Bool):Bool:=if kind=1 then one&&two else if kind=2 then one&& !two else if kind=3 then !one&& !two else one||two
def bnd(E:List Int)(k:Nat):Int:=(E[k]?).getD 1114112
theorem fW{E:List Int}{k:Nat}(h:k < E.length):bnd E k=E[k]:=by unfold bnd;rw[gE h];rfl
theorem nC{E:List Int}:bnd E E.length=1114112:=by unfold bnd;rw[gN (nR _)];rfl
theorem zQ{E:List Int}(hp:E.Pairwise (· < ·)){k:Nat}(h:k < E.length){e:Int}(he:e∈E):e≤E[k]∨bnd E (k+1)≤e:=by
 obtain⟨j,hj,rfl⟩:=List.getElem_of_mem he
 have hpw:=List.pairwise_iff_getElem.1 hp
 by_cases h1:j < k
 ·exact .inl (by have:=hpw j k hj h h1;omega)
 ·by_cases h2:j=k
  ·subst h2;exact .inl (Int.le_refl _)
  ·right
   rw[fW (by omega)]
   by_cases h3:j=k+1
   ·subst h3;exact Int.le_refl _
   ·have:=hpw (k+1) j (by omega) hj (by omega);omega
theorem ajQ{E:List Int}(hp:E.Pairwise (· < ·))(hE:∀e∈E,e≤1114111){k:Nat}(h:k < E.length):E[k] < bnd E (k+1):=by
 by_cases h1:k+1 < E.length
 ·rw[fW h1];exact List.pairwise_iff_getElem.1 hp k (k+1) h h1 (by omega)
 ·rw[show k+1=E.length by omega,nC]
  have:=hE _ (gM h);omega
theorem vz{m:List ah}(hm:∀x∈m,Ok x){e:Int}(h:Edge m e):0≤e∧e≤1114111:=by
 rcases h with rfl|⟨x,hx,h⟩
 ·omega
 ·have:=hm x hx
  unfold Ok at this
  rcases h with rfl|⟨h,rfl⟩ <;> omega
theorem wH{m L:List ah}{E:List Int}(hm:∀x∈L,Ok x)(hp:E.Pairwise (· < ·))(hE:∀e,e∈E↔Edge L e)(hs:∀x∈m,x∈L){k:Nat}(h:k < E.length){t:Int}(h1:E[k]≤t)(h2:t < bnd E (k+1))(h3:t≤1114111):
  hasB m t=hasB m E[k]:=by
 rw[Bool.eq_iff_iff,ml,ml]
 have key:∀x∈m,(x.Low≤t∧t≤x.High)↔(x.Low≤E[k]∧E[k]≤x.High):=fun x hx=>by
  have o:=hm x (hs x hx)
  unfold Ok at o
  have k1:=zQ hp h ((hE x.Low).2 (.inr ⟨x,hs x hx,.inl rfl⟩))
  by_cases hh:x.High < 1114111
  ·have k2:=zQ hp h ((hE (x.High+1)).2 (.inr ⟨x,hs x hx,.inr ⟨hh,rfl⟩⟩))
   omega
  ·omega
 constructor
 ·rintro⟨x,hx,h⟩;exact⟨x,hx,(key x hx).1 h⟩
 ·rintro⟨x,hx,h⟩;exact⟨x,hx,(key x hx).2 h⟩
theorem at0{a b:List ah}{kind:Int}{E:List Int}{out:List ah}{k:Nat}{high:Int}(h:k < E.length)(ha:a.length≤4000000)(hb:b.length≤4000000):
  aA.k3 a b kind E out (k:Int) high=aA.k4 out k high E[k] (wY kind (hasB a E[k]) (hasB b E[k])):=by
 unfold aA.k3 wY
 rw[bz,gE h,oB,ti (by omega),oB,ti (by omega),oB]
 generalize hasB a E[k]=p
 generalize hasB b E[k]=q
 by_cases h1:kind=1
 ·subst h1;cases p <;> rfl
 ·rw[if_neg (by simpa using h1),if_neg h1]
  by_cases h2:kind=2
  ·subst h2;cases p <;> rfl
  ·rw[if_neg (by simpa using h2),if_neg h2]
   by_cases h3:kind=3
   ·subst h3;cases p <;> rfl
   ·rw[if_neg (by simpa using h3),if_neg h3]
theorem aju{a b:List ah}{kind:Int}(ha:∀x∈a,Ok x)(hb:∀x∈b,Ok x)(hl:a.length+b.length≤4000000):
  ∃out,aA a b kind=some out∧iB out∧∀t,In out t↔(0≤t∧t≤1114111∧wY kind (hasB a t) (hasB b t)=true):=by
 obtain⟨E,e1,e2,e3,e4⟩:=afH ha hb hl
 have hok:∀x∈a++b,Ok x:=fun x hx=>(List.mem_append.1 hx).elim (ha x) (hb x)
 have hbd:∀e∈E,0≤e∧e≤1114111:=fun e he=>vz hok ((e3 e).1 he)
 have h0:0 < E.length:=List.length_pos_of_mem ((e3 0).2 (.inl rfl))
 have hE0:bnd E 0=0:=by
  rw[fW h0]
  have k1:=hbd _ (gM h0)
  obtain⟨j,hj,hje⟩:=List.getElem_of_mem ((e3 0).2 (.inl rfl))
  by_cases h:j=0
  ·subst h;exact hje
  ·have:=List.pairwise_iff_getElem.1 e2 0 j h0 hj (by omega);omega
 unfold aA
 rw[e1,oB]
 refine lO (body:=aA.b1 a b kind E) (fun p:List ah×Int=>∃k:Nat,p.2=(k:Int)∧k≤E.length∧iB p.1∧∀t,In p.1 t↔(0≤t∧t < bnd E k∧wY kind (hasB a t) (hasB b t)=true)) (fun p=>E.length - p.2.toNat) (fun p hp=>?_) _
  ⟨0,rfl,Nat.zero_le _,od,fun t=>⟨fun h=>absurd h vV,fun h=>by rw[hE0]at h;omega⟩⟩
 obtain⟨out,v⟩:=p
 obtain⟨k,e,hk,hn,hin⟩:=hp
 simp only at e hn hin
 subst e
 simp only[aA.b1]
 by_cases h:k < E.length
 ·left
  have hlt:=ajQ e2 (fun e he=>(hbd e he).2) h
  have hE:=hbd _ (gM h)
  have hnext:bnd E (k+1)≤1114112:=by
   by_cases h1:k+1 < E.length
   ·rw[fW h1];have:=hbd _ (gM h1);omega
   ·rw[show k+1=E.length by omega,nC];omega
  have hhigh:(if (decide ((IntKind.i64.wrap ((k:Int)+(1:Int))) < (E.length:Int)))then
    (idx E (IntKind.i64.wrap ((k:Int)+(1:Int)))).bind fun n1=>
    aA.k3 a b kind E out (k:Int) (IntKind.i64.wrap (n1 - (1:Int)))
   else
    aA.k3 a b kind E out (k:Int) (1114111:Int))=aA.k3 a b kind E out (k:Int) (bnd E (k+1) - 1):=by
   rw[eN (by omega)]
   by_cases h1:k+1 < E.length
   ·have:=hbd _ (gM h1)
    rw[if_pos (by simp;omega),bz,gE h1,oB,fW h1,w64 (by omega) (by omega)]
   ·rw[if_neg (by simp;omega),show k+1=E.length by omega,nC];rfl
  rw[if_pos (by simpa using h),hhigh,at0 h (by omega) (by omega)]
  unfold aA.k4 aA.k2
  have hconst:∀t,E[k]≤t→t < bnd E (k+1)→wY kind (hasB a t) (hasB b t)=wY kind (hasB a E[k]) (hasB b E[k]):=fun t h1 h2=>by
   rw[wH hok e2 e3 (fun x hx=>by simp[hx]) h h1 h2 (by omega),wH hok e2 e3 (fun x hx=>by simp[hx]) h h1 h2 (by omega)]
  rw[fW h]at hin
  cases hc:wY kind (hasB a E[k]) (hasB b E[k])with
  |true=>
   obtain⟨out',q1,q2,q3⟩:=akG (low:=E[k]) (high:=bnd E (k+1) - 1) hn hE.1 (by omega) (by omega) (fun y hy=>((hin y.High).1 (atG hn hy)).2.1)
   refine⟨(out',((k+1:Nat):Int)),?_,⟨k+1,rfl,h,q2,fun t=>?_⟩,by simp only;omega⟩
   ·rw[if_pos rfl,q1,oB,eN (by omega)]
   ·simp only
    rw[q3,hin]
    constructor
    ·rintro(⟨h1,h2,h3⟩|⟨h1,h2⟩)
     ·exact⟨h1,by omega,h3⟩
     ·exact⟨by omega,by omega,by rw[hconst t h1 (by omega)];exact hc⟩
    ·rintro⟨h1,h2,h3⟩
     by_cases h4:t < E[k]
     ·exact .inl ⟨h1,h4,h3⟩
     ·exact .inr ⟨by omega,by omega⟩
  |false=>
   refine⟨(out,((k+1:Nat):Int)),?_,⟨k+1,rfl,h,hn,fun t=>?_⟩,by simp only;omega⟩
   ·rw[if_neg (by simp),eN (by omega)]
   ·simp only
    rw[hin]
    constructor
    ·rintro⟨h1,h2,h3⟩
     exact⟨h1,by omega,h3⟩
    ·rintro⟨h1,h2,h3⟩
     by_cases h4:t < E[k]
     ·exact⟨h1,h4,h3⟩
     ·rw[hconst t (by omega) h2,hc]at h3;cases h3
 ·right
  obtain rfl:k=E.length:=by omega
  refine⟨out,?_,hn,fun t=>?_⟩
  ·rw[if_neg (by simp)];rfl
  ·rw[hin,nC]
   constructor
   ·rintro⟨h1,h2,h3⟩;exact⟨h1,by omega,h3⟩
   ·rintro⟨h1,h2,h3⟩;exact⟨h1,by omega,h3⟩
theorem tA{l:List ah}{k:Nat}(h:k < l.length)(hb:¬ Ok l[k]):bH.b1 l (k:Int)=some (.done ([],1)):=by
 rw[bH.b1,if_pos (by simpa using h),bz,gE h,oB]
 unfold Ok at hb
 by_cases h1:l[k].Low < 0
 ·rw[if_pos (by simpa using h1),oB];rfl
 ·by_cases h2:l[k].High > 1114111
  ·rw[if_neg (by simpa using h1),if_pos (by simpa using h2),oB];rfl
  ·rw[if_neg (by simpa using h1),if_neg (by simpa using h2),oB,if_pos (by simp;omega)]
theorem oz{l:List ah}{k:Nat}(h:k < l.length)(hl:l.length≤4000000)(hb:Ok l[k]):bH.b1 l (k:Int)=some (.next ((k+1:Nat):Int)):=by
 rw[bH.b1,if_pos (by simpa using h),bz,gE h,oB]
 unfold Ok at hb
 rw[if_neg (by simp;omega),if_neg (by simp;omega),oB,if_neg (by simp;omega),eN (by omega)]
theorem af0{l:List ah}(hok:∀x∈l,Ok x)(hl:l.length≤4000000):∃out,bH l=some (out,0)∧iB out∧∀t,In out t↔In l t:=by
 obtain⟨out,h1,h2,h3⟩:=aju (a:=l) (b:=[]) (kind:=0) hok (fun x h=>by cases h) (by simpa using hl)
 refine⟨out,?_,h2,fun t=>?_⟩
 ·unfold bH
  have:=mM (b:=bH.b1 l) (i:=0) (n:=l.length) (Nat.zero_le _) (fun j _ hj=>oz hj hl (hok _ (gM hj)))
  rw[show((0:Nat):Int)=0 from rfl]at this
  rw[this]
  apply bK
  rw[bH.b1,if_neg (by simp)]
  unfold bH.k1
  rw[h1];rfl
 ·rw[h3]
  have e:wY 0 (hasB l t) (hasB [] t)=hasB l t:=by simp[wY,hasB]
  rw[e,ml]
  constructor
  ·exact fun h=>h.2.2
  ·intro h
   obtain⟨x,hx,k1,k2⟩:=h
   have:=hok x hx
   unfold Ok at this
   exact⟨by omega,by omega,x,hx,k1,k2⟩
theorem adK{l:List ah}(hbad:¬ ∀x∈l,Ok x)(hl:l.length≤4000000):bH l=some ([],1):=by
 unfold bH
 refine amk (R:=some ([],1)) (fun v:Int=>∃k:Nat,v=(k:Int)∧k≤l.length∧∀j (hj:j < l.length),j < k→Ok l[j]) (fun v=>l.length - v.toNat) (fun v hv=>?_) _ ⟨0,rfl,Nat.zero_le _,fun j _ hj=>absurd hj (by omega)⟩
 obtain⟨k,rfl,hk,hall⟩:=hv
 by_cases h:k < l.length
 ·by_cases ho:Ok l[k]
  ·left
   refine⟨_,oz h hl ho,⟨k+1,rfl,h,fun j hj hjk=>?_⟩,by omega⟩
   by_cases e:j=k
   ·subst e;exact ho
   ·exact hall j hj (by omega)
  ·right
   exact⟨_,rfl,tA h ho⟩
 ·exact absurd (fun x hx=>by
   obtain⟨j,hj,rfl⟩:=List.getElem_of_mem hx
   exact hall j hj (by omega)) hbad
def kG(S:List (List ah))(r:Int):Nat→Nat
 |0=>0
 |k+1=>kG S r k+if hasB (S.getD k []) r then 2^k else 0
theorem xx(S:List (List ah))(r:Int):∀k,kG S r k < 2^k
 |0=>by simp[kG]
 |k+1=>by
  have:=xx S r k
  simp only[kG,Nat.pow_succ]
  split <;> omega
theorem apT{m k:Nat}(h:m < 2^k)(hk:k < 64):bOr .u64 (m:Int) (shL .u64 (1:Int) (k:Int))=((m+2^k:Nat):Int):=by
 have hp:2^k≤2^63:=Nat.pow_le_pow_right (by omega) (by omega)
 have hw:∀n:Nat,n < 18446744073709551616→IntKind.u64.wrap (n:Int)=(n:Int):=fun n hn=>by simp[IntKind.wrap,IntKind.signed,IntKind.bits];omega
 have hmin:min k 64=k:=by omega
 have hs:shL .u64 (1:Int) (k:Int)=((2^k:Nat):Int):=by
  unfold shL
  simp only[Int.toNat_natCast,IntKind.bits,hmin,Int.one_mul]
  rw[show(2:Int)^k=((2^k:Nat):Int) by simp,hw _ (by omega)]
 rw[hs]
 show IntKind.u64.wrap (((BitVec.ofInt 64 ((m:Nat):Int) ||| BitVec.ofInt 64 ((2^k:Nat):Int)).toNat:Nat):Int)=_
 rw[BitVec.ofInt_natCast,BitVec.ofInt_natCast,BitVec.toNat_or,BitVec.toNat_ofNat,BitVec.toNat_ofNat,Nat.mod_eq_of_lt (by omega),Nat.mod_eq_of_lt (by omega)]
 have h2:=Nat.two_pow_add_eq_or_of_lt h 1
 rw[Nat.mul_one]at h2
 rw[Nat.or_comm,← h2,hw _ (by omega),Nat.add_comm]
theorem apQ{n:Int}(h:0≤n):nat n=some n:=by unfold nat;rw[if_pos h]
theorem yd{S:List (List ah)}{r:Int}(hn:∀s∈S,iB s)(hl:S.length≤60):∀(d k:Nat),k+d=S.length→Loop (cr.b1 S r) (((kG S r k:Nat):Int),(k:Int))=some ((kG S r S.length:Nat):Int)
 |0,k,h=>by
  obtain rfl:k=S.length:=by omega
  refine cP ?_
  simp only[cr.b1]
  rw[if_neg (by simp)];rfl
 |d+1,k,h=>by
  have hk:k < S.length:=by omega
  have ih:=yd (r:=r) hn hl d (k+1) (by omega)
  rw[← ih]
  refine bM ?_
  simp only[cr.b1]
  rw[if_pos (by simpa using hk),bz,gE hk,oB,auR (hn _ (gM hk)),oB]
  have hg:S.getD k []=S[k]:=by simp[gD,gE hk]
  have hm:kG S r (k+1)=kG S r k+if hasB S[k] r then 2^k else 0:=by simp only[kG,hg]
  rw[hm]
  cases hb:hasB S[k] r with
  |true=>
   simp only[if_true]
   rw[apQ (by omega),oB,apT (xx S r k) (by omega)]
   unfold cr.k2
   rw[eN (by omega)]
  |false=>
   simp only[Bool.false_eq_true,if_false,Nat.add_zero]
   unfold cr.k2
   rw[eN (by omega)]
theorem aqV{S:List (List ah)}(hn:∀s∈S,iB s)(hl:S.length≤60)(r:Int):cr S r=some ((kG S r S.length:Nat):Int):=yd hn hl S.length 0 (by omega)
theorem ru{S:List (List ah)}{r:Int}(hn:∀s∈S,s.length < 9223372036854775807)(hl:S.length≤60):∀(d k:Nat),k+d=S.length→Loop (bC.b1 S r) (((kG S r k:Nat):Int),(k:Int))=some ((kG S r S.length:Nat):Int)
 |0,k,h=>by
  obtain rfl:k=S.length:=by omega
  refine cP ?_
  simp only[bC.b1]
  rw[if_neg (by simp)];rfl
 |d+1,k,h=>by
  have hk:k < S.length:=by omega
  have ih:=ru (r:=r) hn hl d (k+1) (by omega)
  rw[← ih]
  refine bM ?_
  simp only[bC.b1]
  rw[if_pos (by simpa using hk),bz,gE hk,oB,ti (hn _ (gM hk)),oB]
  have hg:S.getD k []=S[k]:=by simp[gD,gE hk]
  have hm:kG S r (k+1)=kG S r k+if hasB S[k] r then 2^k else 0:=by simp only[kG,hg]
  have hw:IntKind.u64.wrap (k:Int)=(k:Int):=by simp[IntKind.wrap,IntKind.signed,IntKind.bits];omega
  rw[hm,hw]
  cases hb:hasB S[k] r with
  |true=>
   simp only[if_true]
   rw[apQ (by omega),oB,apT (xx S r k) (by omega)]
   unfold bC.k2
   rw[eN (by omega)]
  |false=>
   simp only[Bool.false_eq_true,if_false,Nat.add_zero]
   unfold bC.k2
   rw[eN (by omega)]
theorem vj{S:List (List ah)}(hn:∀s∈S,s.length < 9223372036854775807)(hl:S.length≤60)(r:Int):bC S r=some ((kG S r S.length:Nat):Int):=ru hn hl S.length 0 (by omega)
def uB(l:List bZ)(r:Int):UInt8:=l.foldl (fun v x=>if x.Low≤r∧r≤x.High then x.Value else v) 0
theorem lR(l:List bZ)(x:bZ)(r:Int):uB (l++[x]) r=if x.Low≤r∧r≤x.High then x.Value else uB l r:=by
 unfold uB;rw[List.foldl_append];rfl
def cR(l:List bZ)(k:Nat):Vector UInt8 256:=Vector.ofFn fun j=>uB l (((k*256+j.1:Nat)):Int)
theorem ky(l:List bZ)(k j:Nat)(h:j < 256):(cR l k).toList[j]? =some (uB l ((k*256+j:Nat):Int)):=by
 unfold cR
 rw[gE (by simpa using h)]
 simp
variable{l:List bZ}{x:bZ}
def partOf(l:List bZ)(x:bZ)(k:Nat)(r:Int):Vector UInt8 256:=Vector.ofFn fun j=>if x.Low≤((k*256+j.1:Nat):Int)∧((k*256+j.1:Nat):Int)≤x.High∧((k*256+j.1:Nat):Int) < r then x.Value else uB l ((k*256+j.1:Nat):Int)
theorem sF(k:Nat)(r:Int)(j:Nat)(h:j < 256):(partOf l x k r)[j]=if x.Low≤((k*256+j:Nat):Int)∧((k*256+j:Nat):Int)≤x.High∧((k*256+j:Nat):Int) < r then x.Value else uB l ((k*256+j:Nat):Int):=by
 unfold partOf;simp
theorem agz(k:Nat)(r:Int)(h:r≤max x.Low ((k*256:Nat):Int)):partOf l x k r=cR l k:=by
 apply Vector.ext
 intro j hj
 rw[sF k r j hj]
 unfold cR
 rw[if_neg (by omega)];simp
theorem ang(k:Nat)(r:Int)(h:min x.High ((k*256+255:Nat):Int) < r):partOf l x k r=cR (l++[x]) k:=by
 apply Vector.ext
 intro j hj
 rw[sF k r j hj]
 unfold cR
 simp only[Vector.getElem_ofFn,lR]
 by_cases hc:x.Low≤((k*256+j:Nat):Int)∧((k*256+j:Nat):Int)≤x.High
 ·rw[if_pos hc,if_pos ⟨hc.1,hc.2,by omega⟩]
 ·rw[if_neg hc,if_neg (fun h=>hc ⟨h.1,h.2.1⟩)]
theorem aor(k:Nat)(r:Int)(h0:((k*256:Nat):Int)≤r)(h1:r≤((k*256+255:Nat):Int))(h2:x.Low≤r)(h3:r≤x.High):xz (partOf l x k r) (r - ((k*256:Nat):Int)) x.Value=partOf l x k (r+1):=by
 apply Vector.ext
 intro j hj
 unfold xz
 rw[Vector.getElem_setIfInBounds hj,sF k (r+1) j hj,sF k r j hj]
 by_cases hr:(r - ((k*256:Nat):Int)).toNat=j
 ·rw[if_pos hr,if_pos (by omega)]
 ·rw[if_neg hr]
  have:(((k*256+j:Nat):Int) < r+1)↔(((k*256+j:Nat):Int) < r):=by omega
  simp only[this]
variable{l:List bZ}{x:bZ}
theorem apY(a b:Int):mn a b=min a b:=by unfold mn;omega
theorem atg{k i:Nat}(hk:k < 4352)(hx:0≤x.Low∧x.Low≤x.High∧x.High≤1114111)(hi:i < 4000000):∀(d:Nat) (r:Int),max x.Low ((k*256:Nat):Int)≤r→(min x.High ((k*256+255:Nat):Int)+1 - r).toNat=d→
  Loop (aY.b3 (k:Int) (i:Int) x) (r,partOf l x k r)=some (.next (((i+1:Nat):Int),cR (l++[x]) k)):=by
 have hlow:IntKind.i64.wrap ((k:Int)*256)=((k*256:Nat):Int):=by rw[w64 (by omega) (by omega)];omega
 have htop:IntKind.i64.wrap (IntKind.i64.wrap (((k*256:Nat):Int)+256) - 1)=((k*256+255:Nat):Int):=by rw[w64 (n:=((k*256:Nat):Int)+256) (by omega) (by omega),w64 (by omega) (by omega)];omega
 have stop:∀r:Int,min x.High ((k*256+255:Nat):Int) < r→Loop (aY.b3 (k:Int) (i:Int) x) (r,partOf l x k r)=some (.next (((i+1:Nat):Int),cR (l++[x]) k)):=fun r hr=>by
  refine bK ?_
  simp only[aY.b3]
  rw[hlow,htop,apY,if_neg (by simp;omega),ang k r hr]
  unfold aY.k4
  rw[eN (by omega)]
 intro d
 induction d with
 |zero=>exact fun r hr hd=>stop r (by omega)
 |succ d ih=>
  intro r hr hd
  rw[← ih (r+1) (by omega) (by omega)]
  refine bM ?_
  simp only[aY.b3]
  have b1:r≤x.High∧r≤((k*256+255:Nat):Int):=by omega
  have b2:x.Low≤r∧((k*256:Nat):Int)≤r:=by omega
  have hs:=aor (l:=l) (x:=x) k r b2.2 b1.2 b2.1 b1.1
  rw[hlow,htop,apY,if_pos (decide_eq_true (by omega)),w64 (n:=r - ((k*256:Nat):Int)) (by omega) (by omega),w64 (n:=r+1) (by omega) (by omega)]
  obtain⟨j,hj⟩:∃j:Nat,r - ((k*256:Nat):Int)=(j:Int):=⟨(r - ((k*256:Nat):Int)).toNat,by omega⟩
  have hj2:j < (partOf l x k r).toList.length:=by rw[Vector.length_toList];omega
  rw[hs,hj,bz,gE hj2];rfl
theorem fx{α:Type}{l:List α}{s:Nat}(h:s < l.length):l.take (s+1)=l.take s++[l[s]]:=by rw[List.take_add_one,gE h];rfl
theorem acV(k:Nat):cR [] k=Vector.replicate 256 0:=by
 apply Vector.ext
 intro j hj
 simp[cR,uB]
def OkP(x:bZ):Prop:=0≤x.Low∧x.Low≤x.High∧x.High≤1114111
theorem alu{l:List bZ}{k:Nat}(hk:k < 4352)(ho:∀x∈l,OkP x)(hl:l.length≤4096){like:Vector UInt8 4352}{first:List (Vector UInt8 256)}{m:List (Vector UInt8 256×Int)}:∀(d i:Nat),i+d=l.length→
  Loop (aY.b2 l (k:Int) like first m) ((i:Int),cR (l.take i) k)=aY.k3 (k:Int) like first m (cR l k)
 |0,i,h=>by
  obtain rfl:i=l.length:=by omega
  refine bK ?_
  simp only[aY.b2]
  rw[if_neg (by simp),List.take_length]
 |d+1,i,h=>by
  have hi:i < l.length:=by omega
  rw[← alu hk ho hl d (i+1) (by omega)]
  refine bM ?_
  simp only[aY.b2]
  have hlow:IntKind.i64.wrap ((k:Int)*256)=((k*256:Nat):Int):=by rw[w64 (by omega) (by omega)];omega
  rw[if_pos (by simpa using hi),bz,gE hi,oB,hlow]
  have hm:mx l[i].Low ((k*256:Nat):Int)=max l[i].Low ((k*256:Nat):Int):=by unfold mx;omega
  rw[hm,← agz (l:=l.take i) (x:=l[i]) k (max l[i].Low ((k*256:Nat):Int)) (by omega),fx hi]
  exact atg hk (ho _ (gM hi)) (by omega) _ _ (by omega) rfl
variable{K:Type}[DecidableEq K]
def ke(known:List (K×Int))(l:List K):Prop:=known.length=l.length∧∀i:Nat,known[i]? =(l[i]?).map fun a=>(a,(i:Int))
theorem aar{a:K}:∀{m:List (K×Int)},(∀p∈m,p.1≠a)→oL a m=none
 | [],_=>rfl
 |(k,v)::m,h=>by
  simp only[oL]
  rw[if_neg (fun e=>h (k,v) (by simp) e.symm)]
  exact aar fun p hp=>h p (List.mem_cons_of_mem _ hp)
theorem ae9{a:K}{v:Int}:∀{m:List (K×Int)},(∀p∈m,p.1≠a)→kF a v m=m++[(a,v)]
 | [],_=>rfl
 |(k,w)::m,h=>by
  simp only[kF]
  rw[if_neg (fun e=>h (k,w) (by simp) e.symm),ae9 fun p hp=>h p (List.mem_cons_of_mem _ hp)];rfl
theorem akA{a:K}:∀{m:List (K×Int)} {i:Nat} {v:Int},m[i]? =some (a,v)→(∀j < i,∀p,m[j]? =some p→p.1≠a)→oL a m=some v
 | [],i,v,h,_=>by simp at h
 |(k,w)::m,0,v,h,_=>by
  simp at h
  obtain⟨rfl,rfl⟩:=h
  simp[oL]
 |(k,w)::m,i+1,v,h,hb=>by
  have h0:=hb 0 (by omega) (k,w) rfl
  simp only[oL]
  rw[if_neg (fun e=>h0 e.symm)]
  exact akA (by simpa using h) fun j hj p hp=>hb (j+1) (by omega) p (by simpa using hp)
variable{K:Type}[DecidableEq K]
def uG(F:List K)(a:K):List K:=if a∈F then F else F++[a]
def firsts(l:List K):List K:=l.foldl uG []
theorem dW{l:List K}{a:K}:firsts (l++[a])=uG (firsts l) a:=by
 unfold firsts;rw[List.foldl_append];rfl
theorem aoP{F:List K}{a:K}:F <+: uG F a:=by
 unfold uG;split
 ·exact List.prefix_refl F
 ·exact List.prefix_append F [a]
theorem amS{F:List K}{a b:K}:b∈uG F a↔b∈F∨b=a:=by
 unfold uG;split
 ·exact⟨Or.inl,fun h=>h.elim id fun e=>by rw[e];assumption⟩
 ·simp
theorem afC{F:List K}{a:K}(h:F.Nodup):(uG F a).Nodup:=by
 unfold uG;split
 ·exact h
 ·rename_i hn
  rw[List.nodup_append]
  exact⟨h,by simp,fun x hx y hy=>by simp at hy;rintro rfl;exact hn (hy ▸ hx)⟩
theorem eP{l:List K}{a:K}:a∈firsts l↔a∈l:=by
 induction l using mD with
 |h0=>simp[firsts]
 |h1 l x ih=>rw[dW,amS,ih];simp
theorem nD{l:List K}:(firsts l).Nodup:=by
 induction l using mD with
 |h0=>simp[firsts]
 |h1 l x ih=>rw[dW];exact afC ih
theorem qB{l m:List K}:firsts l <+: firsts (l++m):=by
 induction m using mD with
 |h0=>simp
 |h1 m x ih=>rw[← List.append_assoc,dW];exact ih.trans aoP
def pos(F:List K)(a:K):Nat:=F.idxOf a
theorem sP{F:List K}{a:K}(h:a∈F):pos F a < F.length:=List.idxOf_lt_length_iff.2 h
theorem qQ{F:List K}{a:K}(h:a∈F):F[pos F a]? =some a:=by
 unfold pos
 rw[gE (List.idxOf_lt_length_iff.2 h),List.getElem_idxOf]
theorem qi{F:List K}{a b:K}:pos (a::F) b=if a=b then 0 else pos F b+1:=by
 unfold pos
 rw[List.idxOf_cons]
 by_cases h:a=b
 ·simp[h]
 ·rw[beq_false_of_ne h,if_neg h];rfl
theorem yj{F:List K}{a:K}{j:Nat}(hj:j < pos F a):F[j]? ≠some a:=by
 intro hf
 have hb:=(List.getElem?_eq_some_iff.1 hf)
 have hn:=List.not_of_lt_findIdx (p:=fun x=>x==a) (xs:=F) hj
 simp only[beq_eq_false_iff_ne,ne_eq,Bool.not_eq_true]at hn
 exact hn hb.2
theorem pj{F G:List K}(h:F <+: G){a:K}(ha:a∈F):pos G a=pos F a:=by
 obtain⟨t,rfl⟩:=h
 unfold pos
 rw[List.idxOf_append,if_pos ha]
theorem wR{F:List K}{a:K}(h:a∉F):pos (F++[a]) a=F.length:=by
 unfold pos
 rw[List.idxOf_append,if_neg h];simp
theorem arc{F:List K}{a b:K}(ha:a∈F)(hb:b∈F)(h:pos F a=pos F b):a=b:=by
 have h1:=qQ ha
 rw[h,qQ hb]at h1
 exact(sI h1).symm
theorem sW:ke ([]:List (K×Int)) []:=⟨rfl,fun i=>by simp⟩
theorem ke.keys{m:List (K×Int)}{F:List K}(h:ke m F){p:K×Int}(hp:p∈m):p.1∈F:=by
 obtain⟨i,hi⟩:=List.mem_iff_getElem?.1 hp
 rw[h.2 i]at hi
 cases hf:F[i]? with
 |none=>rw[hf]at hi;cases hi
 |some a=>
  rw[hf]at hi;cases hi
  exact List.mem_of_getElem? hf
theorem ke.none{m:List (K×Int)}{F:List K}(h:ke m F){a:K}(ha:a∉F):oL a m= .none:=aar fun p hp e=>ha (e ▸ h.keys hp)
theorem ke.some{m:List (K×Int)}{F:List K}(h:ke m F){a:K}(ha:a∈F):oL a m= .some (pos F a:Int):=by
 refine akA (i:=pos F a) (by rw[h.2,qQ ha];rfl) fun j hj p hp e=>?_
 rw[h.2]at hp
 cases hf:F[j]? with
 |none=>rw[hf]at hp;cases hp
 |some b=>
  rw[hf]at hp
  cases hp
  exact yj hj (by rw[hf,← e])
theorem ke.new{m:List (K×Int)}{F:List K}(h:ke m F){a:K}(ha:a∉F):ke (kF a (F.length:Int) m) (F++[a]):=by
 have hk:∀p∈m,p.1≠a:=fun p hp e=>ha (by rw[← e];exact h.keys hp)
 rw[ae9 hk]
 refine⟨by simp[h.1],fun i=>?_⟩
 by_cases hi:i < F.length
 ·rw[List.getElem?_append_left (by rw[h.1];exact hi),List.getElem?_append_left hi,h.2]
 ·rw[List.getElem?_append_right (by rw[h.1];omega),List.getElem?_append_right (by omega),h.1]
  by_cases hi2:i=F.length
  ·subst hi2;simp
  ·rw[gN (by simp;omega),gN (by simp;omega)];rfl
theorem ud{n:Nat}(h:n < 256):u8 (IntKind.u8.wrap (n:Int))=UInt8.ofNat n:=by
 have:IntKind.u8.wrap (n:Int)=(n:Int):=by simp[IntKind.wrap,IntKind.signed,IntKind.bits];omega
 rw[this];rfl
theorem aud{like:Vector UInt8 4352}{F:List (Vector UInt8 256)}{m:List (Vector UInt8 256×Int)}{k:Nat}{b:Vector UInt8 256}(hk:k < 4352)(hK:ke m F)(hF:F.length≤256)(hb:b∈F):
  cZ ⟨like,F⟩ (k:Int) b m=some (true,⟨xz like (k:Int) (UInt8.ofNat (pos F b)),F⟩,m):=by
 have hlt:=sP hb
 unfold cZ
 rw[hK.some hb]
 simp only[Option.isSome_some,Bool.not_true,Bool.false_eq_true,if_false,gS]
 unfold cZ.k1
 rw[bz,gE (by simpa using hk),oB]
 have hw:=ud (n:=pos F b) (by omega)
 simp only[hw]
theorem as4{like:Vector UInt8 4352}{F:List (Vector UInt8 256)}{m:List (Vector UInt8 256×Int)}{k:Nat}{b:Vector UInt8 256}(hk:k < 4352)(hK:ke m F)(hF:F.length < 256)(hb:b∉F):
  cZ ⟨like,F⟩ (k:Int) b m=some (true,⟨xz like (k:Int) (UInt8.ofNat F.length),F++[b]⟩,kF b (F.length:Int) m):=by
 unfold cZ
 rw[hK.none hb]
 simp only[Option.isSome_none,Bool.not_false,if_true]
 rw[if_neg (by simp;omega),cK (by omega),oB]
 unfold cZ.k1
 rw[bz,gE (by simpa using hk),oB]
 have hw:=ud (n:=F.length) (by omega)
 simp only[hw]
theorem anZ{like:Vector UInt8 4352}{F:List (Vector UInt8 256)}{m:List (Vector UInt8 256×Int)}{k:Nat}{b:Vector UInt8 256}(hK:ke m F)(hF:256≤F.length)(hb:b∉F):
  cZ ⟨like,F⟩ (k:Int) b m=some (false,⟨like,F⟩,m):=by
 unfold cZ
 rw[hK.none hb]
 simp only[Option.isSome_none,Bool.not_false,if_true]
 rw[if_pos (by simp;omega)]
def fC(l:List bZ)(k:Nat):List (Vector UInt8 256):=(List.range k).map (cR l)
theorem pu{l:List bZ}{k:Nat}:fC l (k+1)=fC l k++[cR l k]:=by
 unfold fC;rw[List.range_succ,List.map_append];rfl
theorem sH{l:List bZ}{k:Nat}:∀d,firsts (fC l k) <+: firsts (fC l (k+d))
 |0=>List.prefix_refl _
 |d+1=>(sH d).trans (by rw[← Nat.add_assoc,pu];exact qB)
theorem aeH{l:List bZ}{j k:Nat}(h:j < k):cR l j∈firsts (fC l k):=by
 rw[eP];unfold fC
 exact List.mem_map.2 ⟨j,List.mem_range.2 h,rfl⟩
def pE(l:List bZ)(like:Vector UInt8 4352)(k:Nat):Prop:=∀j,j < k→like.toList[j]? =some (UInt8.ofNat (pos (firsts (fC l k)) (cR l j)))
theorem yC{l:List bZ}{like:Vector UInt8 4352}{k:Nat}(hk:k < 4352)(h:pE l like k):pE l (xz like (k:Int) (UInt8.ofNat (pos (firsts (fC l (k+1))) (cR l k)))) (k+1):=by
 intro j hj
 rw[zx]
 simp only[Int.toNat_natCast]
 by_cases e:j=k
 ·subst e;rw[List.getElem?_set_self (by simpa using hk)]
 ·rw[List.getElem?_set_ne (fun h=>e h.symm),h j (by omega),pj (sH 1) (aeH (by omega))]
theorem rf{N:Nat}(hN:N=4352){l:List bZ}(ho:∀x∈l,OkP x)(hl:l.length≤4096):∀(d k:Nat),k+d=N→∀(like:Vector UInt8 4352) (m:List (Vector UInt8 256×Int)),ke m (firsts (fC l k))→(firsts (fC l k)).length≤256→pE l like k→
  if (firsts (fC l N)).length≤256 then ∃like',pE l like' N∧Loop (aY.b1 l) ((k:Int),like,firsts (fC l k),m)=some (some ⟨like',firsts (fC l N)⟩,0)
  else Loop (aY.b1 l) ((k:Int),like,firsts (fC l k),m)=some (none,3)
 |0,k,h,like,m,hK,hF,hL=>by
  obtain rfl:k=N:=by omega
  rw[if_pos hF]
  refine⟨like,hL,bK ?_⟩
  simp only[aY.b1]
  rw[if_neg (by simp;omega)];rfl
 |d+1,k,h,like,m,hK,hF,hL=>by
  have hk:k < 4352:=by omega
  have h0:aY.b1 l ((k:Int),like,firsts (fC l k),m)=aY.k3 (k:Int) like (firsts (fC l k)) m (cR l k):=by
   simp only[aY.b1]
   rw[if_pos (by simp;omega),← acV k]
   exact alu hk ho hl l.length 0 (by omega)
  have hpre:firsts (fC l (k+1)) <+: firsts (fC l N):=by
   have:=sH (l:=l) (k:=k+1) d
   rw[show k+1+d=N by omega]at this;exact this
  by_cases hb:cR l k∈firsts (fC l k)
  ·have e1:firsts (fC l (k+1))=firsts (fC l k):=by rw[pu,dW,uG,if_pos hb]
   have ih:=rf hN ho hl d (k+1) (by omega) (xz like (k:Int) (UInt8.ofNat (pos (firsts (fC l (k+1))) (cR l k)))) m (by rw[e1];exact hK) (by rw[e1];exact hF) (yC hk hL)
   have h1:Loop (aY.b1 l) ((k:Int),like,firsts (fC l k),m)=Loop (aY.b1 l) (((k+1:Nat):Int),(xz like (k:Int) (UInt8.ofNat (pos (firsts (fC l (k+1))) (cR l k)))),firsts (fC l (k+1)),m):=by
    refine bM ?_
    rw[h0]
    unfold aY.k3
    rw[aud hk hK hF hb,oB]
    simp only[Bool.not_true,Bool.false_eq_true,if_false]
    unfold aY.k2
    rw[eN (by omega),e1]
   rw[h1];exact ih
  ·have e1:firsts (fC l (k+1))=firsts (fC l k)++[cR l k]:=by rw[pu,dW,uG,if_neg hb]
   by_cases hf:(firsts (fC l k)).length < 256
   ·have e2:pos (firsts (fC l (k+1))) (cR l k)=(firsts (fC l k)).length:=by rw[e1,wR hb]
    have ih:=rf hN ho hl d (k+1) (by omega) (xz like (k:Int) (UInt8.ofNat (pos (firsts (fC l (k+1))) (cR l k)))) (kF (cR l k) ((firsts (fC l k)).length:Int) m) (by rw[e1];exact hK.new hb) (by rw[e1];simp;omega) (yC hk hL)
    have h1:Loop (aY.b1 l) ((k:Int),like,firsts (fC l k),m)=Loop (aY.b1 l) (((k+1:Nat):Int),(xz like (k:Int) (UInt8.ofNat (pos (firsts (fC l (k+1))) (cR l k)))),firsts (fC l (k+1)),(kF (cR l k) ((firsts (fC l k)).length:Int) m)):=by
     refine bM ?_
     rw[h0]
     unfold aY.k3
     rw[as4 hk hK hf hb,oB]
     simp only[Bool.not_true,Bool.false_eq_true,if_false]
     unfold aY.k2
     rw[eN (by omega),e2,e1]
    rw[h1];exact ih
   ·have hlen:256 < (firsts (fC l N)).length:=by
     have:=hpre.length_le
     rw[e1,lA]at this
     simp at this;omega
    rw[if_neg (by omega)]
    refine cP ?_
    rw[h0]
    unfold aY.k3
    rw[anZ hK (by omega) hb,oB]
    rfl
theorem yV{l:List bZ}{f:bZ→Option Bool}{g:bZ→Bool}(hf:∀x∈l,f x=some (g x))(hl:l.length < 9223372036854775807):cE l f=some (l.any g):=by
 have key:aM l f=some (if l.any g then(l.findIdx g:Int)else -1):=by
  unfold aM
  have hle:l.findIdx g≤l.length:=List.findIdx_le_length
  have hrun:=mM (b:=aM.b1 l f) (i:=0) (n:=l.findIdx g) (Nat.zero_le _) (fun j _ hj=>by
   have hjl:j < l.length:=by omega
   simp only[aM.b1]
   have hg:g l[j]=false:=by simpa using List.not_of_lt_findIdx hj
   rw[if_pos (by simpa using hjl),bz,gE hjl,oB,hf _ (gM hjl),oB,hg]
   simp only[Bool.false_eq_true,if_false]
   rw[eN (by omega)])
  simp only[Int.ofNat_zero,Int.natCast_zero]at hrun
  rw[hrun]
  by_cases ha:l.any g
  ·have hlt:l.findIdx g < l.length:=List.findIdx_lt_length.2 (by simpa using ha)
   rw[if_pos ha]
   refine cP ?_
   simp only[aM.b1]
   have hg:g (l[l.findIdx g])=true:=List.findIdx_getElem
   rw[if_pos (by simpa using hlt),bz,gE hlt,oB,hf _ (gM hlt),oB,hg]
   rfl
  ·have he:l.findIdx g=l.length:=List.findIdx_eq_length.2 (by simpa using ha)
   rw[if_neg ha,he]
   refine bK ?_
   simp only[aM.b1]
   rw[if_neg (by simp)];rfl
 unfold cE
 rw[key,oB]
 cases h:l.any g <;> simp
theorem anm{N:Nat}(hN:N=4352){l:List bZ}(ho:∀x∈l,OkP x)(hl:l.length≤4096):
  if (firsts (fC l N)).length≤256 then ∃like',pE l like' N∧aY l=some (some ⟨like',firsts (fC l N)⟩,0)else aY l=some (none,3):=by
 have h1:aY l=Loop (aY.b1 l) (((0:Nat):Int),(Vector.replicate 4352 (0:UInt8)),firsts (fC l 0),[]):=by
  unfold aY
  have hc:=yV (l:=l) (f:=iq) (g:=fun _=>false) (fun x hx=>by
   obtain⟨a,b,c⟩:=ho x hx
   unfold iq
   simp;omega) (by omega)
  rw[if_neg (by simp;omega),hc,oB]
  have:l.any (fun _=>false)=false:=by simp
  rw[this];rfl
 rw[h1]
 exact rf hN ho hl N 0 (by omega) _ [] sW (by simp[fC,firsts]) (fun j hj=>by omega)
theorem zz{N:Nat}(hN:N=4352){l:List bZ}{like:Vector UInt8 4352}(hL:pE l like N)(hF:(firsts (fC l N)).length≤256){r:Int}(h0:0≤r)(h1:r≤1114111):gh ⟨like,firsts (fC l N)⟩ r=some (uB l r):=by
 obtain⟨n,rfl⟩:∃n:Nat,r=(n:Int):=⟨r.toNat,by omega⟩
 have hd:n/256 < N:=by omega
 have hm:n%256 < 256:=by omega
 unfold gh
 rw[if_neg (by simp;omega)]
 have e1:IntKind.i64.wrap (Int.tdiv (n:Int) 256)=((n/256:Nat):Int):=by
  rw[Int.tdiv_eq_ediv_of_nonneg (by omega),w64 (by omega) (by omega)];omega
 have e2:Int.tmod (n:Int) 256=((n%256:Nat):Int):=by
  rw[Int.tmod_eq_emod_of_nonneg (by omega)];omega
 rw[e1,e2,bz,hL _ hd,oB]
 have hmem:=aeH (l:=l) hd
 have hlt:=sP hmem
 have e3:(UInt8.ofNat (pos (firsts (fC l N)) (cR l (n/256)))).toNat=pos (firsts (fC l N)) (cR l (n/256)):=by
  rw[UInt8.toNat_ofNat'];exact Nat.mod_eq_of_lt (by omega)
 have hg:(firsts (fC l N))[pos (firsts (fC l N)) (cR l (n/256))]? =some (cR l (n/256)):=qQ hmem
 rw[e3,bz,hg,oB,bz,ky l _ _ hm,oB]
 congr 2
 omega
theorem aoj{l:List bZ}{r:Int}(hl:l.length≤4096):bJ l r=some (uB l r):=by
 have run:∀(d i:Nat),i+d=l.length→Loop (bJ.b1 l r) (uB (l.take i) r,(i:Int))=some (uB l r):=by
  intro d
  induction d with
  |zero=>
   intro i h
   obtain rfl:i=l.length:=by omega
   refine bK ?_
   simp only[bJ.b1]
   rw[if_neg (by simp),List.take_length];rfl
  |succ d ih=>
   intro i h
   have hi:i < l.length:=by omega
   rw[← ih (i+1) (by omega)]
   refine bM ?_
   simp only[bJ.b1]
   rw[if_pos (by simpa using hi),bz,gE hi,fx hi,lR]
   simp only[oB]
   unfold bJ.k2
   rw[eN (by omega)]
   by_cases h1:l[i].Low≤r
   ·by_cases h2:r≤l[i].High
    ·simp[h1,h2]
    ·simp[h1,h2]
   ·simp[h1]
 exact run l.length 0 (by omega)
def gT(k:Nat)(x:bZ):Bool:=decide (x.High≥((k*256:Nat):Int))&&decide (x.Low < (((k+1)*256:Nat):Int))
theorem ag8{l:List bZ}{k:Nat}(hk:k < 4352)(hl:l.length≤4096):bv l (k:Int)=some (l.filter (gT k)):=by
 have e1:IntKind.i64.wrap ((k:Int)*256)=((k*256:Nat):Int):=by rw[w64 (by omega) (by omega)];omega
 have e2:IntKind.i64.wrap (IntKind.i64.wrap ((k:Int)+1)*256)=(((k+1)*256:Nat):Int):=by rw[eN (by omega),w64 (by omega) (by omega)];omega
 have run:∀(d i:Nat),i+d=l.length→Loop (bv.b1 l (k:Int)) ((l.take i).filter (gT k),(i:Int))=some (l.filter (gT k)):=by
  intro d
  induction d with
  |zero=>
   intro i h
   obtain rfl:i=l.length:=by omega
   refine bK ?_
   simp only[bv.b1]
   rw[if_neg (by simp),List.take_length];rfl
  |succ d ih=>
   intro i h
   have hi:i < l.length:=by omega
   rw[← ih (i+1) (by omega)]
   refine bM ?_
   simp only[bv.b1]
   rw[if_pos (by simpa using hi),bz,gE hi,fx hi,List.filter_append]
   simp only[oB]
   rw[e1,e2]
   unfold bv.k2
   rw[eN (by omega)]
   have hlen:((l.take i).filter (gT k)).length≤i:=Nat.le_trans (List.length_filter_le _ _) (by simp;omega)
   by_cases h1:l[i].High≥((k*256:Nat):Int)
   ·by_cases h2:l[i].Low < (((k+1)*256:Nat):Int)
    ·have ht:gT k l[i]=true:=by simp only[gT,decide_eq_true h1,decide_eq_true h2,Bool.and_self]
     rw[if_pos (decide_eq_true h1),oB,if_pos (decide_eq_true h2),cK (by omega),oB]
     simp[ht]
    ·have ht:gT k l[i]=false:=by simp only[gT,decide_eq_false h2,Bool.and_false]
     rw[if_pos (decide_eq_true h1),oB,if_neg (by simpa using h2)]
     simp[ht]
   ·have ht:gT k l[i]=false:=by simp only[gT,decide_eq_false h1,Bool.false_and]
    rw[if_neg (by simpa using h1),oB]
    simp[ht]
 exact run l.length 0 (by omega)
theorem vM{l:List bZ}{k j:Nat}(hj:j < 256):uB (l.filter (gT k)) ((k*256+j:Nat):Int)=uB l ((k*256+j:Nat):Int):=by
 induction l using mD with
 |h0=>rfl
 |h1 l x ih=>
  rw[List.filter_append,lR]
  by_cases hx:gT k x=true
  ·rw[show [x].filter (gT k)=[x]by simp[hx],lR,ih]
  ·have h2:¬ (x.Low≤((k*256+j:Nat):Int)∧((k*256+j:Nat):Int)≤x.High):=by
    intro hc
    apply hx
    unfold gT
    rw[decide_eq_true (by omega),decide_eq_true (by omega)];rfl
   rw[show [x].filter (gT k)=[]by simp[hx],List.append_nil,if_neg h2,ih]
def jx(F:List (Vector UInt8 256)):List UInt8:=(F.map (·.toList)).flatten
theorem tz{F:List (Vector UInt8 256)}:(jx F).length=256*F.length:=by
 induction F with
 |nil=>rfl
 |cons a F ih=>unfold jx at*;simp[ih];omega
theorem vg:∀{F:List (Vector UInt8 256)} {i:Nat},(jx F).drop (i*256)=jx (F.drop i)
 |F,0=>by simp
 | [],i+1=>by simp[jx]
 |a::F,i+1=>by
  have:jx (a::F)=a.toList++jx F:=by simp[jx]
  rw[this,show(i+1)*256=a.toList.length+i*256 by simp;omega,List.drop_append,List.drop_eq_nil_of_le (by omega),List.nil_append,show a.toList.length+i*256 - a.toList.length=i*256 by omega,vg];rfl
theorem af6{F:List (Vector UInt8 256)}{b:Vector UInt8 256}:jx (b::F)=b.toList++jx F:=by simp[jx]
theorem afA{F:List (Vector UInt8 256)}{b:Vector UInt8 256}:jx (F++[b])=jx F++b.toList:=by simp[jx]
theorem vr{F:List (Vector UInt8 256)}{b:Vector UInt8 256}:∀(d i:Nat),i+d=F.length→kC (jx F) b.toList d i=if b∈F.drop i then((i+pos (F.drop i) b:Nat):Int)else -1
 |0,i,h=>by
  rw[List.drop_eq_nil_of_le (by omega)];simp[kC]
 |d+1,i,h=>by
  have hi:i < F.length:=by omega
  have hd:F.drop i=F[i]::F.drop (i+1):=List.drop_eq_getElem_cons hi
  simp only[kC]
  have ht:((jx F).drop (i*256)).take 256=F[i].toList:=by
   rw[vg,hd]
   rw[af6,List.take_append_of_le_length (by simp),List.take_of_length_le (by simp)]
  rw[ht,vr d (i+1) (by omega),hd]
  by_cases hb:F[i]=b
  ·rw[if_pos (by rw[hb]),if_pos (by simp[hb])]
   simp[pos,hb]
  ·have hb2:¬ F[i].toList=b.toList:=fun e=>hb (Vector.toList_inj.1 e)
   rw[if_neg hb2]
   by_cases hm:b∈F.drop (i+1)
   ·rw[if_pos hm,if_pos (List.mem_cons_of_mem _ hm),qi,if_neg hb];omega
   ·rw[if_neg hm,if_neg (fun h=>(List.mem_cons.1 h).elim (fun e=>hb e.symm) hm)]
theorem anO{F:List (Vector UInt8 256)}{L:List Int}{b:Vector UInt8 256}(hF:F.length≤256):dc ⟨jx F,L⟩ b.toList=some (if b∈F then((pos F b:Nat):Int)else -1):=by
 unfold dc
 have hl:=tz (F:=F)
 simp only[hl]
 rw[if_pos ⟨by omega,by omega,by simp⟩,show 256*F.length/256=F.length by omega,vr F.length 0 (by omega)]
 simp
theorem akD{F:List (Vector UInt8 256)}{L:List Int}{b:Vector UInt8 256}(hF:F.length≤256)(hL:L.length≤4352):∃n:Int,cg ⟨jx F,L⟩ b.toList=some ⟨jx (uG F b),L++[n]⟩:=by
 unfold cg
 rw[anO hF,oB]
 by_cases hb:b∈F
 ·rw[if_pos hb,if_neg (by simp)]
  unfold cg.k1
  rw[cK (by show(L.length+1)*8≤_;omega),oB,uG,if_pos hb]
  exact⟨_,rfl⟩
 ·rw[if_neg hb,if_pos (by decide),cK (by show((jx F).length+b.toList.length)*1≤_;rw[tz];simp;omega),oB]
  unfold cg.k1
  rw[cK (by show(L.length+1)*8≤_;omega),oB,uG,if_neg hb,afA]
  exact⟨_,rfl⟩
def wj(l:List bZ)(k i:Nat):List UInt8:=(List.range 256).map fun j=>if j < i then uB l ((k*256+j:Nat):Int)else 0
theorem kb{l:List bZ}{k i:Nat}:(wj l k i).length=256:=by simp[wj]
theorem mf{l:List bZ}{k i j:Nat}(h:j < 256):(wj l k i)[j]? =some (if j < i then uB l ((k*256+j:Nat):Int)else 0):=by
 unfold wj
 rw[gP,List.getElem?_range h];rfl
theorem akF{l:List bZ}{k i:Nat}(h:i < 256):(wj l k i).set i (uB l ((k*256+i:Nat):Int))=wj l k (i+1):=by
 apply List.ext_getElem?
 intro j
 by_cases hj:j < 256
 ·by_cases e:i=j
  ·subst e
   rw[List.getElem?_set_self (by rw[kb];exact hj),mf hj,if_pos (by omega)]
  ·rw[List.getElem?_set_ne e,mf hj,mf hj]
   by_cases hlt:j < i
   ·rw[if_pos hlt,if_pos (by omega)]
   ·rw[if_neg hlt,if_neg (by omega)]
 ·rw[gN (by rw[List.length_set,kb];omega),gN (by rw[kb];omega)]
theorem aaq{l:List bZ}{k:Nat}:wj l k 256=(cR l k).toList:=by
 apply List.ext_getElem?
 intro j
 by_cases hj:j < 256
 ·rw[mf hj,ky l k j hj,if_pos hj]
 ·rw[gN (by rw[kb];omega),gN (by rw[Vector.length_toList];omega)]
theorem adT{l:List bZ}{k:Nat}:List.replicate 256 (0:UInt8)=wj l k 0:=by
 apply List.ext_getElem?
 intro j
 by_cases hj:j < 256
 ·rw[mf hj,if_neg (by omega),List.getElem?_replicate,if_pos hj]
 ·rw[gN (by rw[List.length_replicate];omega),gN (by rw[kb];omega)]
theorem sU{l:List bZ}{k:Nat}(hk:k < 4352)(hl:l.length≤4096)(F:List UInt8)(L:List Int)(hne:l.filter (gT k)≠[]):∀(d i:Nat),i+d=256→
  Loop (aq.b2 (k:Int) F L (l.filter (gT k))) (wj l k i,(i:Int))=aq.k4 (k:Int) F L (cR l k).toList
 |0,i,h=>by
  obtain rfl:i=256:=by omega
  refine bK ?_
  simp only[aq.b2]
  rw[if_neg (by simp),aaq]
 |d+1,i,h=>by
  have hi:i < 256:=by omega
  rw[← sU hk hl F L hne d (i+1) (by omega)]
  refine bM ?_
  simp only[aq.b2]
  have hp:0 < (l.filter (gT k)).length:=List.length_pos_iff.2 hne
  have e1:IntKind.i64.wrap (IntKind.i64.wrap ((k:Int)*256)+(i:Int))=((k*256+i:Nat):Int):=by rw[w64 (n:=(k:Int)*256) (by omega) (by omega),w64 (n:=(k:Int)*256+(i:Int)) (by omega) (by omega)];omega
  have hc:(decide ((i:Int) < 256)&&decide (((l.filter (gT k)).length:Int) > 0))=true:=by rw[decide_eq_true (by omega),decide_eq_true (by omega)];rfl
  rw[if_pos hc,e1,aoj (Nat.le_trans (List.length_filter_le _ _) hl),oB,bz,gE (by rw[kb];exact hi),oB,vM hi,eN (by omega),Int.toNat_natCast,akF hi]
theorem auo{l:List bZ}{k:Nat}(hk:k < 4352)(hl:l.length≤4096)(F:List UInt8)(L:List Int):
  Loop (aq.b2 (k:Int) F L (l.filter (gT k))) (List.replicate 256 0,(0:Int))=aq.k4 (k:Int) F L (cR l k).toList:=by
 by_cases hne:l.filter (gT k)=[]
 ·have hz:(cR l k).toList=List.replicate 256 0:=by
   rw[← aaq]
   apply List.ext_getElem?
   intro j
   by_cases hj:j < 256
   ·rw[mf hj,if_pos hj,← vM hj,hne,List.getElem?_replicate,if_pos hj];rfl
   ·rw[gN (by rw[kb];omega),gN (by rw[List.length_replicate];omega)]
  refine bK ?_
  simp only[aq.b2]
  rw[if_neg (by simp[hne]),hz]
 ·rw[adT (l:=l) (k:=k)]
  exact sU hk hl F L hne 256 0 (by omega)
theorem pr{N:Nat}(hN:N=4352){l:List bZ}(hl:l.length≤4096):∀(d k:Nat),k+d=N→∀(L:List Int),L.length=k→(firsts (fC l k)).length≤256→
  ∃x,Loop (aq.b1 l) ((k:Int),jx (firsts (fC l k)),L)=some (x,if (firsts (fC l N)).length≤256 then 0 else 3)
 |0,k,h,L,hL,hF=>by
  obtain rfl:k=N:=by omega
  rw[if_pos hF]
  refine⟨_,bK (R:=some (some ⟨jx (firsts (fC l k)),L⟩,0)) ?_⟩
  simp only[aq.b1]
  rw[if_neg (by simp;omega)];rfl
 |d+1,k,h,L,hL,hF=>by
  have hk:k < 4352:=by omega
  have hpre:firsts (fC l (k+1)) <+: firsts (fC l N):=by
   have:=sH (l:=l) (k:=k+1) d
   rw[show k+1+d=N by omega]at this;exact this
  obtain⟨n,ha⟩:=akD (F:=firsts (fC l k)) (L:=L) (b:=cR l k) hF (by omega)
  rw[← dW,← pu]at ha
  have h0:aq.b1 l ((k:Int),jx (firsts (fC l k)),L)=aq.k4 (k:Int) (jx (firsts (fC l k))) L (cR l k).toList:=by
   simp only[aq.b1]
   rw[if_pos (by simp;omega),ag8 hk hl,oB,show(256:Int)=((256:Nat):Int) by rfl,aaH (by omega),oB]
   exact auo hk hl _ _
  have h1:aq.b1 l ((k:Int),jx (firsts (fC l k)),L)=if 256 < (firsts (fC l (k+1))).length then some (.done (none,3))else some (.next (((k+1:Nat):Int),jx (firsts (fC l (k+1))),L++[n])):=by
   rw[h0]
   unfold aq.k4
   rw[ha,oB]
   simp only[tz]
   by_cases hc:256 < (firsts (fC l (k+1))).length
   ·rw[if_pos hc,if_pos (by simp;omega)]
   ·rw[if_neg hc,if_neg (by simp;omega)]
    unfold aq.k3
    rw[eN (by omega)]
  by_cases hc:256 < (firsts (fC l (k+1))).length
  ·rw[if_pos hc]at h1
   rw[if_neg (by have:=hpre.length_le;omega)]
   exact⟨none,cP h1⟩
  ·rw[if_neg hc]at h1
   rw[bM h1]
   exact pr hN hl d (k+1) (by omega) (L++[n]) (by simp[hL]) (by omega)
theorem ab9{N:Nat}(hN:N=4352){l:List bZ}(ho:∀x∈l,OkP x)(hl:l.length≤4096):∃x,aq l=some (x,if (firsts (fC l N)).length≤256 then 0 else 3):=by
 unfold aq
 rw[if_neg (by simp;omega)]
 have hrun:=mM (b:=aq.b3 l) (i:=0) (n:=l.length) (Nat.zero_le _) (fun j _ hj=>by
  simp only[aq.b3]
  obtain⟨a,b,c⟩:=ho _ (gM hj)
  rw[if_pos (by simpa using hj),bz,gE hj,oB,if_neg (by simp;omega),if_neg (by simp;omega),oB,if_neg (by simp;omega),eN (by omega)])
 simp only[Int.ofNat_zero,Int.natCast_zero]at hrun
 rw[hrun]
 obtain⟨x,hx⟩:=pr hN hl N 0 (by omega) [] rfl (by simp[fC,firsts])
 refine⟨x,bK ?_⟩
 simp only[aq.b3]
 rw[if_neg (by simp)]
 unfold aq.k1
 rw[← hx];rfl
theorem zp{zs:List Int}{m:Nat}(h:m < zs.length):zs.toArray[m]! =zs[m]:=by
 rw[getElem!_pos zs.toArray m (by simpa using h)];simp
theorem rK{zs:List Int}(hs:zs.Pairwise (· ≤ ·)):∀m,m≤zs.length→(Go.Lib.compactUpTo zs.toArray m).Pairwise (· < ·)∧(∀x,x∈Go.Lib.compactUpTo zs.toArray m↔x∈zs.take m)∧(Go.Lib.compactUpTo zs.toArray m).length≤m
 |0,_=>by simp[Go.Lib.compactUpTo]
 |m+1,h=>by
  obtain⟨ih1,ih2,ih3⟩:=rK hs m (by omega)
  have hm:m < zs.length:=by omega
  have hle:∀x∈zs.take m,x≤zs[m]:=by
   intro x hx
   obtain⟨j,hj,rfl⟩:=List.getElem_of_mem hx
   rw[List.getElem_take]
   have:j < m:=by simp at hj;omega
   exact(List.pairwise_iff_getElem.1 hs) j m (by omega) hm this
  rw[Go.Lib.compactUpTo_succ,zp hm,fx hm]
  by_cases hk:Go.Lib.keeps zs.toArray m=true
  ·rw[if_pos hk]
   refine⟨?_,fun x=>by rw[List.mem_append,List.mem_append,ih2],by simp;omega⟩
   rw[List.pairwise_append]
   refine⟨ih1,List.pairwise_singleton _ _,fun x hx y hy=>?_⟩
   simp at hy;subst hy
   have h1:=hle x ((ih2 x).1 hx)
   rcases Int.lt_or_eq_of_le h1 with h2|h2
   ·exact h2
   ·exfalso
    simp only[Go.Lib.keeps,decide_eq_true_eq]at hk
    rcases hk with hk|hk
    ·subst hk;simp at ih2;exact absurd hx (ih2 x)
    ·have h0:0 < m:=by
      rcases Nat.eq_zero_or_pos m with h0|h0
      ·subst h0;exact absurd ((ih2 x).1 hx) (by simp)
      ·exact h0
     rw[zp hm,zp (by omega)]at hk
     have hx2:=(ih2 x).1 hx
     obtain⟨j,hj,rfl⟩:=List.getElem_of_mem hx2
     rw[List.getElem_take]at h2
     have hj2:j < m:=by simp at hj;omega
     have hj3:zs[j]'(by omega)≤zs[m - 1]'(by omega):=by
      rcases Nat.lt_or_ge j (m - 1)with q|q
      ·exact(List.pairwise_iff_getElem.1 hs) j (m - 1) (by omega) (by omega) q
      ·have:j=m - 1:=by omega
       subst this;exact Int.le_refl _
     have hj4:zs[m - 1]'(by omega)≤zs[m]:=(List.pairwise_iff_getElem.1 hs) (m - 1) m (by omega) hm (by omega)
     exact hk (by omega)
  ·rw[if_neg hk,List.append_nil]
   refine⟨ih1,fun x=>?_,by omega⟩
   rw[ih2,List.mem_append]
   refine⟨.inl,fun h=>h.elim id fun h=>?_⟩
   simp at h;subst h
   simp only[Go.Lib.keeps,decide_eq_true_eq,not_or,ne_eq,Classical.not_not]at hk
   rw[zp hm,zp (by omega)]at hk
   rw[hk.2]
   exact List.mem_take_iff_getElem.2 ⟨m - 1,by omega,rfl⟩
theorem nE{zs:List Int}(hs:zs.Pairwise (· ≤ ·)):(Go.Lib.compact zs).Pairwise (· < ·)∧(∀x,x∈Go.Lib.compact zs↔x∈zs)∧(Go.Lib.compact zs).length≤zs.length:=by
 have:=rK hs zs.length (nR _)
 rw[List.take_length]at this;exact this
theorem pb:∀{l m:List Int},l.Pairwise (· < ·)→m.Pairwise (· < ·)→(∀x,x∈l↔x∈m)→l=m
 | [],[],_,_,_=>rfl
 | [],b::m,_,_,h=>absurd ((h b).2 (by simp)) (by simp)
 |a::l,[],_,_,h=>absurd ((h a).1 (by simp)) (by simp)
 |a::l,b::m,h1,h2,h=>by
  rw[List.pairwise_cons]at h1 h2
  have hab:a=b:=by
   have ha:=(h a).1 (by simp)
   have hb:=(h b).2 (by simp)
   rcases List.mem_cons.1 ha with e|ha
   ·exact e
   ·rcases List.mem_cons.1 hb with e|hb
    ·exact e.symm
    ·have:=h1.1 b hb;have:=h2.1 a ha;omega
  subst hab
  rw[pb h1.2 h2.2 fun x=>?_]
  have:=h x
  simp only[mC]at this
  constructor
  ·intro hx
   have:=h1.1 x hx
   exact(this |> fun _=>(‹x=a∨x∈l↔x=a∨x∈m›.1 (.inr hx))).elim (fun e=>by omega) id
  ·intro hx
   have:=h2.1 x hx
   exact(this |> fun _=>(‹x=a∨x∈l↔x=a∨x∈m›.2 (.inr hx))).elim (fun e=>by omega) id
theorem ly{S:List (List ah)}{i:Nat}(h:i < S.length):(S.take (i+1)).flatten=(S.take i).flatten++S[i]:=by
 rw[fx h,List.flatten_append];simp
theorem sy{S:List (List ah)}(i:Nat):(S.take i).flatten.length≤S.flatten.length:=by
 have:S.flatten=(S.take i).flatten++(S.drop i).flatten:=by rw[← List.flatten_append,List.take_append_drop]
 rw[this,lA];omega
theorem zl{S:List (List ah)}{i:Nat}(h:i < S.length):(S.take i).flatten.length+S[i].length≤S.flatten.length:=by
 have:=sy (S:=S) (i+1)
 rw[ly h,lA]at this;exact this
theorem si{S:List (List ah)}{i:Nat}(h:i < S.length){x:ah}(hx:x∈S[i]):x∈S.flatten:=List.mem_flatten.2 ⟨S[i],gM h,hx⟩
theorem xr{S:List (List ah)}(hok:∀x∈S.flatten,Ok x)(hl:S.flatten.length≤1000000){i:Nat}(hi:i < S.length):∀(d k:Nat),k+d=S[i].length→∀out:List Int,(∀e,e∈out↔Edge ((S.take i).flatten++S[i].take k) e)→out.length≤2*((S.take i).flatten.length+k)+1→
  ∃out',Loop (aZ.b2 (i:Int) S[i]) (out,(k:Int))=aZ.k2 (i:Int) out'∧(∀e,e∈out'↔Edge ((S.take (i+1)).flatten) e)∧out'.length≤2*(S.take (i+1)).flatten.length+1
 |0,k,h,out,hm,ho=>by
  obtain rfl:k=S[i].length:=by omega
  refine⟨out,bK ?_,fun e=>by rw[hm,ly hi,List.take_length],by rw[ly hi,lA];exact ho⟩
  simp only[aZ.b2]
  rw[if_neg (by simp)]
 |d+1,k,h,out,hm,ho=>by
  have hk:k < S[i].length:=by omega
  have hel:=zl hi
  obtain⟨a,b,c⟩:=hok _ (si hi (gM hk))
  have htk:S[i].take (k+1)=S[i].take k++[S[i][k]]:=fx hk
  by_cases hh:S[i][k].High < 1114111
  ·obtain⟨out',h1,h2,h3⟩:=xr hok hl hi d (k+1) (by omega) (out++[S[i][k].Low]++[S[i][k].High+1]) (fun e=>by
    rw[htk,← List.append_assoc,lx,← hm]
    simp only[List.mem_append,List.mem_singleton]
    constructor
    ·rintro((h|h)|h)
     ·exact .inl (.inl h)
     ·exact .inl (.inr h)
     ·exact .inr ⟨hh,h⟩
    ·rintro((h|h)|h)
     ·exact .inl (.inl h)
     ·exact .inl (.inr h)
     ·exact .inr h.2) (by simp only[lA,List.length_singleton];omega)
   refine⟨out',?_,h2,h3⟩
   rw[← h1]
   refine bM ?_
   simp only[aZ.b2]
   rw[if_pos (by simpa using hk),bz,gE hk,oB,cK (by omega),oB,if_pos (decide_eq_true hh),cK (by omega),oB,w64 (n:=S[i][k].High+1) (by omega) (by omega)]
   unfold aZ.k3
   rw[eN (by omega)]
  ·obtain⟨out',h1,h2,h3⟩:=xr hok hl hi d (k+1) (by omega) (out++[S[i][k].Low]) (fun e=>by
    rw[htk,← List.append_assoc,lx,← hm]
    simp only[List.mem_append,List.mem_singleton]
    constructor
    ·rintro(h|h)
     ·exact .inl (.inl h)
     ·exact .inl (.inr h)
    ·rintro((h|h)|h)
     ·exact .inl h
     ·exact .inr h
     ·exact absurd h.1 hh) (by simp only[lA,List.length_singleton];omega)
   refine⟨out',?_,h2,h3⟩
   rw[← h1]
   refine bM ?_
   simp only[aZ.b2]
   rw[if_pos (by simpa using hk),bz,gE hk,oB,cK (by omega),oB,if_neg (by simpa using hh)]
   unfold aZ.k3
   rw[eN (by omega)]
theorem aea{S:List (List ah)}(hok:∀x∈S.flatten,Ok x)(hl:S.flatten.length≤1000000)(hs:S.length≤1000000):∀(d i:Nat),i+d=S.length→∀out:List Int,(∀e,e∈out↔Edge ((S.take i).flatten) e)→out.length≤2*(S.take i).flatten.length+1→
  ∃out',Loop (aZ.b1 S) (out,(i:Int))=aZ.k1 out'∧(∀e,e∈out'↔Edge S.flatten e)∧out'.length≤2*S.flatten.length+1
 |0,i,h,out,hm,ho=>by
  obtain rfl:i=S.length:=by omega
  rw[List.take_length]at hm ho
  refine⟨out,bK ?_,hm,ho⟩
  simp only[aZ.b1]
  rw[if_neg (by simp)]
 |d+1,i,h,out,hm,ho=>by
  have hi:i < S.length:=by omega
  obtain⟨o1,h1,h2,h3⟩:=xr hok hl hi S[i].length 0 (by omega) out (fun e=>by rw[hm];simp) (by omega)
  obtain⟨o2,q1,q2,q3⟩:=aea hok hl hs d (i+1) (by omega) o1 h2 h3
  refine⟨o2,?_,q2,q3⟩
  rw[← q1]
  refine bM ?_
  simp only[aZ.b1]
  rw[if_pos (by simpa using hi),bz,gE hi,oB]
  refine h1.trans ?_
  unfold aZ.k2
  rw[eN (by omega)]
theorem aok{S:List (List ah)}(hok:∀x∈S.flatten,Ok x)(hl:S.flatten.length≤1000000)(hs:S.length≤1000000):∃E,aZ S=some E∧E.Pairwise (· < ·)∧(∀e,e∈E↔Edge S.flatten e)∧E.length≤2*S.flatten.length+1:=by
 obtain⟨o,h1,h2,h3⟩:=aea hok hl hs S.length 0 (by omega) [0] (fun e=>by simp[Edge]) (by simp)
 have hp:(o.mergeSort fun x y=>decide (x≤y)).Perm o:=List.mergeSort_perm _ _
 have hsort:(o.mergeSort fun x y=>decide (x≤y)).Pairwise (· ≤ ·):=by
  have:=List.pairwise_mergeSort (le:=fun x y:Int=>decide (x≤y)) (by intro a b c;simp;omega) (by intro a b;simp;omega) o
  exact this.imp (by simp)
 obtain⟨c1,c2,c3⟩:=nE hsort
 have hlen:=hp.length_eq
 refine⟨Go.Lib.compact (o.mergeSort fun x y=>decide (x≤y)),?_,c1,fun e=>by rw[c2,hp.mem_iff,h2],by omega⟩
 refine h1.trans ?_
 unfold aZ.k1 tC
 rw[if_pos (by unfold dU;omega),oB]
 unfold cY
 rw[if_pos (by unfold dU;omega)];rfl
theorem vu:cx=bS:=rfl
theorem tO{S:List (List ah)}(hok:∀x∈S.flatten,Ok x)(hl:S.flatten.length≤1000000){i:Nat}(hi:i < S.length):∀(d k:Nat),k+d=S[i].length→∀out:List Int,out.Pairwise (· < ·)→(∀e,e∈out↔Edge ((S.take i).flatten++S[i].take k) e)→out.length≤2*((S.take i).flatten.length+k)+1→
  ∃out',Loop (aF.b2 S (i:Int)) (out,(k:Int))=aF.k2 (i:Int) out'∧out'.Pairwise (· < ·)∧(∀e,e∈out'↔Edge ((S.take (i+1)).flatten) e)∧out'.length≤2*(S.take (i+1)).flatten.length+1
 |0,k,h,out,hp,hm,ho=>by
  obtain rfl:k=S[i].length:=by omega
  refine⟨out,bK ?_,hp,fun e=>by rw[hm,ly hi,List.take_length],by rw[ly hi,lA];exact ho⟩
  simp only[aF.b2]
  rw[bz,gE hi,oB,if_neg (by simp)]
 |d+1,k,h,out,hp,hm,ho=>by
  have hk:k < S[i].length:=by omega
  have hel:=zl hi
  obtain⟨a,b,c⟩:=hok _ (si hi (gM hk))
  have htk:S[i].take (k+1)=S[i].take k++[S[i][k]]:=fx hk
  obtain⟨r,r1,r2,r3,r4⟩:=mm (n:=S[i][k].Low) hp (by omega)
  by_cases hh:S[i][k].High < 1114111
  ·obtain⟨q,q1,q2,q3,q4⟩:=mm (n:=S[i][k].High+1) r2 (by omega)
   obtain⟨out',h1,h2,h3,h4⟩:=tO hok hl hi d (k+1) (by omega) q q2 (fun e=>by
    rw[htk,← List.append_assoc,lx,← hm,q3,r3]
    constructor
    ·rintro(h|h)
     ·exact .inl h
     ·exact .inr ⟨hh,h⟩
    ·rintro(h|h)
     ·exact .inl h
     ·exact .inr h.2) (by omega)
   refine⟨out',?_,h2,h3,h4⟩
   rw[← h1]
   refine bM ?_
   simp only[aF.b2]
   rw[bz,gE hi,oB,if_pos (by simpa using hk),bz,gE hk,oB,vu,r1,oB,if_pos (decide_eq_true hh),w64 (n:=S[i][k].High+1) (by omega) (by omega),q1,oB]
   unfold aF.k3
   rw[eN (by omega)]
  ·obtain⟨out',h1,h2,h3,h4⟩:=tO hok hl hi d (k+1) (by omega) r r2 (fun e=>by
    rw[htk,← List.append_assoc,lx,← hm,r3]
    constructor
    ·exact .inl
    ·rintro(h|h)
     ·exact h
     ·exact absurd h.1 hh) (by omega)
   refine⟨out',?_,h2,h3,h4⟩
   rw[← h1]
   refine bM ?_
   simp only[aF.b2]
   rw[bz,gE hi,oB,if_pos (by simpa using hk),bz,gE hk,oB,vu,r1,oB,if_neg (by simpa using hh)]
   unfold aF.k3
   rw[eN (by omega)]
theorem aas{S:List (List ah)}(hok:∀x∈S.flatten,Ok x)(hl:S.flatten.length≤1000000)(hs:S.length≤1000000):∀(d i:Nat),i+d=S.length→∀out:List Int,out.Pairwise (· < ·)→(∀e,e∈out↔Edge ((S.take i).flatten) e)→out.length≤2*(S.take i).flatten.length+1→
  ∃out',Loop (aF.b1 S) (out,(i:Int))=some out'∧out'.Pairwise (· < ·)∧(∀e,e∈out'↔Edge S.flatten e)
 |0,i,h,out,hp,hm,ho=>by
  obtain rfl:i=S.length:=by omega
  rw[List.take_length]at hm
  refine⟨out,bK (R:=some out) ?_,hp,hm⟩
  simp only[aF.b1]
  rw[if_neg (by simp)];rfl
 |d+1,i,h,out,hp,hm,ho=>by
  have hi:i < S.length:=by omega
  obtain⟨o1,h1,h2,h3,h4⟩:=tO hok hl hi S[i].length 0 (by omega) out hp (fun e=>by rw[hm];simp) (by omega)
  obtain⟨o2,q1,q2,q3⟩:=aas hok hl hs d (i+1) (by omega) o1 h2 h3 h4
  refine⟨o2,?_,q2,q3⟩
  rw[← q1]
  refine bM ?_
  simp only[aF.b1]
  rw[if_pos (by simpa using hi)]
  refine h1.trans ?_
  unfold aF.k2
  rw[eN (by omega)]
theorem afE{S:List (List ah)}(hok:∀x∈S.flatten,Ok x)(hl:S.flatten.length≤1000000)(hs:S.length≤1000000):∃E,aZ S=some E∧aF S=some E∧E.Pairwise (· < ·)∧(∀e,e∈E↔Edge S.flatten e)∧E.length≤2*S.flatten.length+1:=by
 obtain⟨E,h1,h2,h3,h4⟩:=aok hok hl hs
 obtain⟨D,q1,q2,q3⟩:=aas hok hl hs S.length 0 (by omega) [0] (List.pairwise_singleton _ _) (fun e=>by simp[Edge]) (by simp)
 have:D=E:=pb q2 h2 fun x=>by rw[q3,h3]
 subst this
 exact⟨D,h1,q1,h2,h3,h4⟩
def amK{α K:Type}[DecidableEq K](f:α→K)(L:List α)(a:α):List α:=if f a∈L.map f then L else L++[a]
def pk{α K:Type}[DecidableEq K](f:α→K)(l:List α):List α:=l.foldl (amK f) []
theorem pV{α K:Type}[DecidableEq K]{f:α→K}{l:List α}{a:α}:pk f (l++[a])=amK f (pk f l) a:=by
 unfold pk;rw[List.foldl_append];rfl
theorem nZ{α K:Type}[DecidableEq K]{f:α→K}{l:List α}:(pk f l).map f=firsts (l.map f):=by
 induction l using mD with
 |h0=>rfl
 |h1 l x ih=>
  rw[pV,List.map_append,List.map_singleton,dW,← ih]
  unfold amK uG
  split <;> simp
theorem wE{α K:Type}[DecidableEq K]{f:α→K}{l:List α}:(pk f l).length=(firsts (l.map f)).length:=by rw[← nZ,List.length_map]
theorem ag1{K:Type}[DecidableEq K]{l:List K}:(firsts l).length≤l.length:=by
 induction l using mD with
 |h0=>simp[firsts]
 |h1 l x ih=>
  rw[dW]
  unfold uG
  split
  ·simp;omega
  ·simp;omega
def mkI(S:List (List ah))(r:Int):Int:=((kG S r S.length:Nat):Int)
def pieces(f:Int→Int)(E:List Int)(k:Nat):List bZ:=(List.range k).map fun i=>⟨bnd E i,bnd E (i+1) - 1,UInt8.ofNat (pos (firsts (E.map f)) (f (bnd E i)))⟩
theorem oN{f:Int→Int}{E:List Int}{k:Nat}:pieces f E (k+1)=pieces f E k++[⟨bnd E k,bnd E (k+1) - 1,UInt8.ofNat (pos (firsts (E.map f)) (f (bnd E k)))⟩]:=by
 unfold pieces;rw[List.range_succ,List.map_append];rfl
theorem qL{f:Int→Int}{E:List Int}{k:Nat}:(pieces f E k).length=k:=by simp[pieces]
theorem rB{f:Int→Int}{E:List Int}(k:Nat):firsts ((E.take k).map f) <+: firsts (E.map f):=by
 have:E.map f=(E.take k).map f++(E.drop k).map f:=by rw[← List.map_append,List.take_append_drop]
 rw[this];exact qB
variable{S:List (List ah)}{E:List Int}
theorem apH{k c:Nat}{L M:List Int}{m:List (Int×Int)}(hk:k < E.length)(hb:∀e∈E,0≤e∧e≤1114111)(hE:E.length≤4096)(hm:m.length≤200)(hc:c < 256)(hp:c=pos (firsts (E.map (mkI S))) (mkI S (bnd E k))):
  aP.k3 E (pieces (mkI S) E k) (k:Int) E[k] (c:Int) M L m=some (.next (pieces (mkI S) E (k+1),((k+1:Nat):Int),M,L,m)):=by
 unfold aP.k3
 rw[if_neg (by simp;omega),eN (by omega)]
 have h4:∀h:Int,h=bnd E (k+1) - 1→aP.k4 (pieces (mkI S) E k) (k:Int) E[k] (c:Int) M L m h=some (.next (pieces (mkI S) E (k+1),((k+1:Nat):Int),M,L,m)):=by
  intro h e
  unfold aP.k4
  rw[cK (by rw[qL];omega),oB,eN (by omega),ud hc,oN,← hp,fW hk,e]
 by_cases h1:k+1 < E.length
 ·have hx:=hb _ (gM h1)
  rw[if_pos (decide_eq_true (by omega)),bz,gE h1,oB]
  exact h4 _ (by rw[fW h1,w64 (by omega) (by omega)])
 ·rw[if_neg (by simp;omega)]
  have e:k+1=E.length:=by omega
  exact h4 _ (by rw[e,nC];rfl)
theorem xd(hn:∀s∈S,iB s)(hS:S.length≤60)(hb:∀e∈E,0≤e∧e≤1114111)(hE:E.length≤4096):∀(d k:Nat),k+d=E.length→∀m:List (Int×Int),ke m (firsts ((E.take k).map (mkI S)))→(firsts ((E.take k).map (mkI S))).length≤200→
  Loop (aP.b1 S E) (pieces (mkI S) E k,(k:Int),firsts ((E.take k).map (mkI S)),pk (mkI S) (E.take k),m)=if (firsts (E.map (mkI S))).length≤200 then aP.k2 (pieces (mkI S) E E.length) (firsts (E.map (mkI S))) (pk (mkI S) E)else some (none,3)
 |0,k,h,m,hK,hF=>by
  obtain rfl:k=E.length:=by omega
  rw[List.take_length]at hF ⊢
  rw[if_pos hF]
  refine bK ?_
  simp only[aP.b1]
  rw[if_neg (by simp)]
 |d+1,k,h,m,hK,hF=>by
  have hk:k < E.length:=by omega
  have hmask:cr S E[k]=some (mkI S E[k]):=aqV hn hS E[k]
  have htk:(E.take (k+1)).map (mkI S)=(E.take k).map (mkI S)++[mkI S E[k]]:=by rw[fx hk,List.map_append];rfl
  have hr:pk (mkI S) (E.take (k+1))=amK (mkI S) (pk (mkI S) (E.take k)) E[k]:=by rw[fx hk,pV]
  have hpre:=rB (f:=mkI S) (E:=E) (k+1)
  have hmem:mkI S E[k]∈firsts ((E.take (k+1)).map (mkI S)):=by rw[eP,htk];simp
  have hrl:=wE (f:=mkI S) (l:=E.take k)
  by_cases hin:mkI S E[k]∈firsts ((E.take k).map (mkI S))
  ·have e1:firsts ((E.take (k+1)).map (mkI S))=firsts ((E.take k).map (mkI S)):=by rw[htk,dW,uG,if_pos hin]
   have e2:pk (mkI S) (E.take (k+1))=pk (mkI S) (E.take k):=by rw[hr,amK,nZ,if_pos hin]
   have ih:=xd hn hS hb hE d (k+1) (by omega) m (by rw[e1];exact hK) (by rw[e1];exact hF)
   rw[← ih,e1,e2]
   refine bM ?_
   simp only[aP.b1]
   rw[if_pos (by simpa using hk),bz,gE hk,oB,hmask,oB,hK.some hin]
   simp only[Option.isSome_some,Bool.not_true,Bool.false_eq_true,if_false,gS]
   have hlt:=sP hin
   refine apH hk hb hE (by rw[hK.1];exact hF) (by omega) ?_
   rw[fW hk,pj hpre hmem,e1]
  ·have e1:firsts ((E.take (k+1)).map (mkI S))=firsts ((E.take k).map (mkI S))++[mkI S E[k]]:=by rw[htk,dW,uG,if_neg hin]
   have e2:pk (mkI S) (E.take (k+1))=pk (mkI S) (E.take k)++[E[k]]:=by rw[hr,amK,nZ,if_neg hin]
   have hK2:=hK.new hin
   have hstep:aP.b1 S E (pieces (mkI S) E k,(k:Int),firsts ((E.take k).map (mkI S)),pk (mkI S) (E.take k),m)=aP.k3 E (pieces (mkI S) E k) (k:Int) E[k] ((firsts ((E.take k).map (mkI S))).length:Int) (firsts ((E.take k).map (mkI S))++[mkI S E[k]]) (pk (mkI S) (E.take k)++[E[k]]) (kF (mkI S E[k]) ((firsts ((E.take k).map (mkI S))).length:Int) m):=by
    simp only[aP.b1]
    rw[if_pos (by simpa using hk),bz,gE hk,oB,hmask,oB,hK.none hin]
    simp only[Option.isSome_none,Bool.not_false,if_true]
    rw[cK (by omega),oB,cK (by omega),oB,hK.1]
   by_cases hf:(firsts ((E.take k).map (mkI S))).length < 200
   ·have ih:=xd hn hS hb hE d (k+1) (by omega) _ (by rw[e1];exact hK2) (by rw[e1,lA,List.length_singleton];omega)
    rw[← ih,e1,e2]
    refine bM (hstep.trans (apH hk hb hE (by rw[hK2.1,lA,List.length_singleton];omega) (by omega) ?_))
    rw[fW hk,pj hpre hmem,e1,wR hin]
   ·have hlen:=hpre.length_le
    rw[e1,lA,List.length_singleton]at hlen
    rw[if_neg (by omega)]
    refine cP (hstep.trans ?_)
    unfold aP.k3
    rw[if_pos (decide_eq_true (by rw[hK2.1,lA,List.length_singleton];omega))]
variable{S:List (List ah)}{E:List Int}
theorem find_eq{A:aS}(hl:A.M.length≤1000)(x:Int):bi A x=some (if x∈A.M then((pos A.M x:Nat):Int)else -1):=by
 unfold bi
 have hle:pos A.M x≤A.M.length:=List.idxOf_le_length
 have hrun:=mM (b:=bi.b1 A x) (i:=0) (n:=pos A.M x) (Nat.zero_le _) (fun j _ hj=>by
  have hjl:j < A.M.length:=by omega
  have hne:=yj hj
  rw[gE hjl]at hne
  simp only[bi.b1]
  rw[if_pos (by simpa using hjl),bz,gE hjl,oB,if_neg (by simpa using hne),eN (by omega)])
 simp only[Int.ofNat_zero,Int.natCast_zero]at hrun
 rw[hrun]
 by_cases hx:x∈A.M
 ·rw[if_pos hx]
  refine cP ?_
  simp only[bi.b1]
  have hlt:=sP hx
  rw[if_pos (decide_eq_true (by omega)),bz,qQ hx,oB,if_pos (by simp)]
 ·rw[if_neg hx]
  have:pos A.M x=A.M.length:=by
   unfold pos;exact List.idxOf_eq_length hx
  refine bK (R:=some (-1)) ?_
  simp only[bi.b1]
  rw[if_neg (by simp;omega)];rfl
theorem aks{k c:Nat}{L M:List Int}(hk:k < E.length)(hb:∀e∈E,0≤e∧e≤1114111)(hE:E.length≤4096)(hm:M.length≤200)(hc:c < 256)(hp:c=pos (firsts (E.map (mkI S))) (mkI S (bnd E k))):
  av.k3 E (pieces (mkI S) E k) (k:Int) E[k] (c:Int) M L=some (.next (pieces (mkI S) E (k+1),((k+1:Nat):Int),M,L)):=by
 unfold av.k3
 rw[if_neg (by simp;omega),eN (by omega)]
 have h4:∀h:Int,h=bnd E (k+1) - 1→av.k4 (pieces (mkI S) E k) (k:Int) E[k] (c:Int) M L h=some (.next (pieces (mkI S) E (k+1),((k+1:Nat):Int),M,L)):=by
  intro h e
  unfold av.k4
  rw[cK (by rw[qL];omega),oB,eN (by omega),ud hc,oN,← hp,fW hk,e]
 by_cases h1:k+1 < E.length
 ·have hx:=hb _ (gM h1)
  rw[if_pos (decide_eq_true (by omega)),bz,gE h1,oB]
  exact h4 _ (by rw[fW h1,w64 (by omega) (by omega)])
 ·rw[if_neg (by simp;omega)]
  have e:k+1=E.length:=by omega
  exact h4 _ (by rw[e,nC];rfl)
theorem tb(hn:∀s∈S,s.length < 9223372036854775807)(hS:S.length≤60)(hb:∀e∈E,0≤e∧e≤1114111)(hE:E.length≤4096):∀(d k:Nat),k+d=E.length→(firsts ((E.take k).map (mkI S))).length≤200→
  Loop (av.b1 S E) (pieces (mkI S) E k,(k:Int),firsts ((E.take k).map (mkI S)),pk (mkI S) (E.take k))=if (firsts (E.map (mkI S))).length≤200 then av.k2 S (pieces (mkI S) E E.length) (firsts (E.map (mkI S))) (pk (mkI S) E)else some (none,3)
 |0,k,h,hF=>by
  obtain rfl:k=E.length:=by omega
  rw[List.take_length]at hF ⊢
  rw[if_pos hF]
  refine bK ?_
  simp only[av.b1]
  rw[if_neg (by simp)]
 |d+1,k,h,hF=>by
  have hk:k < E.length:=by omega
  have hmask:bC S E[k]=some (mkI S E[k]):=vj hn hS E[k]
  have htk:(E.take (k+1)).map (mkI S)=(E.take k).map (mkI S)++[mkI S E[k]]:=by rw[fx hk,List.map_append];rfl
  have hr:pk (mkI S) (E.take (k+1))=amK (mkI S) (pk (mkI S) (E.take k)) E[k]:=by rw[fx hk,pV]
  have hpre:=rB (f:=mkI S) (E:=E) (k+1)
  have hmem:mkI S E[k]∈firsts ((E.take (k+1)).map (mkI S)):=by rw[eP,htk];simp
  have hrl:=wE (f:=mkI S) (l:=E.take k)
  have hfind:=find_eq (A:=⟨S,firsts ((E.take k).map (mkI S)),pk (mkI S) (E.take k)⟩) (by show(firsts _).length≤1000;omega) (mkI S E[k])
  simp only at hfind
  by_cases hin:mkI S E[k]∈firsts ((E.take k).map (mkI S))
  ·have e1:firsts ((E.take (k+1)).map (mkI S))=firsts ((E.take k).map (mkI S)):=by rw[htk,dW,uG,if_pos hin]
   have e2:pk (mkI S) (E.take (k+1))=pk (mkI S) (E.take k):=by rw[hr,amK,nZ,if_pos hin]
   have ih:=tb hn hS hb hE d (k+1) (by omega) (by rw[e1];exact hF)
   rw[← ih,e1,e2]
   refine bM ?_
   simp only[av.b1]
   rw[if_pos (by simpa using hk),bz,gE hk,oB,hmask,oB,hfind,oB,if_pos hin,if_neg (by simp)]
   have hlt:=sP hin
   refine aks hk hb hE hF (by omega) ?_
   rw[fW hk,pj hpre hmem,e1]
  ·have e1:firsts ((E.take (k+1)).map (mkI S))=firsts ((E.take k).map (mkI S))++[mkI S E[k]]:=by rw[htk,dW,uG,if_neg hin]
   have e2:pk (mkI S) (E.take (k+1))=pk (mkI S) (E.take k)++[E[k]]:=by rw[hr,amK,nZ,if_neg hin]
   have hstep:av.b1 S E (pieces (mkI S) E k,(k:Int),firsts ((E.take k).map (mkI S)),pk (mkI S) (E.take k))=av.k3 E (pieces (mkI S) E k) (k:Int) E[k] ((firsts ((E.take k).map (mkI S))).length:Int) (firsts ((E.take k).map (mkI S))++[mkI S E[k]]) (pk (mkI S) (E.take k)++[E[k]]):=by
    simp only[av.b1]
    rw[if_pos (by simpa using hk),bz,gE hk,oB,hmask,oB,hfind,oB,if_neg hin,if_pos (by decide),cK (by omega),oB,cK (by omega),oB]
   by_cases hf:(firsts ((E.take k).map (mkI S))).length < 200
   ·have ih:=tb hn hS hb hE d (k+1) (by omega) (by rw[e1,lA,List.length_singleton];omega)
    rw[← ih,e1,e2]
    refine bM (hstep.trans (aks hk hb hE (by rw[lA,List.length_singleton];omega) (by omega) ?_))
    rw[fW hk,pj hpre hmem,e1,wR hin]
   ·have hlen:=hpre.length_le
    rw[e1,lA,List.length_singleton]at hlen
    rw[if_neg (by omega)]
    refine cP (hstep.trans ?_)
    unfold av.k3
    rw[if_pos (decide_eq_true (by rw[lA,List.length_singleton];omega))]
theorem wm(hp:E.Pairwise (· < ·))(hE:∀e∈E,e≤1114111):∀(d i:Nat),i+d≤E.length→bnd E i≤bnd E (i+d)
 |0,i,h=>Int.le_refl _
 |d+1,i,h=>by
  have h1:=wm hp hE d i (by omega)
  have h2:=ajQ hp hE (k:=i+d) (by omega)
  rw[← fW (by omega)]at h2
  rw[← Nat.add_assoc];omega
theorem am1(hp:E.Pairwise (· < ·))(hE:∀e∈E,0≤e∧e≤1114111)(h0:(0:Int)∈E){r:Int}(hr:0≤r)(hr2:r≤1114111):∃k,k < E.length∧bnd E k≤r∧r < bnd E (k+1):=by
 have hpos:0 < E.length:=List.length_pos_of_mem h0
 have hz:bnd E 0=0:=by
  rw[fW hpos]
  obtain⟨j,hj,e⟩:=List.getElem_of_mem h0
  have h1:=hE _ (gM hpos)
  rcases Nat.eq_zero_or_pos j with q|q
  ·subst q;exact e
  ·have:=(List.pairwise_iff_getElem.1 hp) 0 j hpos hj q
   omega
 have key:∀n,n≤E.length→(∃k,k < n∧bnd E k≤r∧r < bnd E (k+1))∨bnd E n≤r:=by
  intro n
  induction n with
  |zero=>exact fun _=>.inr (by omega)
  |succ n ih=>
   intro hn
   rcases ih (by omega)with⟨k,h1,h2⟩|h
   ·exact .inl ⟨k,by omega,h2⟩
   ·by_cases hc:bnd E (n+1)≤r
    ·exact .inr hc
    ·exact .inl ⟨n,by omega,h,by omega⟩
 rcases key E.length (nR _)with h|h
 ·exact h
 ·rw[nC]at h;omega
theorem vy{f:Int→Int}(hp:E.Pairwise (· < ·))(hE:∀e∈E,0≤e∧e≤1114111){k:Nat}(hk:k < E.length){r:Int}(h1:bnd E k≤r)(h2:r < bnd E (k+1)):∀j,j≤E.length→uB (pieces f E j) r=if k < j then UInt8.ofNat (pos (firsts (E.map f)) (f (bnd E k)))else 0
 |0,_=>by rw[if_neg (by omega)];rfl
 |j+1,hj=>by
  rw[oN,lR,vy hp hE hk h1 h2 j (by omega)]
  have hm:=fun d i=>wm hp (fun e he=>(hE e he).2) d i
  by_cases e:j=k
  ·subst e
   rw[if_pos ⟨h1,by show r≤bnd E (j+1) - 1;omega⟩,if_pos (by omega)]
  ·rw[if_neg]
   ·by_cases hlt:k < j
    ·rw[if_pos hlt,if_pos (by omega)]
    ·rw[if_neg hlt,if_neg (by omega)]
   ·show ¬ (bnd E j≤r∧r≤bnd E (j+1) - 1)
    rintro⟨a,b⟩
    rcases Nat.lt_or_ge j k with q|q
    ·have:=hm (k - (j+1)) (j+1) (by omega)
     rw[show j+1+(k - (j+1))=k by omega]at this;omega
    ·have:=hm (j - (k+1)) (k+1) (by omega)
     rw[show k+1+(j - (k+1))=j by omega]at this;omega
theorem akJ{f:Int→Int}(hp:E.Pairwise (· < ·))(hE:∀e∈E,0≤e∧e≤1114111):∀x∈pieces f E E.length,OkP x:=by
 intro x hx
 unfold pieces at hx
 obtain⟨i,hi,rfl⟩:=List.mem_map.1 hx
 have hi2:i < E.length:=List.mem_range.1 hi
 have h1:=ajQ hp (fun e he=>(hE e he).2) hi2
 have h2:=hE _ (gM hi2)
 unfold OkP
 simp only
 rw[← fW hi2]at h1 h2
 refine⟨h2.1,by omega,?_⟩
 by_cases h3:i+1 < E.length
 ·have:=hE _ (gM h3)
  rw[fW h3];omega
 ·rw[show i+1=E.length by omega,nC];omega
theorem akm{P:Nat→Prop}{n:Nat}(h:∃j,j < n∧¬ P j):∃j,j < n∧¬ P j∧∀i,i < j→P i:=by
 obtain⟨j,hj⟩:=h
 induction j using Nat.strongRecOn with
 |_ j ih=>
  by_cases hc:∃i,i < j∧¬ P i
  ·obtain⟨i,hi,hP⟩:=hc
   exact ih i hi ⟨by omega,hP⟩
  ·exact⟨j,hj.1,hj.2,fun i hi=>Classical.byContradiction fun hP=>hc ⟨i,hi,hP⟩⟩
theorem rj:bw=bV:=rfl
theorem yT{l:List ah}(hl:l.length≤1000000):∃out e,cW l=some (out,e)∧bH l=some (out,e)∧iB out∧out.length≤l.length∧(e=0→∀t,In out t↔In l t)∧(e≠0→e=1∧out=[]∧¬ ∀x∈l,Ok x):=by
 by_cases hok:∀x∈l,Ok x
 ·obtain⟨o,h1,h2,h3,h4⟩:=aj0 hok (by omega)
  obtain⟨p,q1,q2,q3⟩:=af0 hok (by omega)
  have e:p=o:=iB.unique q2 h2 fun r=>by rw[q3,h3]
  subst e
  exact⟨p,0,h1,q1,h2,h4,fun _=>h3,fun h=>absurd rfl h⟩
 ·exact⟨[],1,aez hok (by omega),adK hok (by omega),od,by simp,fun h=>by simp at h,fun _=>⟨rfl,rfl,hok⟩⟩
theorem uh{l out:List ah}{e:Int}(h:iB l)(ho:iB out)(h0:e=0→∀t,In out t↔In l t)(h1:e≠0→e=1∧out=[]∧¬ ∀x∈l,Ok x):e=0∧out=l:=by
 by_cases he:e=0
 ·exact⟨he,iB.unique ho h (h0 he)⟩
 ·exact absurd h.1 (h1 he).2.2
structure Good(S:List (List ah)):Prop where
 norm:∀s∈S,iB s
 few:S.length≤60
 small:S.flatten.length≤1200
theorem Good.ok{S:List (List ah)}(h:Good S):∀x∈S.flatten,Ok x:=by
 intro x hx
 obtain⟨s,hs,hx⟩:=List.mem_flatten.1 hx
 exact(h.norm s hs).1 x hx
noncomputable def edg(S:List (List ah)):List Int:=(aZ S).getD []
theorem fE{S:List (List ah)}(h:Good S):aZ S=some (edg S)∧aF S=some (edg S)∧(edg S).Pairwise (· < ·)∧(∀e,e∈edg S↔Edge S.flatten e)∧(edg S).length≤2*S.flatten.length+1:=by
 obtain⟨E,h1,h2,h3,h4,h5⟩:=afE h.ok (by have:=h.small;omega) (by have:=h.few;omega)
 have:edg S=E:=by unfold edg;rw[h1];rfl
 rw[this];exact⟨h1,h2,h3,h4,h5⟩
theorem km{S:List (List ah)}(h:Good S):∀e∈edg S,0≤e∧e≤1114111:=fun e he=>vz h.ok ((fE h).2.2.2.1 e |>.1 he)
noncomputable def cls(S:List (List ah)):List Int:=firsts ((edg S).map (mkI S))
noncomputable def lst(S:List (List ah)):List Int:=pk (mkI S) (edg S)
noncomputable def prp(S:List (List ah)):List bZ:=pieces (mkI S) (edg S) (edg S).length
def nB:Nat:=4352
theorem wx:nB=4352:=by unfold nB;rfl
def Fit(S:List (List ah)):Prop:=(cls S).length≤200∧(firsts (fC (prp S) nB)).length≤256
noncomputable def kn(S:List (List ah))(r:Int):Nat:=pos (cls S) (mkI S r)
theorem ta{S:List (List ah)}(h:Good S){k:Nat}(hk:k < (edg S).length){r:Int}(h1:bnd (edg S) k≤r)(h2:r < bnd (edg S) (k+1))(h3:r≤1114111):mkI S r=mkI S (bnd (edg S) k):=by
 have hs:=fE h
 rw[fW hk]at h1 ⊢
 unfold mkI
 have key:∀n,kG S r n=kG S (edg S)[k] n:=by
  intro n
  induction n with
  |zero=>rfl
  |succ n ih=>
   simp only[kG,ih]
   by_cases hn:n < S.length
   ·have hg:S.getD n []=S[n]:=by simp[gD,gE hn]
    rw[hg,wH h.ok hs.2.2.1 hs.2.2.2.1 (fun x hx=>si hn hx) hk h1 h2 h3]
   ·have hg:S.getD n []=[]:=by simp[gD,gN (Nat.le_of_not_lt hn)]
    rw[hg];rfl
 rw[key]
theorem tS{S:List (List ah)}(h:Good S){r:Int}(hr:0≤r)(hr2:r≤1114111):∃k,k < (edg S).length∧bnd (edg S) k≤r∧r < bnd (edg S) (k+1):=am1 (fE h).2.2.1 (km h) ((fE h).2.2.2.1 0 |>.2 (.inl rfl)) hr hr2
theorem xa{S:List (List ah)}(h:Good S){r:Int}(hr:0≤r)(hr2:r≤1114111):mkI S r∈cls S:=by
 obtain⟨k,hk,h1,h2⟩:=tS h hr hr2
 rw[ta h hk h1 h2 hr2,fW hk]
 unfold cls
 rw[eP]
 exact List.mem_map_of_mem (gM hk)
theorem acZ{S:List (List ah)}(h:Good S){r:Int}(hr:0≤r)(hr2:r≤1114111):uB (prp S) r=UInt8.ofNat (kn S r):=by
 obtain⟨k,hk,h1,h2⟩:=tS h hr hr2
 unfold prp kn
 rw[vy (fE h).2.2.1 (km h) hk h1 h2 _ (nR _),if_pos hk,ta h hk h1 h2 hr2];rfl
theorem aqd{S:List (List ah)}(h:Good S):∀x∈prp S,OkP x:=akJ (fE h).2.2.1 (km h)
theorem atS{S:List (List ah)}(h:Good S):(prp S).length≤2401:=by
 have:=(fE h).2.2.2.2
 have:=h.small
 unfold prp;rw[qL];omega
theorem ad7{S:List (List ah)}(h:Good S):(prp S).length≤4096:=by have:=atS h;omega
theorem zJ{N:Nat}(hN:N=4352){l:List bZ}(ho:∀x∈l,OkP x)(hl:l.length≤4096):
  ((firsts (fC l N)).length≤256→∃like',pE l like' N∧aY l=some (some ⟨like',firsts (fC l N)⟩,0))∧(¬ (firsts (fC l N)).length≤256→aY l=some (none,3)):=by
 have h:=anm hN ho hl
 constructor
 ·intro f;rw[if_pos f]at h;exact h
 ·intro f;rw[if_neg f]at h;exact h
theorem apK{S:List (List ah)}(h:Good S):(Fit S→∃like,pE (prp S) like nB∧aP.k1 S=some (some ⟨⟨like,firsts (fC (prp S) nB)⟩,cls S,lst S⟩,0))∧(¬ Fit S→aP.k1 S=some (none,3)):=by
 have hs:=fE h
 have hsm:=h.small
 have hloop:=xd (E:=edg S) h.norm h.few (km h) (by omega) (edg S).length 0 (by omega) [] sW (by simp[firsts])
 have hk1:aP.k1 S=if (cls S).length≤200 then aP.k2 (prp S) (cls S) (lst S)else some (none,3):=by
  unfold aP.k1
  rw[hs.1,oB];exact hloop
 have hb:=zJ (N:=nB) wx (aqd h) (ad7 h)
 rw[hk1]
 constructor
 ·rintro⟨f1,f2⟩
  obtain⟨like,b1,b2⟩:=hb.1 f2
  refine⟨like,b1,?_⟩
  rw[if_pos f1]
  unfold aP.k2
  rw[b2,oB];rfl
 ·intro hf
  by_cases f1:(cls S).length≤200
  ·have f2:¬ (firsts (fC (prp S) nB)).length≤256:=fun f2=>hf ⟨f1,f2⟩
   rw[if_pos f1]
   unfold aP.k2
   rw[hb.2 f2,oB];rfl
  ·rw[if_neg f1]
open Classical in
theorem aj9{S:List (List ah)}(h:Good S):av.k1 S=some (if Fit S then(some ⟨S,cls S,lst S⟩,0)else(none,3)):=by
 have hs:=fE h
 have hsm:=h.small
 have hloop:=tb (S:=S) (E:=edg S) (fun s hs=>by have:=(h.norm s hs).len;omega) h.few (km h) (by omega) (edg S).length 0 (by omega) (by simp[firsts])
 have hk1:av.k1 S=if (cls S).length≤200 then av.k2 S (prp S) (cls S) (lst S)else some (none,3):=by
  unfold av.k1
  rw[hs.2.1,oB];exact hloop
 obtain⟨x,hx⟩:=ab9 (N:=nB) wx (aqd h) (ad7 h)
 rw[hk1]
 by_cases f1:(cls S).length≤200
 ·rw[if_pos f1]
  unfold av.k2
  rw[hx,oB]
  by_cases f2:(firsts (fC (prp S) nB)).length≤256
  ·have hF:Fit S:=⟨f1,f2⟩
   rw[if_pos f2,if_pos hF]
   cases x <;> rfl
  ·have hF:¬ Fit S:=fun h=>f2 h.2
   rw[if_neg f2,if_neg hF]
   cases x <;> rfl
 ·have hF:¬ Fit S:=fun h=>f1 h.1
  rw[if_neg f1,if_neg hF]
section
variable{α K K':Type}[DecidableEq K][DecidableEq K']
theorem iP[DecidableEq α]:∀{l m:List α},l.Nodup→(∀x∈l,x∈m)→l.length≤m.length
 | [],m,_,_=>by simp
 |a::l,m,h,hs=>by
  rw[List.nodup_cons]at h
  have ha:=hs a (by simp)
  have ih:=iP (l:=l) (m:=m.erase a) h.2 fun x hx=>by
   have hne:x≠a:=fun e=>h.1 (e ▸ hx)
   exact(List.mem_erase_of_ne hne).2 (hs x (by simp[hx]))
  rw[List.length_erase_of_mem ha]at ih
  have:=List.length_pos_of_mem ha
  simp;omega
theorem ana{f:α→K}{l:List α}:(pk f l).Sublist l:=by
 induction l using mD with
 |h0=>exact List.Sublist.refl _
 |h1 l a ih=>
  rw[pV,amK]
  split
  ·exact ih.trans (List.sublist_append_left _ _)
  ·exact List.Sublist.append ih (List.Sublist.refl _)
theorem aoL{f:α→K}{l:List α}{x:α}(h:x∈l):∃y,y∈pk f l∧f y=f x:=by
 have:f x∈(pk f l).map f:=by rw[nZ,eP];exact List.mem_map_of_mem h
 obtain⟨y,hy,e⟩:=List.mem_map.1 this
 exact⟨y,hy,e⟩
theorem count_le{f:α→K}{g:α→K'}{l l':List α}(hs:∀x∈l',x∈l)(h:∀x∈l,∀y∈l,f x=f y→g x=g y):(firsts (l'.map g)).length≤(firsts (l.map f)).length:=by
 rw[← wE (f:=f) (l:=l),← List.length_map (f:=g)]
 refine iP nD fun z hz=>?_
 rw[eP]at hz
 obtain⟨x,hx,rfl⟩:=List.mem_map.1 hz
 obtain⟨y,hy,e⟩:=aoL (f:=f) (hs x hx)
 exact List.mem_map.2 ⟨y,hy,h y (ana.subset hy) x (hs x hx) e⟩
end
theorem pO{S:List (List ah)}(h:Good S){x:Int}(hx:0≤x∧x≤1114111):kn S x < (cls S).length:=sP (xa h hx.1 hx.2)
theorem tu{S:List (List ah)}(h:Good S){k j:Nat}(hk:k < 4352)(hj:j < 256):(cR (prp S) k).toList[j]? =some (UInt8.ofNat (kn S ((k*256+j:Nat):Int))):=by
 rw[ky _ _ _ hj,acZ h (by omega) (by omega)]
theorem ofNat_inj{a b:Nat}(ha:a < 256)(hb:b < 256)(h:UInt8.ofNat a=UInt8.ofNat b):a=b:=by
 have:=congrArg UInt8.toNat h
 rw[UInt8.toNat_ofNat',UInt8.toNat_ofNat']at this
 omega
theorem awf{k j:Nat}(hk:k < 4352)(hj:j < 256):0≤((k*256+j:Nat):Int)∧((k*256+j:Nat):Int)≤1114111:=by omega
def IsA(S:List (List ah))(A:aQ):Prop:=∃like,pE (prp S) like nB∧A=⟨⟨like,firsts (fC (prp S) nB)⟩,cls S,lst S⟩
def inR(r:Int):Prop:=0≤r∧r≤1114111
instance (r:Int):Decidable (inR r):=inferInstanceAs (Decidable (_∧_))
noncomputable def ofI(S:List (List ah))(r:Int):Int:=if inR r then(kn S r:Int)else -1
variable{S:List (List ah)}{A:aQ}
theorem axx(h:Good S)(hF:Fit S)(hA:IsA S A)(r:Int):eH A r=some (ofI S r):=by
 obtain⟨like,hL,rfl⟩:=hA
 unfold eH ofI
 by_cases hr:inR r
 ·obtain⟨h0,h1⟩:=hr
  rw[if_neg (by simp;omega),if_pos ⟨h0,h1⟩]
  simp only
  rw[wx]at hL
  have hFb:=hF.2
  have hT:=zz (N:=4352) rfl hL (by rw[wx]at hFb;exact hFb) h0 h1
  rw[wx,hT,oB,acZ h h0 h1]
  have hlt:=pO h ⟨h0,h1⟩
  have hc:=hF.1
  rw[UInt8.toNat_ofNat',Nat.mod_eq_of_lt (by omega),w64 (by omega) (by omega)]
 ·rw[if_neg hr]
  unfold inR at hr
  rw[if_pos (by simp;omega)]
theorem anh(hA:IsA S A):dS A=some ((cls S).length:Int):=by
 obtain⟨like,hL,rfl⟩:=hA;rfl
theorem zt{a:List ah}(hl:a.length < 9223372036854775807):bV a a=some true:=by rw[abX hl];simp
theorem ae7(h:Good S):aP S=aP.k1 S:=by
 unfold aP
 have hf:=h.few
 rw[if_neg (by simp;omega)]
 have hrun:=mM (b:=aP.b2 S) (i:=0) (n:=S.length) (Nat.zero_le _) (fun j _ hj=>by
  have hn:=h.norm _ (gM hj)
  have hlen:=hn.len
  have hsm:S[j].length≤S.flatten.length:=by have:=zl hj;omega
  have hs2:=h.small
  obtain⟨out,e,m1,m2,m3,m4,m5,m6⟩:=yT (l:=S[j]) (by omega)
  obtain⟨e1,e2⟩:=uh hn m3 m5 m6
  subst e1 e2
  simp only[aP.b2]
  rw[if_pos (by simpa using hj),bz,gE hj,oB,m1,oB,if_neg (by simp),rj,zt (a:=S[j]) (by omega),oB,oB,if_neg (by simp),eN (by omega)])
 simp only[Int.ofNat_zero,Int.natCast_zero]at hrun
 rw[hrun]
 refine bK ?_
 simp only[aP.b2]
 rw[if_neg (by simp)]
theorem alw(h:Good S):av S=av.k1 S:=by
 unfold av
 have hf:=h.few
 rw[if_neg (by simp;omega)]
 have hrun:=mM (b:=av.b2 S) (i:=0) (n:=S.length) (Nat.zero_le _) (fun j _ hj=>by
  have hn:=h.norm _ (gM hj)
  have hsm:S[j].length≤S.flatten.length:=by have:=zl hj;omega
  have hs2:=h.small
  obtain⟨out,e,m1,m2,m3,m4,m5,m6⟩:=yT (l:=S[j]) (by omega)
  obtain⟨e1,e2⟩:=uh hn m3 m5 m6
  subst e1 e2
  simp only[av.b2]
  rw[if_pos (by simpa using hj),bz,gE hj,oB,m2,oB,zt (a:=S[j]) (by omega),oB,if_neg (by simp),eN (by omega)])
 simp only[Int.ofNat_zero,Int.natCast_zero]at hrun
 rw[hrun]
 refine bK ?_
 simp only[av.b2]
 rw[if_neg (by simp)]
theorem art(h:Good S)(hF:Fit S):∃A,IsA S A∧aP S=some (some A,0):=by
 obtain⟨like,h1,h2⟩:=(apK h).1 hF
 exact⟨_,⟨like,h1,rfl⟩,(ae7 h).trans h2⟩
theorem aiM(h:Good S)(hF:¬ Fit S):aP S=some (none,3):=(ae7 h).trans ((apK h).2 hF)
theorem aoy(h:Good S)(hF:Fit S):av S=some (some ⟨S,cls S,lst S⟩,0):=by
 rw[alw h,aj9 h,if_pos hF]
noncomputable section
def atZ(d:Nat):UInt8:=if d < 10 then UInt8.ofNat (48+d)else UInt8.ofNat (55+d)
def dv7(c:UInt8):Nat:=if c.toNat < 58 then c.toNat - 48 else c.toNat - 55
theorem ad8:∀d:Fin 16,dv7 (atZ d.1)=d.1∧atZ d.1≠125∧([48,49,50,51,52,53,54,55,56,57,65,66,67,68,69,70]:Str)[d.1]? =some (atZ d.1):=by decide
theorem uY{n:Nat}(h:n < 16):ou n=[atZ n]:=by rw[ou,dif_pos h];rfl
theorem ai2{n:Nat}(h:¬ n < 16):ou n=ou (n/16)++[atZ (n%16)]:=by rw[ou,dif_neg h,uY (n:=n%16) (by omega)]
def awA(l:Str):Nat:=l.foldl (fun a c=>a*16+dv7 c) 0
theorem jR:∀(k n:Nat),n < 16^(k+1)→(ou n).length≤k+1∧(∀c∈ou n,c≠125)∧awA (ou n)=n
 |k,n,h=>by
  by_cases h16:n < 16
  ·obtain⟨h1,h2,_⟩:=ad8 ⟨n,h16⟩
   simp only at h1 h2
   rw[uY h16]
   exact⟨by simp,fun c hc=>by rw[List.mem_singleton.1 hc];exact h2,by simp[awA,h1]⟩
  ·cases k with
   |zero=>omega
   |succ k=>
    have hp:n/16 < 16^(k+1):=by rw[Nat.pow_succ]at h;omega
    obtain⟨g1,g2,g3⟩:=jR k (n/16) hp
    obtain⟨h1,h2,_⟩:=ad8 ⟨n%16,by omega⟩
    simp only at h1 h2
    rw[ai2 h16]
    refine⟨by simp;omega,fun c hc=>?_,?_⟩
    ·rcases List.mem_append.1 hc with hc|hc
     ·exact g2 c hc
     ·rw[List.mem_singleton.1 hc];exact h2
    ·have:awA (ou (n/16)++[atZ (n%16)])=awA (ou (n/16))*16+dv7 (atZ (n%16)):=by unfold awA;rw[List.foldl_append];rfl
     rw[this,g3,h1];omega
theorem an7{n m:Nat}(hn:n≤1114111)(hm:m≤1114111)(h:ou n=ou m):n=m:=by
 have h1:=(jR 5 n (by omega)).2.2
 rw[h,(jR 5 m (by omega)).2.2]at h1
 exact h1.symm
def xS(x:ah):Str:=wb x.Low++if x.High=x.Low then []else 45::wb x.High
theorem pY{n:Int}(h1:n≤1114111):(wb n).length≤10:=by
 have:=(jR 5 n.toNat (by omega)).1
 unfold wb;simp only[lA,lC,List.length_nil];omega
theorem vO(l:List ah):lp l=91::(l.flatMap xS++[93]):=rfl
theorem acU{l:List ah}(ho:∀x∈l,Ok x)(hl:l.length≤1200000):nI l=some (lp l):=by
 unfold nI
 rw[if_pos ⟨hl,fun x hx=>by have:=ho x hx;unfold Ok at this;omega⟩]
theorem aeO{c:UInt8}:∀{A B R S:Str},(∀x∈A,x≠c)→(∀x∈B,x≠c)→A++c::R=B++c::S→A=B∧R=S
 | [],[],R,S,_,_,h=>⟨rfl,by simpa using h⟩
 | [],b::B,R,S,_,hb,h=>by
  simp only[List.nil_append,List.cons_append,List.cons.injEq]at h
  exact absurd h.1.symm (hb b (by simp))
 |a::A,[],R,S,ha,_,h=>by
  simp only[List.nil_append,List.cons_append,List.cons.injEq]at h
  exact absurd h.1 (ha a (by simp))
 |a::A,b::B,R,S,ha,hb,h=>by
  simp only[List.cons_append,List.cons.injEq]at h
  obtain⟨h1,h2⟩:=aeO (fun x hx=>ha x (List.mem_cons_of_mem _ hx)) (fun x hx=>hb x (List.mem_cons_of_mem _ hx)) h.2
  exact⟨by rw[h.1,h1],h2⟩
theorem uT{n m:Int}{A B:Str}(hn:0≤n∧n≤1114111)(hm:0≤m∧m≤1114111)(h:wb n++A=wb m++B):n=m∧A=B:=by
 unfold wb at h
 simp only[List.cons_append,List.nil_append,List.append_assoc,List.cons.injEq,true_and]at h
 obtain⟨h1,h2⟩:=aeO (jR 5 n.toNat (by omega)).2.1 (jR 5 m.toNat (by omega)).2.1 h
 have:=an7 (by omega) (by omega) h1
 exact⟨by omega,h2⟩
theorem yX(l:List ah):∃c r,l.flatMap xS++[93]=c::r∧c≠45:=by
 cases l with
 |nil=>exact⟨93,[],rfl,by decide⟩
 |cons x l=>exact⟨92,_,rfl,by decide⟩
theorem aeC:∀{l m:List ah},(∀x∈l,Ok x)→(∀x∈m,Ok x)→l.flatMap xS++[93]=m.flatMap xS++[93]→l=m
 | [],[],_,_,_=>rfl
 | [],y::m,_,_,h=>by
  have h2:(93:UInt8)::[]=92::_:=h
  simp at h2
 |x::l,[],_,_,h=>by
  have h2:(92:UInt8)::_=93::[]:=h
  simp at h2
 |x::l,y::m,hl,hm,h=>by
  have hx:=hl x (by simp)
  have hy:=hm y (by simp)
  unfold Ok at hx hy
  simp only[List.flatMap_cons]at h
  unfold xS at h
  simp only[List.append_assoc]at h
  obtain⟨h1,h2⟩:=uT (by omega) (by omega) h
  obtain⟨c,r,hc,hc2⟩:=yX l
  obtain⟨d,q,hd,hd2⟩:=yX m
  have ih:=aeC (l:=l) (m:=m) (fun z hz=>hl z (by simp[hz])) (fun z hz=>hm z (by simp[hz]))
  unfold xS at ih hc hd
  by_cases ex:x.High=x.Low
  ·rw[if_pos ex,List.nil_append]at h2
   by_cases ey:y.High=y.Low
   ·rw[if_pos ey,List.nil_append]at h2
    rw[ih h2]
    have:x=y:=by cases x;cases y;simp_all
    rw[this]
   ·rw[if_neg ey,hc]at h2
    simp only[List.cons_append,List.cons.injEq]at h2
    exact absurd h2.1 hc2
  ·rw[if_neg ex]at h2
   by_cases ey:y.High=y.Low
   ·rw[if_pos ey,List.nil_append,hd]at h2
    simp only[List.cons_append,List.cons.injEq]at h2
    exact absurd h2.1.symm hd2
   ·rw[if_neg ey]at h2
    simp only[List.cons_append,List.cons.injEq,true_and]at h2
    obtain⟨h3,h4⟩:=uT (by omega) (by omega) h2
    rw[ih h4]
    have:x=y:=by cases x;cases y;simp_all
    rw[this]
theorem ac1{l m:List ah}(hl:∀x∈l,Ok x)(hm:∀x∈m,Ok x)(h:lp l=lp m):l=m:=by
 rw[vO,vO]at h
 simp only[List.cons.injEq,true_and]at h
 exact aeC hl hm h
end
noncomputable section
theorem aD.ind{P:aD→Prop}(h:∀n:aD,(∀k∈n.Kids,P k)→P n):∀n,P n:=by
 intro n
 have key:∀m (n:aD),SizeOf.sizeOf n < m→P n:=by
  intro m
  induction m with
  |zero=>intro n hn;omega
  |succ m ih=>
   intro n hn
   refine h n fun k hk=>ih k ?_
   have h1:=List.sizeOf_lt_of_mem hk
   cases n with
   |mk a b ks=>
    simp only[aD.mk.sizeOf_spec]at hn h1
    omega
 exact key _ n (Nat.lt_succ_self _)
mutual
def dp:aD→Nat
 |⟨_,_,ks⟩=>1+dQ ks
def dQ:List aD→Nat
 | []=>0
 |x::xs=>dp x+dQ xs
end
theorem jO(n:aD):dp n=1+dQ n.Kids:=by cases n;rw[dp]
theorem yJ:∀{l:List aD} {x:aD},x∈l→dp x≤dQ l
 |y::l,x,h=>by
  rw[dQ]
  rcases List.mem_cons.1 h with rfl|h
  ·omega
  ·have:=yJ h;omega
theorem fJ(n:aD):1≤dp n:=by rw[jO];omega
theorem dT{n x:aD}(h:x∈n.Kids):dp x < dp n:=by
 have:=yJ h
 rw[jO n];omega
theorem ej{α:Type}{l:List α}{s:Nat}(h:s < l.length):l.take (s+1)=l.take s++[l[s]]:=by rw[List.take_add_one,gE h];rfl
mutual
def jU:aD→Nat→Int→Nat
 |⟨_,_,ks⟩,most,deep=>min (lL ks most deep 1) most
def lL:List aD→Nat→Int→Nat→Nat
 | [],_,_,k=>k
 |x::xs,most,deep,k=>if most≤k∨deep≤0 then most else lL xs most deep (k+jU x (most - k) (deep - 1))
end
theorem pq(n:aD)(most:Nat)(deep:Int):jU n most deep=min (lL n.Kids most deep 1) most:=by cases n;rw[jU]
theorem zi(n:aD)(most:Nat)(deep:Int):jU n most deep≤most:=by rw[pq];exact Nat.min_le_right _ _
theorem vk:∀(l:List aD) (most:Nat) (deep:Int) (k:Nat),1≤k→k≤most→1≤lL l most deep k
 | [],most,deep,k,h1,h2=>by rw[lL];exact h1
 |x::l,most,deep,k,h1,h2=>by
  rw[lL]
  split
  ·omega
  ·exact vk l most deep _ (by omega) (by have:=zi x (most - k) (deep - 1);omega)
theorem ahb(n:aD){most:Nat}(deep:Int)(h:1≤most):1≤jU n most deep:=by
 have:=vk n.Kids most deep 1 (nR _) h
 rw[pq];omega
theorem tR:∀(n:aD) (most:Nat) (deep:Int),jU n most deep < most→jU n most deep=dp n:=by
 refine aD.ind fun n ih most deep h=>?_
 have loop:∀(l:List aD) (k:Nat),(∀x∈l,x∈n.Kids)→lL l most deep k < most→lL l most deep k=k+dQ l:=by
  intro l
  induction l with
  |nil=>intro k _ h;simp[lL,dQ]
  |cons x l ihl=>
   intro k hs h
   rw[lL]at h ⊢
   by_cases hc:most≤k∨deep≤0
   ·rw[if_pos hc]at h;omega
   ·rw[if_neg hc]at h ⊢
    have h1:=ihl _ (fun y hy=>hs y (by simp[hy])) h
    rw[h1]at h ⊢
    have h2:=ih x (hs x (by simp)) (most - k) (deep - 1) (by omega)
    rw[h2,dQ];omega
 rw[pq]at h ⊢
 have:=loop n.Kids 1 (fun _ hx=>hx) (by omega)
 rw[jO]
 omega
theorem aqQ:∀(n:aD) (fu most:Nat) (deep:Int),dp n≤fu→1≤most→most≤1000→0≤deep→deep≤1000→bf.r fu n (most:Int) deep=some ((jU n most deep:Nat):Int):=by
 refine aD.ind fun n ih=>?_
 intro fu most deep hfu h1 h2 h3 h4
 have hp:=fJ n
 obtain⟨fu,rfl⟩:∃k,fu=k+1:=⟨fu - 1,by omega⟩
 have loop:∀(l:List aD) (i k:Nat),n.Kids.drop i=l→i < k→k≤most→Loop (bf.b1 (bf.r fu) n (most:Int) deep) ((k:Int),(i:Int))=some ((min (lL l most deep k) most:Nat):Int):=by
  intro l
  induction l with
  |nil=>
   intro i k hl hk1 hk2
   have hi:n.Kids.length≤i:=List.drop_eq_nil_iff.1 hl
   refine bK ?_
   simp only[bf.b1]
   rw[if_neg (by simp;omega)]
   unfold bf.k1 mn
   rw[lL,if_neg (by omega),show min k most=k by omega]
  |cons x l ihl=>
   intro i k hl hk1 hk2
   have hil:i < n.Kids.length:=by
    rcases Nat.lt_or_ge i n.Kids.length with h|h
    ·exact h
    ·rw[List.drop_eq_nil_of_le h]at hl;cases hl
   have hd:=List.drop_eq_getElem_cons hil
   rw[hl]at hd
   simp only[List.cons.injEq]at hd
   obtain⟨hx,hd⟩:=hd
   rw[lL]
   by_cases hstop:most≤k∨deep≤0
   ·rw[if_pos hstop,Nat.min_self]
    refine cP ?_
    simp only[bf.b1]
    rw[if_pos (by simpa using hil),if_pos (by simp;omega)]
   ·have hm:=zi x (most - k) (deep - 1)
    have hm1:=ahb x (deep - 1) (most:=most - k) (by omega)
    rw[if_neg hstop,← ihl (i+1) (k+jU x (most - k) (deep - 1)) hd.symm (by omega) (by omega)]
    refine bM ?_
    simp only[bf.b1]
    have e1:IntKind.i64.wrap ((most:Int) - (k:Int))=((most - k:Nat):Int):=by rw[w64 (by omega) (by omega)];omega
    have e2:IntKind.i64.wrap (deep - 1)=deep - 1:=w64 (by omega) (by omega)
    have hkid:=ih x (by rw[hx];exact gM hil) fu (most - k) (deep - 1) (by have:=dT (n:=n) (gM hil);rw[hx];omega) (by omega) (by omega) (by omega) (by omega)
    rw[if_pos (by simpa using hil),if_neg (by simp;omega),bz,gE hil,oB,e1,e2,← hx,hkid,oB,w64 (n:=(k:Int)+((jU x (most - k) (deep - 1):Nat):Int)) (by omega) (by omega),eN (by omega)]
    rfl
 simp only[bf.r]
 rw[pq]
 exact loop n.Kids 0 1 rfl (by omega) h1
theorem yS{ρ:Type}{b:Int→Option (Step Int ρ)}{P:Nat→Prop}{n:Nat}{bad:ρ}{R:Option ρ}(h:∀j:Nat,j < n→(P j∧b (j:Int)=some (.next ((j+1:Nat):Int)))∨(¬ P j∧b (j:Int)=some (.done bad)))(he:b (n:Int)=R.map Step.done):
  ((∀j,j < n→P j)∧Loop b 0=R)∨((¬ ∀j,j < n→P j)∧Loop b 0=some bad):=by
 have key:∀d k:Nat,k+d=n→((∀j,k≤j→j < n→P j)∧Loop b (k:Int)=R)∨((¬ ∀j,k≤j→j < n→P j)∧Loop b (k:Int)=some bad):=by
  intro d
  induction d with
  |zero=>
   intro k hk
   obtain rfl:k=n:=by omega
   exact .inl ⟨fun j h1 h2=>by omega,bK he⟩
  |succ d ih=>
   intro k hk
   rcases h k (by omega)with⟨h1,h2⟩|⟨h1,h2⟩
   ·rw[bM h2]
    rcases ih (k+1) (by omega)with⟨g1,g2⟩|⟨g1,g2⟩
    ·refine .inl ⟨fun j hj hjn=>?_,g2⟩
     rcases Nat.eq_or_lt_of_le hj with e|e
     ·subst e;exact h1
     ·exact g1 j e hjn
    ·exact .inr ⟨fun hall=>g1 fun j hj hjn=>hall j (by omega) hjn,g2⟩
   ·exact .inr ⟨fun hall=>h1 (hall k (nR _) (by omega)),cP h2⟩
 rcases key n 0 (by omega)with⟨g1,g2⟩|⟨g1,g2⟩
 ·exact .inl ⟨fun j hj=>g1 j (Nat.zero_le _) hj,g2⟩
 ·exact .inr ⟨fun hall=>g1 fun j _ hj=>hall j hj,g2⟩
structure avI(p:bL):Prop where
 sets:p.Sets.length≤70
 rules:p.Rules.length≤70
 each:∀s∈p.Sets,s.length≤40
 nodes:∀r∈p.Rules,dp r.Left < 150∧dp r.Right < 150
theorem lU(n:aD):bf n 15 10=some ((jU n 15 10:Nat):Int):=qb (dp n) fun fu h=>aqQ n fu 15 10 h (by omega) (by omega) (by omega) (by omega)
structure avg(p:bL):Prop where
 sets:p.Sets.length≤8
 rules:p.Rules.length≤6
 each:∀s∈p.Sets,s.length≤8
 nodes:∀r∈p.Rules,dp r.Left < 15∧dp r.Right < 15
theorem avg.few{p:bL}(h:avg p):avI p:=⟨by have:=h.sets;omega,by have:=h.rules;omega,fun s hs=>by have:=h.each s hs;omega,fun r hr=>by have:=h.nodes r hr;omega⟩
theorem aul(p:bL):∃b,aW p=some b∧(b=true→avg p):=by
 unfold aW
 by_cases h0:p.Sets.length≤8∧p.Rules.length≤6
 ·rw[if_neg (by simp;omega)]
  have hsets:=yS (b:=aW.b2 p) (P:=fun j=>∀hj:j < p.Sets.length,p.Sets[j].length≤8) (n:=p.Sets.length) (bad:=false) (R:=aW.k1 p) (fun j hj=>by
   by_cases hc:p.Sets[j].length≤8
   ·refine .inl ⟨fun _=>hc,?_⟩
    simp only[aW.b2]
    rw[if_pos (by simpa using hj),bz,gE hj,oB,if_neg (by simp;omega),eN (by omega)]
   ·refine .inr ⟨fun h=>hc (h hj),?_⟩
    simp only[aW.b2]
    rw[if_pos (by simpa using hj),bz,gE hj,oB,if_pos (by simp;omega)]) (by
   simp only[aW.b2]
   rw[if_neg (by simp)])
  rcases hsets with⟨hs1,hs2⟩|⟨_,hs2⟩
  ·rw[hs2]
   unfold aW.k1
   have hrules:=yS (b:=aW.b1 p) (P:=fun j=>∀hj:j < p.Rules.length,jU p.Rules[j].Left 15 10 < 15∧jU p.Rules[j].Right 15 10 < 15) (n:=p.Rules.length) (bad:=false) (R:=aW.k2) (fun j hj=>by
    by_cases hc1:jU p.Rules[j].Left 15 10 < 15
    ·by_cases hc2:jU p.Rules[j].Right 15 10 < 15
     ·refine .inl ⟨fun _=>⟨hc1,hc2⟩,?_⟩
      simp only[aW.b1]
      rw[if_pos (by simpa using hj),bz,gE hj,oB,lU,oB,if_neg (by simp;omega),lU,oB,oB,if_neg (by simp;omega),eN (by omega)]
     ·refine .inr ⟨fun h=>hc2 (h hj).2,?_⟩
      simp only[aW.b1]
      rw[if_pos (by simpa using hj),bz,gE hj,oB,lU,oB,if_neg (by simp;omega),lU,oB,oB,if_pos (by simp;omega)]
    ·refine .inr ⟨fun h=>hc1 (h hj).1,?_⟩
     simp only[aW.b1]
     rw[if_pos (by simpa using hj),bz,gE hj,oB,lU,oB,if_pos (by simp;omega),oB,if_pos rfl]) (by
    simp only[aW.b1]
    rw[if_neg (by simp)])
   rcases hrules with⟨hr1,hr2⟩|⟨_,hr2⟩
   ·refine⟨true,hr2,fun _=>⟨h0.1,h0.2,fun s hs=>?_,fun r hr=>?_⟩⟩
    ·obtain⟨j,hj,rfl⟩:=List.getElem_of_mem hs
     exact hs1 j hj hj
    ·obtain⟨j,hj,rfl⟩:=List.getElem_of_mem hr
     have:=hr1 j hj hj
     rw[← tR _ 15 10 this.1,← tR _ 15 10 this.2];exact this
   ·exact⟨false,hr2,by simp⟩
  ·exact⟨false,hs2,by simp⟩
 ·rw[if_pos (by simp;omega)]
  exact⟨false,rfl,by simp⟩
end
noncomputable section
def atC(k:Int)(x:aD):Bool:=decide (x.Kind=2)||(decide (x.Kind=0)&& !decide (k=2))
def aho(k:Int):Bool:=decide (3≤k)&&decide (k≤5)
def adt(k:Int)(m:Nat):Bool:=if k=0 then !decide (m=1)else if k=2 then decide (1 < m)else aho k&&decide (m=1)
def lD(k:Int)(g:Nat):Nat:=if aho k then g+1 else 0
def uJ(k:Int)(x:aD)(d:Nat):Nat:=if atC k x then d+1 else d
mutual
def og(sets:Nat):aD→Nat→Nat→Bool
 |⟨k,s,ks⟩,d,g=>if k=1 then ks.isEmpty&&(decide (0≤s)&&decide (s < (sets:Int)))else decide (s=0)&&(adt k ks.length&&(decide (lD k g≤3)&&sd sets k ks d (lD k g)))
def sd(sets:Nat)(k:Int):List aD→Nat→Nat→Bool
 | [],_,_=>true
 |x::xs,d,g=>decide (uJ k x d≤20)&&(og sets x (uJ k x d) g&&sd sets k xs d g)
end
theorem xL(sets:Nat)(n:aD)(d g:Nat):og sets n d g=if n.Kind=1 then n.Kids.isEmpty&&(decide (0≤n.Set)&&decide (n.Set < (sets:Int)))else decide (n.Set=0)&&(adt n.Kind n.Kids.length&&(decide (lD n.Kind g≤3)&&sd sets n.Kind n.Kids d (lD n.Kind g))):=by
 cases n;rw[og]
mutual
def aiB:aD→Nat→Option Nat
 |⟨k,s,ks⟩,a=>if k=1 then(if s > (a:Int)then none else some (max a (s.toNat+1)))else amM ks a
def amM:List aD→Nat→Option Nat
 | [],a=>some a
 |x::xs,a=>(aiB x a).bind (amM xs)
end
theorem al2(n:aD)(a:Nat):aiB n a=if n.Kind=1 then(if n.Set > (a:Int)then none else some (max a (n.Set.toNat+1)))else amM n.Kids a:=by
 cases n;rw[aiB]
theorem awq(of n:aD):mo of n=some (atC of.Kind n):=rfl
theorem adO(n:aD):iN n=some (aho n.Kind):=rfl
theorem axM{n:aD}(h:n.Kids.length≤1000000):kg n=some (adt n.Kind n.Kids.length):=by
 unfold kg adt
 by_cases h0:n.Kind=0
 ·rw[if_pos (by simpa using h0),if_pos h0]
  congr 1
  rw[Bool.eq_iff_iff];simp;omega
 ·rw[if_neg (by simpa using h0),if_neg h0]
  by_cases h2:n.Kind=2
  ·rw[if_pos (by simpa using h2),if_pos h2]
   congr 1
   rw[Bool.eq_iff_iff];simp;omega
  ·rw[if_neg (by simpa using h2),if_neg h2,adO,oB]
   cases aho n.Kind with
   |true=>
    rw[if_pos rfl,oB]
    congr 1
    rw[Bool.eq_iff_iff];simp;omega
   |false=>rw[if_neg (by simp),oB];rfl
theorem nz(n:aD):n.Kids.length≤dp n:=by
 have:∀l:List aD,l.length≤dQ l:=by
  intro l
  induction l with
  |nil=>simp
  |cons x l ih=>have:=fJ x;rw[dQ,lC];omega
 have:=this n.Kids
 rw[jO];omega
theorem drop_cons{n:aD}{i:Nat}{x:aD}{l:List aD}(h:n.Kids.drop i=x::l):∃hi:i < n.Kids.length,n.Kids[i]=x∧n.Kids.drop (i+1)=l:=by
 have hil:i < n.Kids.length:=by
  rcases Nat.lt_or_ge i n.Kids.length with q|q
  ·exact q
  ·rw[List.drop_eq_nil_of_le q]at h;cases h
 have hd:=List.drop_eq_getElem_cons hil
 rw[h]at hd
 simp only[List.cons.injEq]at hd
 exact⟨hil,hd.1.symm,hd.2.symm⟩
theorem abn(sets:Nat):∀(n:aD) (d g a m:Nat),og sets n d g=true→a≤sets→aiB n a=some m→m≤sets:=by
 refine aD.ind fun n ih=>?_
 intro d g a m hf ha hm
 rw[xL]at hf
 rw[al2]at hm
 by_cases h1:n.Kind=1
 ·rw[if_pos h1]at hf hm
  simp at hf
  split at hm
  ·cases hm
  ·obtain rfl:=sI hm;omega
 ·rw[if_neg h1]at hf hm
  simp only[bA]at hf
  have loop:∀(l:List aD) (a:Nat),(∀x∈l,x∈n.Kids)→sd sets n.Kind l d (lD n.Kind g)=true→a≤sets→amM l a=some m→m≤sets:=by
   intro l
   induction l with
   |nil=>intro a _ _ ha hm;rw[amM]at hm;obtain rfl:=sI hm;exact ha
   |cons x l ihl=>
    intro a hs hf ha hm
    rw[sd]at hf
    simp only[bA]at hf
    rw[amM,Option.bind_eq_some_iff]at hm
    obtain⟨q,hq,hm⟩:=hm
    exact ihl q (fun y hy=>hs y (by simp[hy])) hf.2.2 (ih x (hs x (by simp)) _ _ a q hf.2.1 ha hq) hm
  exact loop n.Kids a (fun _ h=>h) hf.2.2.2 ha hm
def np(sets:Nat)(b:Bool)(m:Option Nat)(r:Option (Bool×be)):Prop:=
 match b,m with
 |true,some q=>r=some (true,⟨(sets:Int),(q:Int)⟩)
 |_,_=>∃c,r=some (false,c)
theorem ara(sets:Nat)(hsets:sets≤100):∀(n:aD) (fu d g a:Nat),dp n≤fu→dp n≤1000→d≤20→g≤3→a≤sets→np sets (og sets n d g) (aiB n a) (aa.r fu ⟨(sets:Int),(a:Int)⟩ n (d:Int) (g:Int)):=by
 refine aD.ind fun n ih=>?_
 intro fu d g a hfu hsz hd hg ha
 have hp:=fJ n
 obtain⟨fu,rfl⟩:∃k,fu=k+1:=⟨fu - 1,by omega⟩
 have hkl:=nz n
 simp only[aa.r]
 rw[xL,al2]
 by_cases h1:n.Kind=1
 ·rw[if_pos h1,if_pos h1,if_pos (show(n.Kind==1)=true by simpa using h1)]
  by_cases hok:n.Kids.length=0∧0≤n.Set∧n.Set < (sets:Int)
  ·have hempty:n.Kids.isEmpty=true:=by rw[List.isEmpty_iff];exact List.length_eq_zero_iff.1 hok.1
   rw[hempty,decide_eq_true hok.2.1,decide_eq_true hok.2.2]
   by_cases hc:n.Set > (a:Int)
   ·rw[if_pos hc]
    have e:decide (n.Set≤(a:Int))=false:=decide_eq_false (by omega)
    exact⟨⟨(sets:Int),mx (a:Int) (IntKind.i64.wrap (mn n.Set (sets:Int)+1))⟩,by simp[e]⟩
   ·rw[if_neg hc]
    have e:decide (n.Set≤(a:Int))=true:=decide_eq_true (by omega)
    have e1:mn n.Set (sets:Int)=n.Set:=by unfold mn;rw[if_neg (by omega)]
    have e2:mx (a:Int) (n.Set+1)=((max a (n.Set.toNat+1):Nat):Int):=by unfold mx;split <;> omega
    show some _=some (true,(⟨(sets:Int),((max a (n.Set.toNat+1):Nat):Int)⟩:be))
    rw[e1,w64 (by omega) (by omega),e2,e,hok.1]
    rfl
  ·have hb:(n.Kids.isEmpty&&(decide (0≤n.Set)&&decide (n.Set < (sets:Int))))=false:=by
    rw[Bool.eq_false_iff]
    intro h
    simp only[bA,List.isEmpty_iff,decide_eq_true_eq]at h
    exact hok ⟨by rw[h.1];rfl,h.2⟩
   rw[hb]
   refine⟨_,Prod.ext ?_ rfl |> congrArg some⟩
   rw[Bool.eq_false_iff]
   intro h
   simp only[bA,decide_eq_true_eq,beq_iff_eq]at h
   exact hok ⟨by omega,h.2.1,h.2.2.1⟩
 ·rw[if_neg h1,if_neg h1,if_neg (show ¬ (n.Kind==1)=true by simpa using h1),adO,oB]
  have loop:∀(g2:Nat),g2≤3→∀(l:List aD) (i a:Nat),n.Kids.drop i=l→a≤sets→np sets (sd sets n.Kind l d g2) (amM l a) (Loop (aa.b1 (aa.r fu) n (d:Int) (g2:Int)) ((i:Int),(sets:Int),(a:Int))):=by
   intro g2 hg2 l
   induction l with
   |nil=>
    intro i a hl ha
    have hi:n.Kids.length≤i:=List.drop_eq_nil_iff.1 hl
    rw[sd,amM]
    refine bK (R:=some (true,(⟨(sets:Int),(a:Int)⟩:be))) ?_
    simp only[aa.b1]
    rw[if_neg (by simp;omega)];rfl
   |cons x l ihl=>
    intro i a hl ha
    obtain⟨hil,hx,hdr⟩:=drop_cons hl
    have hmem:x∈n.Kids:=by rw[← hx];exact gM hil
    have hb:aa.b1 (aa.r fu) n (d:Int) (g2:Int) ((i:Int),(sets:Int),(a:Int))=aa.k3 (aa.r fu) (g2:Int) (i:Int) (sets:Int) (a:Int) x ((uJ n.Kind x d:Nat):Int):=by
     simp only[aa.b1]
     rw[if_pos (by simpa using hil),bz,gE hil,oB,awq,oB,hx]
     unfold uJ
     cases atC n.Kind x with
     |true=>rw[if_pos rfl,if_pos rfl,eN (by omega)]
     |false=>rw[if_neg (by simp),if_neg (by simp)]
    rw[sd,amM]
    by_cases hm:uJ n.Kind x d≤20
    ·have hkid:=ih x hmem fu (uJ n.Kind x d) g2 a (by have:=dT hmem;omega) (by have:=dT hmem;omega) hm hg2 ha
     rw[decide_eq_true hm,Bool.true_and]
     have hbad:(∃c,aa.r fu ⟨(sets:Int),(a:Int)⟩ x ((uJ n.Kind x d:Nat):Int) (g2:Int)=some (false,c))→∃c,Loop (aa.b1 (aa.r fu) n (d:Int) (g2:Int)) ((i:Int),(sets:Int),(a:Int))=some (false,c):=fun⟨c,hc⟩=>by
      refine⟨c,cP (hb.trans ?_)⟩
      unfold aa.k3
      rw[if_neg (by simp;omega),hc];rfl
     cases hf:og sets x (uJ n.Kind x d) g2 with
     |false=>
      rw[hf]at hkid
      rw[Bool.false_and]
      exact hbad hkid
     |true=>
      rw[hf]at hkid
      rw[Bool.true_and]
      cases hq:aiB x a with
      |none=>
       rw[hq]at hkid
       have:=hbad hkid
       cases sd sets n.Kind l d g2 <;> exact this
      |some q=>
       rw[hq]at hkid
       have hkid':aa.r fu ⟨(sets:Int),(a:Int)⟩ x ((uJ n.Kind x d:Nat):Int) (g2:Int)=some (true,⟨(sets:Int),(q:Int)⟩):=hkid
       have hnext:aa.b1 (aa.r fu) n (d:Int) (g2:Int) ((i:Int),(sets:Int),(a:Int))=some (.next (((i+1:Nat):Int),(sets:Int),(q:Int))):=by
        refine hb.trans ?_
        unfold aa.k3
        rw[if_neg (by simp;omega),hkid']
        simp only[oB,Bool.not_true]
        rw[if_neg (by simp),eN (by omega)]
       rw[bM hnext]
       exact ihl (i+1) q hdr (abn sets x _ _ a q hf ha hq)
    ·rw[decide_eq_false hm,Bool.false_and]
     refine⟨(⟨(sets:Int),(a:Int)⟩:be),cP (hb.trans ?_)⟩
     unfold aa.k3
     rw[if_pos (by simp;omega)];rfl
  have hk1:∀g1:Nat,g1≤4→g1=lD n.Kind g→np sets (decide (n.Set=0)&&(adt n.Kind n.Kids.length&&(decide (lD n.Kind g≤3)&&sd sets n.Kind n.Kids d (lD n.Kind g)))) (amM n.Kids a) (aa.k1 (aa.r fu) ⟨(sets:Int),(a:Int)⟩ n (d:Int) (g1:Int)):=fun g1 hg1 e=>by
   subst e
   unfold aa.k1
   rw[axM (by omega),oB]
   cases hf:adt n.Kind n.Kids.length with
   |false=>
    rw[if_pos (by simp),oB,if_pos rfl,Bool.false_and,Bool.and_false]
    exact⟨_,rfl⟩
   |true=>
    rw[if_neg (by simp),Bool.true_and]
    by_cases hs:n.Set=0
    ·rw[if_neg (by simpa using hs),oB,decide_eq_true hs,Bool.true_and]
     by_cases hg3:lD n.Kind g≤3
     ·rw[if_neg (by simp;omega),decide_eq_true hg3,Bool.true_and]
      exact loop _ hg3 n.Kids 0 a rfl ha
     ·rw[if_pos (by simp;omega),decide_eq_false hg3,Bool.false_and]
      exact⟨_,rfl⟩
    ·rw[if_pos (by simpa using hs),oB,if_pos rfl,decide_eq_false hs,Bool.false_and]
     exact⟨_,rfl⟩
  cases hb:aho n.Kind with
  |true=>
   have hsn:lD n.Kind g=g+1:=by unfold lD;rw[hb];rfl
   rw[if_neg (by simp),eN (by omega)]
   exact hk1 (g+1) (by omega) hsn.symm
  |false=>
   have hsn:lD n.Kind g=0:=by unfold lD;rw[hb];rfl
   rw[if_pos (by simp)]
   exact hk1 0 (by omega) hsn.symm
end
noncomputable section
theorem alq{l:List ah}(hl:l.length≤1000000):∃out e,cW l=some (out,e)∧iB out∧out.length≤l.length∧(e=0→∀t,In out t↔In l t)∧(e≠0→e=1∧out=[]∧¬ ∀x∈l,Ok x):=by
 by_cases hok:∀x∈l,Ok x
 ·obtain⟨o,h1,h2,h3,h4⟩:=aj0 hok (by omega)
  exact⟨o,0,h1,h2,h4,fun _=>h3,fun h=>absurd rfl h⟩
 ·exact⟨[],1,aez hok (by omega),od,by simp,fun h=>by simp at h,fun _=>⟨rfl,rfl,hok⟩⟩
open Classical in
def ah2(s:List ah):Bool:=decide (iB s)
theorem qm{s:List ah}:ah2 s=true↔iB s:=by unfold ah2;simp
theorem ayv{s:List ah}(hl:s.length≤40):lS s=some (ah2 s):=by
 obtain⟨out,e,m1,m3,m4,m5,m6⟩:=alq (l:=s) (by omega)
 unfold lS
 rw[m1,oB]
 by_cases hn:iB s
 ·obtain⟨e1,e2⟩:=uh hn m3 m5 m6
  subst e1 e2
  rw[if_pos (by simp),rj,abX (a:=out) (by omega),oB,oB,qm.2 hn]
  simp
 ·have hb:ah2 s=false:=by rw[Bool.eq_false_iff];exact fun h=>hn (qm.1 h)
  have hne:out≠s:=fun e=>hn (e ▸ m3)
  rw[hb]
  by_cases he:e=0
  ·subst he
   rw[if_pos (by simp),rj,abX (a:=out) (by omega),oB,oB]
   simp[hne]
  ·rw[if_neg (by simpa using he)];rfl
theorem uN{s1 s2:be→aD→Int→Int→Option (Bool×be)}{n:aD}(h:∀x∈n.Kids,∀c d g,s1 c x d g=s2 c x d g)(d g:Int):aa.b1 s1 n d g=aa.b1 s2 n d g:=by
 funext ⟨v,a,b⟩
 simp only[aa.b1]
 by_cases hc:v < (n.Kids.length:Int)
 ·rw[if_pos (decide_eq_true hc),if_pos (decide_eq_true hc)]
  cases hi:idx n.Kids v with
  |none=>rfl
  |some x=>
   have hx:x∈n.Kids:=by
    unfold idx at hi
    split at hi
    ·cases hi
    ·exact List.mem_of_getElem? hi
   have hk:∀more,aa.k3 s1 g v a b x more=aa.k3 s2 g v a b x more:=fun more=>by
    unfold aa.k3
    rw[h x hx]
   rw[oB,oB,awq,oB,oB]
   split
   ·exact hk _
   ·exact hk _
 ·rw[if_neg (by simpa using hc),if_neg (by simpa using hc)]
theorem zo:∀(n:aD) (fu:Nat),dp n≤fu→∀c d g,aa.r fu c n d g=aa.r (dp n) c n d g:=by
 refine aD.ind fun n ih=>?_
 intro fu hfu c d g
 have hp:=fJ n
 obtain⟨fu,rfl⟩:∃k,fu=k+1:=⟨fu - 1,by omega⟩
 obtain⟨m,hm⟩:∃k,dp n=k+1:=⟨dp n - 1,by omega⟩
 rw[hm]
 simp only[aa.r]
 have hk1:∀g1,aa.k1 (aa.r fu) c n d g1=aa.k1 (aa.r m) c n d g1:=fun g1=>by
  unfold aa.k1
  rw[uN (s1:=aa.r fu) (s2:=aa.r m) fun x hx c d g=>by
   have hlt:=dT hx
   rw[ih x hx fu (by omega),ih x hx m (by omega)]]
 rw[adO,oB,oB]
 simp only[hk1]
theorem akn{sets:Nat}{b:Bool}{m:Option Nat}{n:aD}{c:be}{d g:Int}(h:∀fu,dp n≤fu→np sets b m (aa.r fu c n d g)):np sets b m (aa c n d g):=by
 have h0:=h (dp n) (nR _)
 have hv:∃w,aa.r (dp n) c n d g=some w:=by
  unfold np at h0
  split at h0
  ·exact⟨_,h0⟩
  ·obtain⟨c',hc⟩:=h0;exact⟨_,hc⟩
 obtain⟨w,hw⟩:=hv
 have hl:aa c n d g=some w:=qb (dp n) fun k hk=>by rw[zo n k hk,hw]
 rw[hl,← hw];exact h0
def rN(sets:Nat):List nG→Nat→Option Nat
 | [],a=>some a
 |r::rs,a=>if og sets r.Left 0 0&&og sets r.Right 0 0 then(aiB r.Left a).bind fun q=>(aiB r.Right q).bind (rN sets rs)else none
def jf(p:bL):Prop:=p.Sets.length≤60∧p.Rules.length≤64∧(∀s∈p.Sets,iB s)∧p.Sets.Nodup∧rN p.Sets.length p.Rules 0=some p.Sets.length
theorem ph{sets:Nat}:∀{l:List nG} {a m:Nat},rN sets l a=some m→∀r∈l,og sets r.Left 0 0=true∧og sets r.Right 0 0=true
 | [],_,_,_,r,h=>by cases h
 |x::l,a,m,h,r,hr=>by
  rw[rN]at h
  split at h
  ·rename_i hf
   simp only[bA]at hf
   simp only[Option.bind_eq_some_iff]at h
   obtain⟨q,_,q2,_,h⟩:=h
   rcases List.mem_cons.1 hr with rfl|hr
   ·exact hf
   ·exact ph h r hr
  ·cases h
theorem oc{α:Type}{xs:List α}{i:Nat}{x:α}{l:List α}(h:xs.drop i=x::l):∃hi:i < xs.length,xs[i]=x∧xs.drop (i+1)=l:=by
 have hil:i < xs.length:=by
  rcases Nat.lt_or_ge i xs.length with q|q
  ·exact q
  ·rw[List.drop_eq_nil_of_le q]at h;cases h
 have hd:=List.drop_eq_getElem_cons hil
 rw[h]at hd
 simp only[List.cons.injEq]at hd
 exact⟨hil,hd.1.symm,hd.2.symm⟩
theorem awM{p:bL}{m:List (Str×Bool)}(hf:avI p)(hs60:p.Sets.length≤60):∀(l:List nG) (i a:Nat),p.Rules.drop i=l→a≤p.Sets.length→Loop (bO.b1 p m) ((i:Int),(p.Sets.length:Int),(a:Int))=some (((m.length:Int)==(p.Sets.length:Int))&&decide (rN p.Sets.length l a=some p.Sets.length)):=by
 intro l
 induction l with
 |nil=>
  intro i a hl ha
  have hi:p.Rules.length≤i:=List.drop_eq_nil_iff.1 hl
  refine bK (R:=some _) ?_
  simp only[bO.b1]
  rw[if_neg (by simp;omega),rN]
  unfold bO.k2
  simp only[Option.map_some]
  congr 3
  rw[Bool.eq_iff_iff]
  simp
  omega
 |cons r l ih=>
  intro i a hl ha
  obtain⟨hil,hx,hdr⟩:=oc hl
  have hmem:r∈p.Rules:=by rw[← hx];exact gM hil
  obtain⟨n1,n2⟩:=hf.nodes r hmem
  have hrl:=hf.rules
  have hR:∀(n:aD) (a:Nat),dp n≤1000→a≤p.Sets.length→np p.Sets.length (og p.Sets.length n 0 0) (aiB n a) (aa ⟨(p.Sets.length:Int),(a:Int)⟩ n 0 0):=fun n a hn ha=>by
   have h1:∀fu,dp n≤fu→np p.Sets.length (og p.Sets.length n 0 0) (aiB n a) (aa.r fu ⟨(p.Sets.length:Int),(a:Int)⟩ n 0 0):=fun fu hfu=>ara _ (by omega) n fu 0 0 a hfu hn (by omega) (by omega) ha
   exact akn h1
  have hL:=hR r.Left a (by omega) ha
  have hbad:(∃c,aa ⟨(p.Sets.length:Int),(a:Int)⟩ r.Left 0 0=some (false,c))→Loop (bO.b1 p m) ((i:Int),(p.Sets.length:Int),(a:Int))=some false:=fun⟨c,hc⟩=>by
   refine cP ?_
   simp only[bO.b1]
   rw[if_pos (by simpa using hil),bz,gE hil,oB,hx,hc]
   rfl
  rw[rN]
  cases f1:og p.Sets.length r.Left 0 0 with
  |false=>
   rw[f1]at hL
   rw[if_neg (by simp),hbad hL];simp
  |true=>
   rw[f1]at hL
   cases hm:aiB r.Left a with
   |none=>
    rw[hm]at hL
    rw[hbad hL]
    split <;> simp
   |some q=>
    rw[hm]at hL
    have hL':aa ⟨(p.Sets.length:Int),(a:Int)⟩ r.Left 0 0=some (true,⟨(p.Sets.length:Int),(q:Int)⟩):=hL
    have hq:=abn _ _ _ _ _ _ f1 ha hm
    have hRr:=hR r.Right q (by omega) hq
    have hbad2:(∃c,aa ⟨(p.Sets.length:Int),(q:Int)⟩ r.Right 0 0=some (false,c))→Loop (bO.b1 p m) ((i:Int),(p.Sets.length:Int),(a:Int))=some false:=fun⟨c,hc⟩=>by
     refine cP ?_
     simp only[bO.b1]
     rw[if_pos (by simpa using hil),bz,gE hil,oB,hx,hL']
     simp only[oB,Bool.not_true,Bool.false_eq_true,if_false]
     rw[hc];rfl
    cases f2:og p.Sets.length r.Right 0 0 with
    |false=>
     rw[f2]at hRr
     rw[if_neg (by simp),hbad2 hRr];simp
    |true=>
     rw[f2]at hRr
     rw[if_pos (by simp),oB]
     cases hm2:aiB r.Right q with
     |none=>
      rw[hm2]at hRr
      rw[hbad2 hRr];simp
     |some q2=>
      rw[hm2]at hRr
      have hR':aa ⟨(p.Sets.length:Int),(q:Int)⟩ r.Right 0 0=some (true,⟨(p.Sets.length:Int),(q2:Int)⟩):=hRr
      have hq2:=abn _ _ _ _ _ _ f2 hq hm2
      rw[oB,← ih (i+1) q2 hdr hq2]
      refine bM ?_
      simp only[bO.b1]
      rw[if_pos (by simpa using hil),bz,gE hil,oB,hx,hL']
      simp only[oB,Bool.not_true,Bool.false_eq_true,if_false]
      rw[hR']
      simp only[oB,Bool.not_true,Bool.false_eq_true,if_false]
      rw[eN (by omega)]
theorem aeF{k a:Str}{v:Bool}:∀{m:List (Str×Bool)},a∈(kF k v m).map (·.1)↔a∈m.map (·.1)∨a=k
 | []=>by simp[kF]
 |(k',v')::m=>by
  simp only[kF]
  by_cases h:k=k'
  ·rw[if_pos h]
   simp only[List.map_cons,mC]
   rw[h]
   constructor
   ·rintro(h|h)
    ·exact .inr h
    ·exact .inl (.inr h)
   ·rintro((h|h)|h)
    ·exact .inl h
    ·exact .inr h
    ·exact .inl h
  ·rw[if_neg h]
   simp only[List.map_cons,mC,aeF (m:=m)]
   exact or_assoc.symm
theorem wy{k:Str}{v:Bool}:∀{m:List (Str×Bool)},(kF k v m).length=if k∈m.map (·.1)then m.length else m.length+1
 | []=>by simp[kF]
 |(k',v')::m=>by
  simp only[kF]
  by_cases h:k=k'
  ·rw[if_pos h,if_pos (by simp[h])];rfl
  ·rw[if_neg h]
   simp only[lC,wy (m:=m),List.map_cons,mC,h,false_or]
   split <;> rfl
theorem afT{α:Type}{l:List α}{a:α}:(l++[a]).Nodup↔l.Nodup∧a∉l:=by
 rw[List.nodup_append]
 constructor
 ·rintro⟨h1,_,h2⟩
  exact⟨h1,fun h=>h2 a h a (by simp) rfl⟩
 ·rintro⟨h1,h2⟩
  exact⟨h1,by simp,fun x hx y hy=>by simp at hy;subst hy;rintro rfl;exact h2 hx⟩
open Classical in
theorem avG{p:bL}(hf:avI p)(hs60:p.Sets.length≤60):∀(d i:Nat) (m:List (Str×Bool)),i+d=p.Sets.length→(∀s∈p.Sets.take i,iB s)→(∀a,a∈m.map (·.1)↔a∈(p.Sets.take i).map lp)→m.length≤i→(m.length=i↔(p.Sets.take i).Nodup)→
  if ∀s∈p.Sets,iB s then Loop (bO.b2 p) ((i:Int),m)=some (decide (p.Sets.Nodup)&&decide (rN p.Sets.length p.Rules 0=some p.Sets.length))else Loop (bO.b2 p) ((i:Int),m)=some false
 |0,i,m,h,hn,hk,hl,hd=>by
  obtain rfl:i=p.Sets.length:=by omega
  rw[List.take_length]at hn hd
  rw[if_pos hn]
  have hr:=awM (m:=m) hf hs60 p.Rules 0 0 rfl (Nat.zero_le _)
  refine bK ?_
  simp only[bO.b2]
  rw[if_neg (by simp)]
  unfold bO.k1
  have e:(((0:Nat):Int),(p.Sets.length:Int),((0:Nat):Int))=((0:Int),(p.Sets.length:Int),(0:Int)):=rfl
  rw[e]at hr
  rw[hr]
  simp only[Option.map_some]
  congr 3
  rw[Bool.eq_iff_iff]
  simp only[beq_iff_eq,decide_eq_true_eq]
  rw[← hd]
  omega
 |d+1,i,m,h,hn,hk,hl,hd=>by
  have hi:i < p.Sets.length:=by omega
  have h40:=hf.each _ (gM hi)
  have hstart:bO.b2 p ((i:Int),m)=if !ah2 p.Sets[i]then some (Step.done false)else(nI p.Sets[i]).bind fun r3=>some (Step.next ((IntKind.i64.wrap ((i:Int)+(1:Int))),(kF r3 true m))):=by
   simp only[bO.b2]
   rw[if_pos (by simpa using hi),bz,gE hi,oB,ayv h40,oB]
  by_cases hnorm:iB p.Sets[i]
  ·rw[qm.2 hnorm,if_neg (by simp),acU hnorm.1 (by omega),oB,eN (by omega)]at hstart
   have htk:p.Sets.take (i+1)=p.Sets.take i++[p.Sets[i]]:=ej hi
   have hmem:lp p.Sets[i]∈m.map (·.1)↔p.Sets[i]∈p.Sets.take i:=by
    rw[hk]
    constructor
    ·intro h
     obtain⟨s,hs,e⟩:=List.mem_map.1 h
     rw[← ac1 (hn s hs).1 hnorm.1 e];exact hs
    ·exact fun h=>List.mem_map_of_mem h
   rw[bM hstart]
   refine avG hf hs60 d (i+1) _ (by omega) ?_ ?_ ?_ ?_
   ·intro s hs
    rw[htk]at hs
    rcases List.mem_append.1 hs with h|h
    ·exact hn s h
    ·simp at h;subst h;exact hnorm
   ·intro a
    rw[aeF,hk,htk,List.map_append,List.mem_append];simp
   ·rw[wy];split <;> omega
   ·rw[wy,htk,afT]
    by_cases hin:p.Sets[i]∈p.Sets.take i
    ·rw[if_pos (hmem.2 hin)]
     exact⟨fun h=>by omega,fun h=>absurd hin h.2⟩
    ·rw[if_neg (fun h=>hin (hmem.1 h))]
     constructor
     ·exact fun h=>⟨hd.1 (by omega),hin⟩
     ·exact fun h=>by have:=hd.2 h.1;omega
  ·have hb:ah2 p.Sets[i]=false:=by rw[Bool.eq_false_iff];exact fun h=>hnorm (qm.1 h)
   rw[hb,if_pos (by simp)]at hstart
   rw[if_neg (fun h=>hnorm (h _ (gM hi)))]
   exact cP hstart
open Classical in
open Classical in
open Classical in
theorem ahf{p:bL}(hf:avI p):bO p=some (decide (jf p)):=by
 unfold bO
 by_cases hc:p.Sets.length≤60∧p.Rules.length≤64
 ·obtain⟨h60,h64⟩:=hc
  rw[if_neg (by simp;omega)]
  have h1:=avG hf h60 p.Sets.length 0 [] (by omega) (by simp) (by simp) (by simp) (by simp)
  have e0:(((0:Nat):Int),([]:List (Str×Bool)))=((0:Int),[]):=rfl
  rw[e0]at h1
  by_cases hn:∀s∈p.Sets,iB s
  ·rw[if_pos hn]at h1
   rw[h1]
   by_cases hd:p.Sets.Nodup
   ·congr 1
    rw[Bool.eq_iff_iff]
    simp only[bA,decide_eq_true_eq]
    exact⟨fun h=>⟨h60,h64,hn,h.1,h.2⟩,fun h=>⟨h.2.2.2.1,h.2.2.2.2⟩⟩
   ·have hR:¬ jf p:=fun h=>hd h.2.2.2.1
    rw[decide_eq_false hR,decide_eq_false hd]
    rfl
  ·have hR:¬ jf p:=fun h=>hn h.2.2.1
   rw[if_neg hn]at h1
   rw[h1,decide_eq_false hR]
 ·have hR:¬ jf p:=fun h=>hc ⟨h.1,h.2.1⟩
  rw[if_pos (by simp;omega),decide_eq_false hR]
end
inductive kf(P:List Int→Prop):List Int→Prop
 |nil:kf P []
 |cons {u v:List Int}:P u→kf P v→kf P (u++v)
def oh(P Q:List Int→Prop)(w:List Int):Prop:=∃u v,w=u++v∧P u∧Q v
theorem oh.congr{P P' Q Q':List Int→Prop}(h1:∀w,P w↔P' w)(h2:∀w,Q w↔Q' w)(w:List Int):oh P Q w↔oh P' Q' w:=
 ⟨fun⟨u,v,e,a,b⟩=>⟨u,v,e,(h1 u).1 a,(h2 v).1 b⟩,fun⟨u,v,e,a,b⟩=>⟨u,v,e,(h1 u).2 a,(h2 v).2 b⟩⟩
theorem oh.assoc{P Q R:List Int→Prop}{w:List Int}:oh (oh P Q) R w↔oh P (oh Q R) w:=by
 constructor
 ·rintro⟨_,v,rfl,⟨a,b,rfl,ha,hb⟩,hv⟩
  exact⟨a,b++v,by simp,ha,b,v,rfl,hb,hv⟩
 ·rintro⟨a,_,rfl,ha,b,v,rfl,hb,hv⟩
  exact⟨a++b,v,by simp,⟨a,b,rfl,ha,hb⟩,hv⟩
theorem oh.nilL{Q:List Int→Prop}{w:List Int}:oh (fun u=>u=[]) Q w↔Q w:=
 ⟨fun⟨u,v,e,a,b⟩=>by subst a;simpa[e]using b,fun h=>⟨[],w,rfl,rfl,h⟩⟩
theorem oh.nilR{Q:List Int→Prop}{w:List Int}:oh Q (fun u=>u=[]) w↔Q w:=
 ⟨fun⟨u,v,e,a,b⟩=>by subst b;simpa[e]using a,fun h=>⟨w,[],by simp,h,rfl⟩⟩
theorem kf.mono{P Q:List Int→Prop}(h:∀w,P w→Q w){w:List Int}(hs:kf P w):kf Q w:=by
 induction hs with
 |nil=>exact .nil
 |cons a _ ih=>exact .cons (h _ a) ih
theorem kf.congr{P Q:List Int→Prop}(h:∀w,P w↔Q w)(w:List Int):kf P w↔kf Q w:=⟨kf.mono fun w=>(h w).1,kf.mono fun w=>(h w).2⟩
theorem kf.app{P:List Int→Prop}{u v:List Int}(h1:kf P u)(h2:kf P v):kf P (u++v):=by
 induction h1 with
 |nil=>exact h2
 |cons a _ ih=>rw[List.append_assoc];exact .cons a ih
theorem kf.one{P:List Int→Prop}{u:List Int}(h:P u):kf P u:=by have:=kf.cons h kf.nil;rwa[List.append_nil]at this
theorem kf.head{P:List Int→Prop}{w:List Int}(h:kf P w):w=[]∨∃a u v,w=a::(u++v)∧P (a::u)∧kf P v:=by
 induction h with
 |nil=>exact .inl rfl
 | @cons u v hu hv ih=>
  cases u with
  |nil=>exact ih
  |cons a u=>exact .inr ⟨a,u,v,rfl,hu,hv⟩
theorem kf.rev{P Q:List Int→Prop}(h:∀w,P w→Q w.reverse){w:List Int}(hs:kf P w):kf Q w.reverse:=by
 induction hs with
 |nil=>exact .nil
 |cons a _ ih=>rw[List.reverse_append];exact ih.app (.one (h _ a))
section
variable(hit:Int→Int→Bool)
mutual
def kO:aD→List Int→Prop
 |⟨k,s,l⟩=>if k=1 then fun u=>∃a,u=[a]∧hit a s=true
   else if k=0 then aaJ l else if k=2 then aiD l
   else if k=5 then fun u=>u=[]∨ux l u
   else if k=4 then oh (ux l) (kf (ux l))else kf (ux l)
def aaJ:List aD→List Int→Prop
 | []=>fun w=>w=[]
 |x::l=>oh (kO x) (aaJ l)
def aiD:List aD→List Int→Prop
 | []=>fun _=>False
 |x::l=>fun w=>kO x w∨aiD l w
def ux:List aD→List Int→Prop
 | []=>fun _=>False
 |x::_=>kO x
end
end
mutual
def ji:aD→aD
 |⟨k,s,l⟩=>⟨k,s,if k=0 then(nF l).reverse else nF l⟩
def nF:List aD→List aD
 | []=>[]
 |x::l=>ji x::nF l
end
structure PA where
 null:Prop
 first:Int→Prop
 last:Int→Prop
 E:Int→Int→Prop
section
variable(lab:Int→Int→Prop)
def PA.Acc(X:PA):Int→List Int→Prop
 |p,[]=>X.last p
 |p,a::v=>∃q,X.E p q∧lab q a∧PA.Acc X q v
def PA.L(X:PA):List Int→Prop
 | []=>X.null
 |a::v=>∃p,X.first p∧lab p a∧X.Acc lab p v
end
structure PA.In(X:PA)(lo hi:Int):Prop where
 first:∀p,X.first p→lo < p∧p≤hi
 last:∀p,X.last p→lo < p∧p≤hi
 E:∀p q,X.E p q→(lo < p∧p≤hi)∧(lo < q∧q≤hi)
def PA.then_(X Y:PA):PA:=⟨X.null∧Y.null,fun p=>X.first p∨X.null∧Y.first p,fun p=>Y.last p∨Y.null∧X.last p,fun p q=>(X.E p q∨Y.E p q)∨X.last p∧Y.first q⟩
def PA.or_(X Y:PA):PA:=⟨X.null∨Y.null,fun p=>X.first p∨Y.first p,fun p=>X.last p∨Y.last p,fun p q=>X.E p q∨Y.E p q⟩
def PA.more(X:PA):PA:=⟨X.null,X.first,X.last,fun p q=>X.E p q∨X.last p∧X.first q⟩
section
variable{lab:Int→Int→Prop}{X Y:PA}{a b c:Int}
theorem lT(hX:X.In a b)(hY:Y.In b c):∀(w:List Int) (q:Int),b < q→((X.then_ Y).Acc lab q w↔Y.Acc lab q w)
 | [],q,h=>by
  simp only[PA.Acc,PA.then_]
  constructor
  ·rintro(h1|⟨_,h1⟩)
   ·exact h1
   ·have:=hX.last _ h1;omega
  ·exact .inl
 |s::w,q,h=>by
  simp only[PA.Acc]
  constructor
  ·rintro⟨r,(h1|h1)|⟨h1,_⟩,h2,h3⟩
   ·have:=(hX.E _ _ h1).1;omega
   ·exact⟨r,h1,h2,(lT hX hY w r (hY.E _ _ h1).2.1).1 h3⟩
   ·have:=hX.last _ h1;omega
  ·rintro⟨r,h1,h2,h3⟩
   exact⟨r,.inl (.inr h1),h2,(lT hX hY w r (hY.E _ _ h1).2.1).2 h3⟩
theorem qe(hX:X.In a b)(hY:Y.In b c):∀(w:List Int) (p:Int),p≤b→((X.then_ Y).Acc lab p w↔oh (X.Acc lab p) (Y.L lab) w)
 | [],p,h=>by
  simp only[PA.Acc,PA.then_]
  constructor
  ·rintro(h1|⟨h1,h2⟩)
   ·have:=hY.last _ h1;omega
   ·exact⟨[],[],rfl,h2,h1⟩
  ·rintro⟨u,v,e,h1,h2⟩
   obtain⟨rfl,rfl⟩:=List.append_eq_nil_iff.1 e.symm
   exact .inr ⟨h2,h1⟩
 |s::w,p,h=>by
  simp only[PA.Acc]
  constructor
  ·rintro⟨r,(h1|h1)|⟨h1,h4⟩,h2,h3⟩
   ·obtain⟨u,v,rfl,g1,g2⟩:=(qe hX hY w r (hX.E _ _ h1).2.2).1 h3
    exact⟨s::u,v,rfl,⟨r,h1,h2,g1⟩,g2⟩
   ·have:=(hY.E _ _ h1).1;omega
   ·exact⟨[],s::w,rfl,h1,r,h4,h2,(lT hX hY w r (hY.first _ h4).1).1 h3⟩
  ·rintro⟨u,v,e,h1,h2⟩
   cases u with
   |nil=>
    simp only[List.nil_append]at e
    subst e
    obtain⟨r,g1,g2,g3⟩:=h2
    exact⟨r,.inr ⟨h1,g1⟩,g2,(lT hX hY w r (hY.first _ g1).1).2 g3⟩
   |cons s' u=>
    simp only[List.cons_append,List.cons.injEq]at e
    obtain⟨rfl,rfl⟩:=e
    obtain⟨r,g1,g2,g3⟩:=h1
    exact⟨r,.inl (.inl g1),g2,(qe hX hY _ r (hX.E _ _ g1).2.2).2 ⟨u,v,rfl,g3,h2⟩⟩
theorem awn(hX:X.In a b)(hY:Y.In b c)(w:List Int):(X.then_ Y).L lab w↔oh (X.L lab) (Y.L lab) w:=by
 cases w with
 |nil=>
  simp only[PA.L,PA.then_]
  constructor
  ·rintro⟨h1,h2⟩;exact⟨[],[],rfl,h1,h2⟩
  ·rintro⟨u,v,e,h1,h2⟩
   obtain⟨rfl,rfl⟩:=List.append_eq_nil_iff.1 e.symm
   exact⟨h1,h2⟩
 |cons s w=>
  simp only[PA.L]
  constructor
  ·rintro⟨p,h1|⟨h0,h1⟩,h2,h3⟩
   ·obtain⟨u,v,rfl,g1,g2⟩:=(qe hX hY w p (hX.first _ h1).2).1 h3
    exact⟨s::u,v,rfl,⟨p,h1,h2,g1⟩,g2⟩
   ·exact⟨[],s::w,rfl,h0,p,h1,h2,(lT hX hY w p (hY.first _ h1).1).1 h3⟩
  ·rintro⟨u,v,e,h1,h2⟩
   cases u with
   |nil=>
    simp only[List.nil_append]at e
    subst e
    obtain⟨p,g1,g2,g3⟩:=h2
    exact⟨p,.inr ⟨h1,g1⟩,g2,(lT hX hY w p (hY.first _ g1).1).2 g3⟩
   |cons s' u=>
    simp only[List.cons_append,List.cons.injEq]at e
    obtain⟨rfl,rfl⟩:=e
    obtain⟨p,g1,g2,g3⟩:=h1
    exact⟨p,.inl g1,g2,(qe hX hY _ p (hX.first _ g1).2).2 ⟨u,v,rfl,g3,h2⟩⟩
theorem asL(hX:X.In a b)(hY:Y.In b c)(hab:a≤b)(hbc:b≤c):(X.then_ Y).In a c:=by
 refine⟨fun p h=>?_,fun p h=>?_,fun p q h=>?_⟩
 ·rcases h with h|⟨_,h⟩
  ·have:=hX.first _ h;omega
  ·have:=hY.first _ h;omega
 ·rcases h with h|⟨_,h⟩
  ·have:=hY.last _ h;omega
  ·have:=hX.last _ h;omega
 ·rcases h with(h|h)|⟨h1,h2⟩
  ·have:=hX.E _ _ h;omega
  ·have:=hY.E _ _ h;omega
  ·have:=hX.last _ h1;have:=hY.first _ h2;omega
theorem rS(hX:X.In a b)(hY:Y.In b c):∀(w:List Int) (p:Int),((X.or_ Y).Acc lab p w↔X.Acc lab p w∧p≤b∨Y.Acc lab p w∧b < p)
 | [],p=>by
  simp only[PA.Acc,PA.or_]
  constructor
  ·rintro(h|h)
   ·exact .inl ⟨h,(hX.last _ h).2⟩
   ·exact .inr ⟨h,(hY.last _ h).1⟩
  ·rintro(h|h)
   ·exact .inl h.1
   ·exact .inr h.1
 |s::w,p=>by
  simp only[PA.Acc]
  constructor
  ·rintro⟨q,h1|h1,h2,h3⟩
   ·rcases(rS hX hY w q).1 h3 with⟨h4,_⟩|⟨_,h4⟩
    ·exact .inl ⟨⟨q,h1,h2,h4⟩,(hX.E _ _ h1).1.2⟩
    ·have:=(hX.E _ _ h1).2;omega
   ·rcases(rS hX hY w q).1 h3 with⟨_,h4⟩|⟨h4,_⟩
    ·have:=(hY.E _ _ h1).2;omega
    ·exact .inr ⟨⟨q,h1,h2,h4⟩,(hY.E _ _ h1).1.1⟩
  ·rintro(⟨⟨q,h1,h2,h3⟩,_⟩|⟨⟨q,h1,h2,h3⟩,_⟩)
   ·exact⟨q,.inl h1,h2,(rS hX hY w q).2 (.inl ⟨h3,(hX.E _ _ h1).2.2⟩)⟩
   ·exact⟨q,.inr h1,h2,(rS hX hY w q).2 (.inr ⟨h3,(hY.E _ _ h1).2.1⟩)⟩
theorem ayn(hX:X.In a b)(hY:Y.In b c)(w:List Int):(X.or_ Y).L lab w↔X.L lab w∨Y.L lab w:=by
 cases w with
 |nil=>exact Iff.rfl
 |cons s w=>
  simp only[PA.L]
  constructor
  ·rintro⟨p,h1|h1,h2,h3⟩
   ·rcases(rS hX hY w p).1 h3 with⟨h4,_⟩|⟨_,h4⟩
    ·exact .inl ⟨p,h1,h2,h4⟩
    ·have:=hX.first _ h1;omega
   ·rcases(rS hX hY w p).1 h3 with⟨_,h4⟩|⟨h4,_⟩
    ·have:=hY.first _ h1;omega
    ·exact .inr ⟨p,h1,h2,h4⟩
  ·rintro(⟨p,h1,h2,h3⟩|⟨p,h1,h2,h3⟩)
   ·exact⟨p,.inl h1,h2,(rS hX hY w p).2 (.inl ⟨h3,(hX.first _ h1).2⟩)⟩
   ·exact⟨p,.inr h1,h2,(rS hX hY w p).2 (.inr ⟨h3,(hY.first _ h1).1⟩)⟩
theorem axU(hX:X.In a b)(hY:Y.In b c)(hab:a≤b)(hbc:b≤c):(X.or_ Y).In a c:=by
 refine⟨fun p h=>?_,fun p h=>?_,fun p q h=>?_⟩
 ·rcases h with h|h
  ·have:=hX.first _ h;omega
  ·have:=hY.first _ h;omega
 ·rcases h with h|h
  ·have:=hX.last _ h;omega
  ·have:=hY.last _ h;omega
 ·rcases h with h|h
  ·have:=hX.E _ _ h;omega
  ·have:=hY.E _ _ h;omega
theorem mw:∀(w:List Int) (p:Int),(X.more.Acc lab p w↔oh (X.Acc lab p) (kf (X.L lab)) w)
 | [],p=>by
  simp only[PA.Acc,PA.more]
  constructor
  ·intro h;exact⟨[],[],rfl,h,.nil⟩
  ·rintro⟨u,v,e,h1,h2⟩
   obtain⟨rfl,rfl⟩:=List.append_eq_nil_iff.1 e.symm
   exact h1
 |s::w,p=>by
  simp only[PA.Acc]
  constructor
  ·rintro⟨q,h1|⟨h0,h1⟩,h2,h3⟩
   ·obtain⟨u,v,rfl,g1,g2⟩:=(mw w q).1 h3
    exact⟨s::u,v,rfl,⟨q,h1,h2,g1⟩,g2⟩
   ·obtain⟨u,v,rfl,g1,g2⟩:=(mw w q).1 h3
    exact⟨[],s::(u++v),rfl,h0,kf.cons (u:=s::u) ⟨q,h1,h2,g1⟩ g2⟩
  ·rintro⟨u,v,e,h1,h2⟩
   cases u with
   |nil=>
    simp only[List.nil_append]at e
    subst e
    rcases h2.head with e|⟨a,u,v,e,⟨q,g1,g2,g3⟩,g4⟩
    ·cases e
    ·simp only[List.cons.injEq]at e
     obtain⟨rfl,rfl⟩:=e
     exact⟨q,.inr ⟨h1,g1⟩,g2,(mw _ q).2 ⟨u,v,rfl,g3,g4⟩⟩
   |cons s' u=>
    simp only[List.cons_append,List.cons.injEq]at e
    obtain⟨rfl,rfl⟩:=e
    obtain⟨q,g1,g2,g3⟩:=h1
    exact⟨q,.inl g1,g2,(mw _ q).2 ⟨u,v,rfl,g3,h2⟩⟩
theorem au6(w:List Int):X.more.L lab w↔oh (X.L lab) (kf (X.L lab)) w:=by
 cases w with
 |nil=>
  simp only[PA.L,PA.more]
  constructor
  ·intro h;exact⟨[],[],rfl,h,.nil⟩
  ·rintro⟨u,v,e,h1,h2⟩
   obtain⟨rfl,rfl⟩:=List.append_eq_nil_iff.1 e.symm
   exact h1
 |cons s w=>
  simp only[PA.L]
  constructor
  ·rintro⟨p,h1,h2,h3⟩
   obtain⟨u,v,rfl,g1,g2⟩:=(mw w p).1 h3
   exact⟨s::u,v,rfl,⟨p,h1,h2,g1⟩,g2⟩
  ·rintro⟨u,v,e,h1,h2⟩
   cases u with
   |nil=>
    simp only[List.nil_append]at e
    subst e
    rcases h2.head with e|⟨a,u,v,e,⟨q,g1,g2,g3⟩,g4⟩
    ·cases e
    ·simp only[List.cons.injEq]at e
     obtain⟨rfl,rfl⟩:=e
     exact⟨q,g1,g2,(mw _ q).2 ⟨u,v,rfl,g3,g4⟩⟩
   |cons s' u=>
    simp only[List.cons_append,List.cons.injEq]at e
    obtain⟨rfl,rfl⟩:=e
    obtain⟨q,g1,g2,g3⟩:=h1
    exact⟨q,g1,g2,(mw _ q).2 ⟨u,v,rfl,g3,h2⟩⟩
theorem arD(hX:X.In a b):X.more.In a b:=⟨hX.first,hX.last,fun p q h=>by
 rcases h with h|⟨h1,h2⟩
 ·exact hX.E _ _ h
 ·exact⟨hX.last _ h1,hX.first _ h2⟩⟩
def PA.FR(lab:Int→Int→Prop)(X:PA):List Int→Int→Prop
 | [],_=>False
 |s::w,p=>lab p s∧(X.first p∨∃q,PA.FR lab X w q∧X.E q p)
def PA.Suf(lab:Int→Int→Prop)(X:PA)(x:List Int):Prop:=∃u s v p,x=u++s::v∧X.first p∧lab p s∧X.Acc lab p v
theorem anj{s:Int}{x:List Int}:X.Suf lab (s::x)↔(∃p,X.first p∧lab p s∧X.Acc lab p x)∨X.Suf lab x:=by
 constructor
 ·rintro⟨u,s',v,p,e,h⟩
  cases u with
  |nil=>
   simp only[List.nil_append,List.cons.injEq]at e
   obtain⟨rfl,rfl⟩:=e
   exact .inl ⟨p,h⟩
  |cons b u=>
   simp only[List.cons_append,List.cons.injEq]at e
   obtain⟨rfl,rfl⟩:=e
   exact .inr ⟨u,s',v,p,rfl,h⟩
 ·rintro(⟨p,h⟩|⟨u,s',v,p,rfl,h⟩)
  ·exact⟨[],s,x,p,rfl,h⟩
  ·exact⟨s::u,s',v,p,rfl,h⟩
theorem au9:∀(x w:List Int),((∃q,X.FR lab w q∧X.Acc lab q x)∨X.Suf lab x)↔∃q,X.FR lab (x.reverse++w) q∧X.last q
 | [],w=>by
  constructor
  ·rintro(h|⟨u,s,v,p,e,_⟩)
   ·exact h
   ·simp at e
  ·exact .inl
 |s::x,w=>by
  have ih:=au9 x (s::w)
  rw[List.reverse_cons,List.append_assoc,List.singleton_append,← ih,anj]
  constructor
  ·rintro(⟨q,h1,p,h2,h3,h4⟩|⟨p,h1,h2,h3⟩|h)
   ·exact .inl ⟨p,⟨h3,.inr ⟨q,h1,h2⟩⟩,h4⟩
   ·exact .inl ⟨p,⟨h2,.inl h1⟩,h3⟩
   ·exact .inr h
  ·rintro(⟨p,⟨h1,h2|⟨q,h2,h3⟩⟩,h4⟩|h)
   ·exact .inr (.inl ⟨p,h2,h1,h4⟩)
   ·exact .inl ⟨q,h2,p,h3,h1,h4⟩
   ·exact .inr (.inr h)
theorem ama(w:List Int):(∃u v,w=u++v∧X.L lab v)↔X.null∨∃q,X.FR lab w.reverse q∧X.last q:=by
 have h:=au9 (X:=X) (lab:=lab) w []
 rw[List.append_nil]at h
 rw[← h]
 constructor
 ·rintro⟨u,v,rfl,hv⟩
  cases v with
  |nil=>exact .inl hv
  |cons s v=>
   obtain⟨p,hp⟩:=hv
   exact .inr (.inr ⟨u,s,v,p,rfl,hp⟩)
 ·rintro(h|⟨q,h,_⟩|⟨u,s,v,p,e,hp⟩)
  ·exact⟨w,[],by simp,h⟩
  ·exact h.elim
  ·exact⟨u,s::v,e,p,hp⟩
end
def ins:List Int→Int→List Int
 | [],n=>[n]
 |x::l,n=>if x < n then x::ins l n else if x=n then x::l else n::x::l
def uni(x y:List Int):List Int:=y.foldl ins x
abbrev xK(l:List Int):Prop:=l.Pairwise (· < ·)
theorem adS{q n:Int}:∀{l:List Int},q∈ins l n↔q∈l∨q=n
 | []=>by simp[ins]
 |x::l=>by
  simp only[ins]
  split
  ·simp only[mC,adS (l:=l)];exact or_assoc.symm
  ·split
   ·rename_i h;subst h;simp only[mC];constructor
    ·exact .inl
    ·rintro(h|h)
     ·exact h
     ·exact .inl h
   ·simp only[mC];constructor
    ·rintro(h|h|h)
     ·exact .inr h
     ·exact .inl (.inl h)
     ·exact .inl (.inr h)
    ·rintro((h|h)|h)
     ·exact .inr (.inl h)
     ·exact .inr (.inr h)
     ·exact .inl h
theorem aeM{n:Int}:∀{l:List Int},xK l→xK (ins l n)
 | [],_=>by simp[ins,xK]
 |x::l,h=>by
  obtain⟨h1,h2⟩:=List.pairwise_cons.1 h
  simp only[ins]
  split
  ·rename_i hx
   refine List.pairwise_cons.2 ⟨fun a ha=>?_,aeM h2⟩
   rcases adS.1 ha with ha|rfl
   ·exact h1 a ha
   ·exact hx
  ·split
   ·exact h
   ·rename_i h3 h4
    refine List.pairwise_cons.2 ⟨fun a ha=>?_,h⟩
    rcases List.mem_cons.1 ha with rfl|ha
    ·omega
    ·have:=h1 a ha;omega
theorem jn{q:Int}:∀{y x:List Int},q∈uni x y↔q∈x∨q∈y
 | [],x=>by simp[uni]
 |n::y,x=>by
  show q∈uni (ins x n) y↔_
  rw[jn,adS,mC]
  exact or_assoc
theorem gZ:∀{y x:List Int},xK x→xK (uni x y)
 | [],_,h=>h
 |n::y,x,h=>by
  show xK (uni (ins x n) y)
  exact gZ (aeM h)
theorem pC:∀{x y:List Int},xK x→xK y→(∀q,q∈x↔q∈y)→x=y
 | [],[],_,_,_=>rfl
 | [],b::y,_,_,h=>absurd ((h b).2 (by simp)) (by simp)
 |a::x,[],_,_,h=>absurd ((h a).1 (by simp)) (by simp)
 |a::x,b::y,hx,hy,h=>by
  obtain⟨h1,h2⟩:=List.pairwise_cons.1 hx
  obtain⟨h3,h4⟩:=List.pairwise_cons.1 hy
  have e:a=b:=by
   rcases List.mem_cons.1 ((h a).1 (by simp))with e|e
   ·exact e
   ·rcases List.mem_cons.1 ((h b).2 (by simp))with e2|e2
    ·exact e2.symm
    ·have:=h1 b e2;have:=h3 a e;omega
  subst e
  congr 1
  refine pC h2 h4 fun q=>⟨fun hq=>?_,fun hq=>?_⟩
  ·rcases List.mem_cons.1 ((h q).1 (List.mem_cons_of_mem _ hq))with e|e
   ·have:=h1 q hq;omega
   ·exact e
  ·rcases List.mem_cons.1 ((h q).2 (List.mem_cons_of_mem _ hq))with e|e
   ·have:=h3 q hq;omega
   ·exact e
structure GP where
 null:Bool
 first:List Int
 last:List Int
abbrev GA:=List Int×List (List Int)
def gx(F:List (List Int))(last first:List Int):List (List Int):=last.foldl (fun F i=>F.set (i - 1).toNat (uni (F.getD (i - 1).toNat []) first)) F
def oO(x y:GP):GP:=⟨x.null&&y.null,if x.null then uni x.first y.first else x.first,if y.null then uni x.last y.last else y.last⟩
def orP(x y:GP):GP:=⟨x.null||y.null,uni x.first y.first,uni x.last y.last⟩
mutual
def glu:aD→GA→GP×GA
 |⟨k,s,l⟩,A=>
  if k=1 then(⟨false,[(A.1.length:Int)+1],[(A.1.length:Int)+1]⟩,A.1++[s],A.2++[[]])
  else if k=0 then jt l ⟨true,[],[]⟩ A
  else if k=2 then jy l ⟨false,[],[]⟩ A
  else(⟨(dj l A).1.null||decide (k≠4),(dj l A).1.first,(dj l A).1.last⟩,(dj l A).2.1,
   if k=5 then(dj l A).2.2 else gx (dj l A).2.2 (dj l A).1.last (dj l A).1.first)
def jt:List aD→GP→GA→GP×GA
 | [],out,A=>(out,A)
 |x::l,out,A=>jt l (oO out (glu x A).1) ((glu x A).2.1,gx (glu x A).2.2 out.last (glu x A).1.first)
def jy:List aD→GP→GA→GP×GA
 | [],out,A=>(out,A)
 |x::l,out,A=>jy l (orP out (glu x A).1) (glu x A).2
def dj:List aD→GA→GP×GA
 | [],A=>(⟨false,[],[]⟩,A)
 |x::_,A=>glu x A
end
theorem mh{first:List Int}:∀{last:List Int} {F:List (List Int)},(gx F last first).length=F.length
 | [],_=>rfl
 |i::last,F=>by
  show(gx (F.set _ _) last first).length=_
  rw[mh,List.length_set]
theorem qp{first:List Int}{j:Nat}:∀{last:List Int} {F:List (List Int)} {row:List Int},(∀i∈last,1≤i)→F[j]? =some row→
  ∃row',(gx F last first)[j]? =some row'∧(∀q,q∈row'↔q∈row∨((j:Int)+1∈last∧q∈first))∧(xK row→xK row')
 | [],F,row,_,h=>⟨row,h,fun q=>by simp,id⟩
 |i::last,F,row,hl,h=>by
  have hj:j < F.length:=(List.getElem?_eq_some_iff.1 h).1
  have hi:=hl i (by simp)
  by_cases e:(i - 1).toNat=j
  ·subst e
   obtain⟨row',h1,h2,h3⟩:=qp (first:=first) (last:=last) (F:=F.set (i - 1).toNat (uni (F.getD (i - 1).toNat []) first)) (row:=uni row first) (fun k hk=>hl k (List.mem_cons_of_mem _ hk)) (by
    rw[List.getElem?_set_self hj,gD,h];rfl)
   refine⟨row',h1,fun q=>?_,fun hr=>h3 (gZ hr)⟩
   rw[h2,jn,mC]
   have:(((i - 1).toNat:Nat):Int)+1=i:=by omega
   rw[this]
   constructor
   ·rintro((h|h)|h)
    ·exact .inl h
    ·exact .inr ⟨.inl rfl,h⟩
    ·exact .inr ⟨.inr h.1,h.2⟩
   ·rintro(h|⟨_,h⟩)
    ·exact .inl (.inl h)
    ·exact .inl (.inr h)
  ·obtain⟨row',h1,h2,h3⟩:=qp (first:=first) (last:=last) (F:=F.set (i - 1).toNat (uni (F.getD (i - 1).toNat []) first)) (row:=row) (fun k hk=>hl k (List.mem_cons_of_mem _ hk)) (by
    rw[List.getElem?_set_ne e];exact h)
   refine⟨row',h1,fun q=>?_,h3⟩
   rw[h2,mC]
   constructor
   ·rintro(h|h)
    ·exact .inl h
    ·exact .inr ⟨.inr h.1,h.2⟩
   ·rintro(h|⟨h|h,h4⟩)
    ·exact .inl h
    ·exfalso;omega
    ·exact .inr ⟨h,h4⟩
def jW(P:GP)(F:List (List Int))(lo hi:Int):PA:=⟨P.null=true,(· ∈P.first),(· ∈P.last),fun p q=>(lo < p∧p≤hi)∧∃row,F[(p - 1).toNat]? =some row∧q∈row⟩
theorem PA.ext'{X Y:PA}(h1:X.null↔Y.null)(h2:∀p,X.first p↔Y.first p)(h3:∀p,X.last p↔Y.last p)(h4:∀p q,X.E p q↔Y.E p q):X=Y:=by
 cases X;cases Y
 simp only[PA.mk.injEq]
 exact⟨propext h1,funext fun p=>propext (h2 p),funext fun p=>propext (h3 p),funext fun p=>funext fun q=>propext (h4 p q)⟩
structure iG(P:GP)(A B:GA):Prop where
 sets:A.1 <+: B.1
 len:B.2.length=B.1.length
 old:∀j,j < A.1.length→B.2[j]? =A.2[j]?
 inn:(jW P B.2 (A.1.length:Int) (B.1.length:Int)).In (A.1.length:Int) (B.1.length:Int)
 rows:∀(j:Nat) (row:List Int),A.1.length≤j→B.2[j]? =some row→xK row
 firsts:xK P.first
 lasts:xK P.last
def agq(hit:Int→Int→Bool)(T:List Int)(p a:Int):Prop:=∃s,T[(p - 1).toNat]? =some s∧hit a s=true
def yM(hit:Int→Int→Bool)(P:GP)(A B:GA)(M:List Int→Prop):Prop:=∀T,B.1 <+: T→∀w,(jW P B.2 (A.1.length:Int) (B.1.length:Int)).L (agq hit T) w↔M w
theorem mJ{F:List (List Int)}{last first:List Int}{lo hi p q:Int}(hl:∀i∈last,lo < i∧i≤hi)(h0:0≤lo)(hp:1≤p):
  (∃row,(gx F last first)[(p - 1).toNat]? =some row∧q∈row)↔(∃row,F[(p - 1).toNat]? =some row∧q∈row)∨(((p - 1).toNat < F.length∧p∈last)∧q∈first):=by
 have hpos:∀i∈last,1≤i:=fun i hi=>by have:=hl i hi;omega
 have hpp:(((p - 1).toNat:Nat):Int)+1=p:=by omega
 by_cases hj:(p - 1).toNat < F.length
 ·obtain⟨row',h1,h2,h3⟩:=qp (first:=first) hpos (gE hj)
  rw[h1]
  constructor
  ·rintro⟨row,e,hq⟩
   obtain rfl:=sI e
   rcases(h2 q).1 hq with h|⟨h,h4⟩
   ·exact .inl ⟨_,gE hj,h⟩
   ·rw[hpp]at h;exact .inr ⟨⟨hj,h⟩,h4⟩
  ·rintro(⟨row,e,hq⟩|⟨⟨_,h⟩,h4⟩)
   ·rw[gE hj]at e
    obtain rfl:=sI e
    exact⟨_,rfl,(h2 q).2 (.inl hq)⟩
   ·exact⟨_,rfl,(h2 q).2 (.inr ⟨by rw[hpp];exact h,h4⟩)⟩
 ·have e1:(gx F last first)[(p - 1).toNat]? =none:=gN (by rw[mh];omega)
  have e2:F[(p - 1).toNat]? =none:=gN (by omega)
  rw[e1,e2]
  constructor
  ·rintro⟨_,e,_⟩;cases e
  ·rintro(⟨_,e,_⟩|⟨⟨h,_⟩,_⟩)
   ·cases e
   ·exact absurd h hj
theorem alx{P R:GP}{A B C:GA}(h1:iG P A B)(h2:iG R B C):jW (oO P R) (gx C.2 P.last R.first) (A.1.length:Int) (C.1.length:Int)=(jW P B.2 (A.1.length:Int) (B.1.length:Int)).then_ (jW R C.2 (B.1.length:Int) (C.1.length:Int)):=by
 have lAB:A.1.length≤B.1.length:=h1.sets.length_le
 have lBC:B.1.length≤C.1.length:=h2.sets.length_le
 refine PA.ext' ?_ (fun p=>?_) (fun p=>?_) (fun p q=>?_)
 ·simp[jW,oO,PA.then_]
 ·simp only[jW,oO,PA.then_]
  cases P.null <;> simp[jn]
 ·simp only[jW,oO,PA.then_]
  cases R.null <;> simp[jn,or_comm]
 ·simp only[jW,PA.then_]
  have hl:∀i∈P.last,(A.1.length:Int) < i∧i≤(B.1.length:Int):=fun i hi=>h1.inn.last i hi
  constructor
  ·rintro⟨⟨g1,g2⟩,g3⟩
   rcases(mJ hl (by omega) (by omega)).1 g3 with⟨row,e,hq⟩|⟨⟨_,g4⟩,g5⟩
   ·by_cases hb:p≤(B.1.length:Int)
    ·rw[h2.old _ (by omega)]at e
     exact .inl (.inl ⟨⟨g1,hb⟩,row,e,hq⟩)
    ·exact .inl (.inr ⟨⟨by omega,g2⟩,row,e,hq⟩)
   ·exact .inr ⟨g4,g5⟩
  ·rintro((⟨⟨g1,g2⟩,row,e,hq⟩|⟨⟨g1,g2⟩,row,e,hq⟩)|⟨g4,g5⟩)
   ·refine⟨⟨g1,by omega⟩,(mJ hl (by omega) (by omega)).2 (.inl ⟨row,?_,hq⟩)⟩
    rw[h2.old _ (by omega)];exact e
   ·exact⟨⟨by omega,g2⟩,(mJ hl (by omega) (by omega)).2 (.inl ⟨row,e,hq⟩)⟩
   ·have:=hl p g4
    refine⟨⟨this.1,by omega⟩,(mJ hl (by omega) (by omega)).2 (.inr ⟨⟨?_,g4⟩,g5⟩)⟩
    rw[h2.len];omega
theorem awc{P R:GP}{A B C:GA}(h1:iG P A B)(h2:iG R B C):jW (orP P R) C.2 (A.1.length:Int) (C.1.length:Int)=(jW P B.2 (A.1.length:Int) (B.1.length:Int)).or_ (jW R C.2 (B.1.length:Int) (C.1.length:Int)):=by
 have lAB:A.1.length≤B.1.length:=h1.sets.length_le
 have lBC:B.1.length≤C.1.length:=h2.sets.length_le
 refine PA.ext' ?_ (fun p=>?_) (fun p=>?_) (fun p q=>?_)
 ·simp[jW,orP,PA.or_]
 ·simp only[jW,orP,PA.or_,jn]
 ·simp only[jW,orP,PA.or_,jn]
 ·simp only[jW,PA.or_]
  constructor
  ·rintro⟨⟨g1,g2⟩,row,e,hq⟩
   by_cases hb:p≤(B.1.length:Int)
   ·rw[h2.old _ (by omega)]at e
    exact .inl ⟨⟨g1,hb⟩,row,e,hq⟩
   ·exact .inr ⟨⟨by omega,g2⟩,row,e,hq⟩
  ·rintro(⟨⟨g1,g2⟩,row,e,hq⟩|⟨⟨g1,g2⟩,row,e,hq⟩)
   ·exact⟨⟨g1,by omega⟩,row,by rw[h2.old _ (by omega)];exact e,hq⟩
   ·exact⟨⟨by omega,g2⟩,row,e,hq⟩
theorem ati{P:GP}{A B:GA}(h:iG P A B)(z:Bool):jW ⟨P.null,P.first,P.last⟩ (gx B.2 P.last P.first) (A.1.length:Int) (B.1.length:Int)=(jW P B.2 (A.1.length:Int) (B.1.length:Int)).more:=by
 refine PA.ext' Iff.rfl (fun p=>Iff.rfl) (fun p=>Iff.rfl) (fun p q=>?_)
 simp only[jW,PA.more]
 have hl:∀i∈P.last,(A.1.length:Int) < i∧i≤(B.1.length:Int):=fun i hi=>h.inn.last i hi
 constructor
 ·rintro⟨⟨g1,g2⟩,g3⟩
  rcases(mJ hl (by omega) (by omega)).1 g3 with g|⟨⟨_,g4⟩,g5⟩
  ·exact .inl ⟨⟨g1,g2⟩,g⟩
  ·exact .inr ⟨g4,g5⟩
 ·rintro(⟨⟨g1,g2⟩,g⟩|⟨g4,g5⟩)
  ·exact⟨⟨g1,g2⟩,(mJ hl (by omega) (by omega)).2 (.inl g)⟩
  ·have:=hl p g4
   refine⟨this,(mJ hl (by omega) (by omega)).2 (.inr ⟨⟨?_,g4⟩,g5⟩)⟩
   rw[h.len];omega
theorem yg{F:List (List Int)}{last first:List Int}{n j:Nat}(hl:∀i∈last,(n:Int) < i)(hj:j < n):(gx F last first)[j]? =F[j]? :=by
 induction last generalizing F with
 |nil=>rfl
 |cons i last ih=>
  show(gx (F.set _ _) last first)[j]? =_
  have:=hl i (by simp)
  rw[ih fun k hk=>hl k (List.mem_cons_of_mem _ hk),List.getElem?_set_ne (by omega)]
theorem vb{F:List (List Int)}{last first:List Int}{n:Nat}(hl:∀i∈last,1≤i)(h:∀(j:Nat) (row:List Int),n≤j→F[j]? =some row→xK row)(j:Nat)(row:List Int)(hj:n≤j)(e:(gx F last first)[j]? =some row):xK row:=by
 have hlt:j < F.length:=by have:=(List.getElem?_eq_some_iff.1 e).1;rwa[mh]at this
 obtain⟨row',h1,_,h3⟩:=qp (first:=first) hl (gE hlt)
 rw[h1]at e
 obtain rfl:=sI e
 exact h3 (h j _ hj (gE hlt))
theorem iG.then_{P R:GP}{A B C:GA}(h1:iG P A B)(h2:iG R B C):iG (oO P R) A (C.1,gx C.2 P.last R.first):=by
 have lAB:A.1.length≤B.1.length:=h1.sets.length_le
 have lBC:B.1.length≤C.1.length:=h2.sets.length_le
 have hl:∀i∈P.last,(A.1.length:Int) < i∧i≤(B.1.length:Int):=fun i hi=>h1.inn.last i hi
 refine⟨h1.sets.trans h2.sets,by rw[mh];exact h2.len,fun j hj=>?_,?_,?_,?_,?_⟩
 ·show(gx C.2 P.last R.first)[j]? =_
  rw[yg (n:=A.1.length) (fun i hi=>(hl i hi).1) hj,h2.old j (by omega),h1.old j hj]
 ·show(jW (oO P R) (gx C.2 P.last R.first) (A.1.length:Int) (C.1.length:Int)).In _ _
  rw[alx h1 h2]
  have hi:=asL h1.inn h2.inn (by omega) (by omega)
  exact hi
 ·refine vb (fun i hi=>by have:=hl i hi;omega) fun j row hj e=>?_
  by_cases hb:j < B.1.length
  ·rw[h2.old j hb]at e;exact h1.rows j row hj e
  ·exact h2.rows j row (by omega) e
 ·simp only[oO];split
  ·exact gZ h1.firsts
  ·exact h1.firsts
 ·simp only[oO];split
  ·exact gZ h1.lasts
  ·exact h2.lasts
theorem iG.or_{P R:GP}{A B C:GA}(h1:iG P A B)(h2:iG R B C):iG (orP P R) A C:=by
 have lAB:A.1.length≤B.1.length:=h1.sets.length_le
 have lBC:B.1.length≤C.1.length:=h2.sets.length_le
 refine⟨h1.sets.trans h2.sets,h2.len,fun j hj=>?_,?_,fun j row hj e=>?_,gZ h1.firsts,gZ h1.lasts⟩
 ·rw[h2.old j (by omega),h1.old j hj]
 ·rw[awc h1 h2];exact axU h1.inn h2.inn (by omega) (by omega)
 ·by_cases hb:j < B.1.length
  ·rw[h2.old j hb]at e;exact h1.rows j row hj e
  ·exact h2.rows j row (by omega) e
theorem iG.start(z:Bool){A:GA}(hA:A.2.length=A.1.length):iG ⟨z,[],[]⟩ A A:=
 ⟨List.prefix_refl _,hA,fun _ _=>rfl,⟨fun p h=>(by cases h),fun p h=>(by cases h),fun p q h=>by have h':=h.1;omega⟩,fun j row hj e=>by have:=(List.getElem?_eq_some_iff.1 e).1;omega,List.Pairwise.nil,List.Pairwise.nil⟩
section
variable{hit:Int→Int→Bool}
theorem aqH:∀(n:aD) (A:GA),A.2.length=A.1.length→(glu n A).2.2.length=(glu n A).2.1.length∧iG (glu n A).1 A (glu n A).2∧yM hit (glu n A).1 A (glu n A).2 (kO hit n):=by
 intro n
 induction n using aD.ind with
 |h n ih=>
 have cat:∀(l:List aD),(∀x∈l,x∈n.Kids)→∀(out:GP) (A B:GA) (M:List Int→Prop),iG out A B→yM hit out A B M→iG (jt l out B).1 A (jt l out B).2∧yM hit (jt l out B).1 A (jt l out B).2 (oh M (aaJ hit l)):=by
  intro l
  induction l with
  |nil=>exact fun _ out A B M h1 h2=>⟨h1,fun T hT w=>(h2 T hT w).trans (by rw[aaJ];exact oh.nilR.symm)⟩
  |cons x l ihl=>
   intro hl out A B M h1 h2
   obtain⟨_,g1,g2⟩:=ih x (hl x (by simp)) B h1.len
   have h3:=h1.then_ g1
   obtain⟨r1,r2⟩:=ihl (fun y hy=>hl y (List.mem_cons_of_mem _ hy)) (oO out (glu x B).1) A ((glu x B).2.1,gx (glu x B).2.2 out.last (glu x B).1.first) (oh M (kO hit x)) h3 (fun T hT w=>by
    show(jW (oO out (glu x B).1) (gx (glu x B).2.2 out.last (glu x B).1.first) (A.1.length:Int) ((glu x B).2.1.length:Int)).L (agq hit T) w↔_
    rw[alx h1 g1,awn h1.inn g1.inn]
    exact oh.congr (h2 T (g1.sets.trans hT)) (g2 T hT) w)
   exact⟨r1,fun T hT w=>(r2 T hT w).trans (by rw[aaJ];exact oh.assoc)⟩
 have alt:∀(l:List aD),(∀x∈l,x∈n.Kids)→∀(out:GP) (A B:GA) (M:List Int→Prop),iG out A B→yM hit out A B M→iG (jy l out B).1 A (jy l out B).2∧yM hit (jy l out B).1 A (jy l out B).2 (fun w=>M w∨aiD hit l w):=by
  intro l
  induction l with
  |nil=>exact fun _ out A B M h1 h2=>⟨h1,fun T hT w=>(h2 T hT w).trans (by simp[aiD])⟩
  |cons x l ihl=>
   intro hl out A B M h1 h2
   obtain⟨_,g1,g2⟩:=ih x (hl x (by simp)) B h1.len
   obtain⟨r1,r2⟩:=ihl (fun y hy=>hl y (List.mem_cons_of_mem _ hy)) (orP out (glu x B).1) A (glu x B).2 (fun w=>M w∨kO hit x w) (h1.or_ g1) (fun T hT w=>by
    rw[awc h1 g1,ayn h1.inn g1.inn]
    exact or_congr (h2 T (g1.sets.trans hT) w) (g2 T hT w))
   exact⟨r1,fun T hT w=>(r2 T hT w).trans (by simp only[aiD];exact or_assoc)⟩
 intro A hA
 suffices H:iG (glu n A).1 A (glu n A).2∧yM hit (glu n A).1 A (glu n A).2 (kO hit n) from⟨H.1.len,H⟩
 obtain⟨k,s,l⟩:=n
 by_cases h1:k=1
 ·subst h1
  have e:glu ⟨1,s,l⟩ A=(⟨false,[(A.1.length:Int)+1],[(A.1.length:Int)+1]⟩,A.1++[s],A.2++[[]]):=by rw[glu,if_pos rfl]
  rw[e]
  refine⟨⟨List.prefix_append _ _,by simp[hA],fun j hj=>?_,⟨fun p h=>?_,fun p h=>?_,fun p q h=>?_⟩,fun j row hj e=>?_,by simp,by simp⟩,fun T hT w=>?_⟩
  ·show(A.2++[[]])[j]? =_
   rw[List.getElem?_append_left (by omega)]
  ·simp only[jW,List.mem_singleton]at h;simp only[lA,List.length_singleton];omega
  ·simp only[jW,List.mem_singleton]at h;simp only[lA,List.length_singleton];omega
  ·obtain⟨⟨q1,q2⟩,row,e,hq⟩:=h
   exfalso
   simp only[lA,List.length_singleton]at q2
   have:(p - 1).toNat=A.2.length:=by omega
   rw[this,List.getElem?_concat_length]at e
   obtain rfl:=sI e
   cases hq
  ·have hlt:=(List.getElem?_eq_some_iff.1 e).1
   simp only[lA,List.length_singleton]at hlt
   have:j=A.2.length:=by omega
   subst this
   rw[List.getElem?_concat_length]at e
   obtain rfl:=sI e
   exact List.Pairwise.nil
  ·have hs:T[A.1.length]? =some s:=by
    obtain⟨t,rfl⟩:=hT
    rw[List.append_assoc,List.getElem?_append_right (nR _)];simp
   have hnoE:∀p q,¬ (jW ⟨false,[(A.1.length:Int)+1],[(A.1.length:Int)+1]⟩ (A.2++[[]]) (A.1.length:Int) ((A.1++[s]).length:Int)).E p q:=by
    rintro p q ⟨⟨q1,q2⟩,row,e,hq⟩
    simp only[lA,List.length_singleton]at q2
    have:(p - 1).toNat=A.2.length:=by omega
    rw[this,List.getElem?_concat_length]at e
    obtain rfl:=sI e
    cases hq
   rw[kO,if_pos rfl]
   cases w with
   |nil=>simp[PA.L,jW]
   |cons a w=>
    simp only[PA.L]
    constructor
    ·rintro⟨p,g1,⟨s',g2,g3⟩,g4⟩
     have hp:p=(A.1.length:Int)+1:=by simpa[jW]using g1
     subst hp
     have e3:((A.1.length:Int)+1 - 1).toNat=A.1.length:=by omega
     rw[e3,hs]at g2
     obtain rfl:=sI g2
     cases w with
     |nil=>exact⟨a,rfl,g3⟩
     |cons b w=>obtain⟨q,hE,_⟩:=g4;exact absurd hE (hnoE _ _)
    ·rintro⟨a',e,h⟩
     simp only[List.cons.injEq]at e
     obtain⟨rfl,rfl⟩:=e
     have e3:((A.1.length:Int)+1 - 1).toNat=A.1.length:=by omega
     exact⟨(A.1.length:Int)+1,by simp[jW],⟨s,by rw[e3];exact hs,h⟩,by simp[PA.Acc,jW]⟩
 by_cases h0:k=0
 ·subst h0
  have e:glu ⟨0,s,l⟩ A=jt l ⟨true,[],[]⟩ A:=by rw[glu,if_neg (by decide),if_pos rfl]
  rw[e]
  obtain⟨r1,r2⟩:=cat l (fun x hx=>hx) ⟨true,[],[]⟩ A A (fun w=>w=[]) (iG.start true hA) (fun T hT w=>by
   cases w with
   |nil=>simp[PA.L,jW]
   |cons a w=>simp[PA.L,jW])
  exact⟨r1,fun T hT w=>(r2 T hT w).trans (by rw[kO,if_neg (by decide),if_pos rfl];exact oh.nilL)⟩
 by_cases h2:k=2
 ·subst h2
  have e:glu ⟨2,s,l⟩ A=jy l ⟨false,[],[]⟩ A:=by rw[glu,if_neg (by decide),if_neg (by decide),if_pos rfl]
  rw[e]
  obtain⟨r1,r2⟩:=alt l (fun x hx=>hx) ⟨false,[],[]⟩ A A (fun w=>False) (iG.start false hA) (fun T hT w=>by
   cases w with
   |nil=>simp[PA.L,jW]
   |cons a w=>simp[PA.L,jW])
  exact⟨r1,fun T hT w=>(r2 T hT w).trans (by rw[kO,if_neg (by decide),if_neg (by decide),if_pos rfl];simp)⟩
 have one:iG (dj l A).1 A (dj l A).2∧yM hit (dj l A).1 A (dj l A).2 (ux hit l):=by
  cases l with
  |nil=>
   rw[dj]
   exact⟨iG.start false hA,fun T hT w=>by rw[ux];cases w <;> simp[PA.L,jW]⟩
  |cons x l=>
   rw[dj]
   obtain⟨_,g1,g2⟩:=ih x (by simp) A hA
   exact⟨g1,fun T hT w=>(g2 T hT w).trans (by rw[ux])⟩
 obtain⟨o1,o2⟩:=one
 have hl:∀i∈(dj l A).1.last,(A.1.length:Int) < i∧i≤((dj l A).2.1.length:Int):=fun i hi=>o1.inn.last i hi
 have nul:∀{P Q:GP} {F:List (List Int)} {lo hi:Int} {lab:Int→Int→Prop} {a:Int} {w:List Int},P.first=Q.first→P.last=Q.last→((jW P F lo hi).L lab (a::w)↔(jW Q F lo hi).L lab (a::w)):=by
  intro P Q F lo hi lab a w e1 e2
  have acc:∀(w:List Int) (p:Int),(jW P F lo hi).Acc lab p w↔(jW Q F lo hi).Acc lab p w:=by
   intro w
   induction w with
   |nil=>intro p;simp only[PA.Acc,jW,e2]
   |cons b w ihw=>intro p;simp only[PA.Acc,ihw];simp only[jW]
  simp only[PA.L,acc]
  simp only[jW,e1]
 by_cases h5:k=5
 ·subst h5
  have e:glu ⟨5,s,l⟩ A=(⟨(dj l A).1.null||true,(dj l A).1.first,(dj l A).1.last⟩,(dj l A).2.1,(dj l A).2.2):=by rw[glu,if_neg h1,if_neg h0,if_neg h2];rfl
  rw[e]
  refine⟨⟨o1.sets,o1.len,o1.old,⟨o1.inn.first,o1.inn.last,o1.inn.E⟩,o1.rows,o1.firsts,o1.lasts⟩,fun T hT w=>?_⟩
  rw[kO,if_neg h1,if_neg h0,if_neg h2,if_pos rfl]
  cases w with
  |nil=>simp[PA.L,jW]
  |cons a w=>
   refine(nul (P:=⟨(dj l A).1.null||true,(dj l A).1.first,(dj l A).1.last⟩) (Q:=(dj l A).1) rfl rfl).trans ((o2 T hT (a::w)).trans ?_)
   simp
 have e:glu ⟨k,s,l⟩ A=(⟨(dj l A).1.null||decide (k≠4),(dj l A).1.first,(dj l A).1.last⟩,(dj l A).2.1,gx (dj l A).2.2 (dj l A).1.last (dj l A).1.first):=by rw[glu,if_neg h1,if_neg h0,if_neg h2,if_neg h5]
 have hm:=ati o1 true
 rw[e]
 have hML:∀T,(dj l A).2.1 <+: T→∀w,(jW ⟨(dj l A).1.null,(dj l A).1.first,(dj l A).1.last⟩ (gx (dj l A).2.2 (dj l A).1.last (dj l A).1.first) (A.1.length:Int) ((dj l A).2.1.length:Int)).L (agq hit T) w↔oh (ux hit l) (kf (ux hit l)) w:=fun T hT w=>by
  rw[hm,au6]
  exact oh.congr (o2 T hT) (kf.congr (o2 T hT)) w
 refine⟨⟨o1.sets,by rw[mh];exact o1.len,fun j hj=>?_,?_,?_,o1.firsts,o1.lasts⟩,fun T hT w=>?_⟩
 ·show(gx _ _ _)[j]? =_
  rw[yg (n:=A.1.length) (fun i hi=>(hl i hi).1) hj,o1.old j hj]
 ·have hi:=arD o1.inn
  rw[← hm]at hi
  exact⟨hi.first,hi.last,hi.E⟩
 ·exact vb (fun i hi=>by have:=hl i hi;omega) o1.rows
 ·rw[kO,if_neg h1,if_neg h0,if_neg h2,if_neg h5]
  by_cases h4:k=4
  ·subst h4
   rw[if_pos rfl,← hML T hT w]
   simp
  ·rw[if_neg h4]
   cases w with
   |nil=>simp[PA.L,jW,h4,kf.nil]
   |cons a w=>
    refine(nul (P:=⟨(dj l A).1.null||decide (k≠4),(dj l A).1.first,(dj l A).1.last⟩) (Q:=⟨(dj l A).1.null,(dj l A).1.first,(dj l A).1.last⟩) rfl rfl).trans ((hML T hT (a::w)).trans ?_)
    constructor
    ·rintro⟨u,v,e,h1,h2⟩;rw[e];exact .cons h1 h2
    ·intro h
     rcases h.head with e|⟨b,u,v,e,h1,h2⟩
     ·cases e
     ·exact⟨b::u,v,e,h1,h2⟩
end
section
variable{α:Type}(same:α→α→Bool)
def rz(o:List α)(x:α):Option Nat:=o.findIdx? fun y=>same y x
def nS(o:List α)(x:α):List α×Nat:=match rz same o x with
 |some k=>(o,k)
 |none=>(o++[x],o.length)
def lu:List α→List α→List α×List Int
 |o,[]=>(o,[])
 |o,x::xs=>((lu (nS same o x).1 xs).1,((nS same o x).2:Int)::(lu (nS same o x).1 xs).2)
def bgo(succ:α→List α)(most:Nat):Nat→Nat→List α→List (List Int)→Option (List α×List (List Int))
 |0,i,o,R=>none
 |fu+1,i,o,R=>match o[i]? with
  |none=>some (o,R)
  |some x=>if (lu same o (succ x)).1.length≤most then bgo succ most fu (i+1) (lu same o (succ x)).1 (R++[(lu same o (succ x)).2])else none
end
section
variable{α:Type}{same:α→α→Bool}
theorem aln{o:List α}{x:α}{k:Nat}(h:rz same o x=some k):k < o.length:=by
 unfold rz at h
 exact(List.findIdx?_eq_some_iff_getElem.1 h).1
theorem alj{o:List α}{x:α}{k:Nat}(h:rz same o x=some k):∃y,o[k]? =some y∧same y x=true:=by
 unfold rz at h
 obtain⟨h1,h2,_⟩:=List.findIdx?_eq_some_iff_getElem.1 h
 exact⟨o[k],gE h1,h2⟩
theorem aeZ{o p:List α}{x:α}{k:Nat}(h:rz same o x=some k):rz same (o++p) x=some k:=by
 unfold rz at h ⊢
 rw[List.findIdx?_append,h];rfl
theorem anJ{o:List α}{x:α}(h:rz same o x=none)(hr:same x x=true):rz same (o++[x]) x=some o.length:=by
 unfold rz at h ⊢
 rw[List.findIdx?_append,h]
 simp[List.findIdx?_cons,hr]
theorem akT{o:List α}{x:α}(h:rz same o x=none):∀y∈o,same y x=false:=by
 unfold rz at h
 simpa[List.findIdx?_eq_none_iff]using h
theorem aeQ(o:List α)(x:α):o <+: (nS same o x).1:=by
 unfold nS;split
 ·exact List.prefix_refl _
 ·exact List.prefix_append _ _
theorem amp(hr:∀x,same x x=true)(o:List α)(x:α):rz same (nS same o x).1 x=some (nS same o x).2:=by
 unfold nS;split
 ·rename_i k h;exact h
 ·rename_i h;exact anJ h (hr x)
theorem mO:∀(xs o:List α),o <+: (lu same o xs).1
 | [],o=>List.prefix_refl _
 |x::xs,o=>(aeQ o x).trans (mO xs _)
theorem aen:∀(xs o:List α),(lu same o xs).2.length=xs.length
 | [],o=>rfl
 |x::xs,o=>by simp only[lu,lC,aen xs]
theorem sk:∀(xs o:List α),∀y∈(lu same o xs).1,y∈o∨y∈xs
 | [],o,y,h=>.inl h
 |x::xs,o,y,h=>by
  rcases sk xs _ y h with h|h
  ·unfold nS at h
   split at h
   ·exact .inl h
   ·rcases List.mem_append.1 h with h|h
    ·exact .inl h
    ·exact .inr (by simp at h;simp[h])
  ·exact .inr (List.mem_cons_of_mem _ h)
theorem aey(hr:∀x,same x x=true):∀(xs o:List α) (c:Nat) (x:α),xs[c]? =some x→∃k:Nat,(lu same o xs).2[c]? =some (k:Int)∧rz same (lu same o xs).1 x=some k
 | [],o,c,x,h=>by simp at h
 |y::xs,o,0,x,h=>by
  obtain rfl:y=x:=by simpa using h
  refine⟨(nS same o y).2,rfl,?_⟩
  obtain⟨t,ht⟩:=mO xs (same:=same) (nS same o y).1
  show rz same (lu same (nS same o y).1 xs).1 y=_
  rw[← ht];exact aeZ (amp hr o y)
 |y::xs,o,c+1,x,h=>aey hr xs _ c x (by simpa using h)
def rX(same:α→α→Bool)(o:List α):Prop:=o.Pairwise fun x y=>same x y=false
theorem vY{o:List α}(x:α)(h:rX same o):rX same (nS same o x).1:=by
 unfold nS;split
 ·exact h
 ·rename_i hn
  exact List.pairwise_append.2 ⟨h,by simp,fun a ha b hb=>by
   obtain rfl:=List.mem_singleton.1 hb
   exact akT hn a ha⟩
theorem wa:∀(xs o:List α),rX same o→rX same (lu same o xs).1
 | [],o,h=>h
 |x::xs,o,h=>wa xs _ (vY x h)
structure at7(same:α→α→Bool)(succ:α→List α)(o:List α)(R:List (List Int))(i:Nat):Prop where
 len:R.length=i
 le:i≤o.length
 row:∀(j:Nat) (x:α),j < i→o[j]? =some x→∃r,R[j]? =some r∧r.length=(succ x).length∧∀(c:Nat) (y:α),(succ x)[c]? =some y→∃k:Nat,r[c]? =some (k:Int)∧rz same o y=some k
theorem at7.next{succ:α→List α}{o:List α}{R:List (List Int)}{i:Nat}{x:α}(hr:∀x,same x x=true)(h:at7 same succ o R i)(hx:o[i]? =some x):
  at7 same succ (lu same o (succ x)).1 (R++[(lu same o (succ x)).2]) (i+1):=by
 obtain⟨t,ht⟩:=mO (same:=same) (succ x) o
 have hi:=(List.getElem?_eq_some_iff.1 hx).1
 refine⟨by simp[h.len],by rw[← ht];simp;omega,fun j y hj hy=>?_⟩
 by_cases e:j=i
 ·subst e
  rw[← ht,List.getElem?_append_left hi,hx]at hy
  obtain rfl:=sI hy
  refine⟨(lu same o (succ x)).2,by rw[List.getElem?_append_right (by rw[h.len];exact nR _),h.len];simp only[Nat.sub_self,List.getElem?_cons_zero],aen _ _,fun c z hz=>aey hr _ _ c z hz⟩
 ·rw[← ht,List.getElem?_append_left (by omega)]at hy
  obtain⟨r,h1,h2,h3⟩:=h.row j y (by omega) hy
  refine⟨r,by rw[List.getElem?_append_left (by rw[h.len];omega)];exact h1,h2,fun c z hz=>?_⟩
  obtain⟨k,g1,g2⟩:=h3 c z hz
  exact⟨k,g1,by rw[← ht];exact aeZ g2⟩
theorem adG{succ:α→List α}{most:Nat}(hr:∀x,same x x=true):∀(fu i:Nat) (o:List α) (R:List (List Int)) (o':List α) (R':List (List Int)),at7 same succ o R i→o.length≤most→bgo same succ most fu i o R=some (o',R')→at7 same succ o' R' o'.length∧o <+: o'∧o'.length≤most
 |0,i,o,R,o',R',h,hm,e=>by cases e
 |fu+1,i,o,R,o',R',h,hm,e=>by
  simp only[bgo]at e
  split at e
  ·rename_i hn
   obtain⟨rfl,rfl⟩:=Prod.mk.inj (sI e)
   have:o.length≤i:=List.getElem?_eq_none_iff.1 hn
   have h2:=h.le
   obtain rfl:i=o.length:=by omega
   exact⟨h,List.prefix_refl _,hm⟩
  ·rename_i x hx
   split at e
   ·rename_i hl
    obtain⟨h1,h2,h3⟩:=adG hr fu _ _ _ _ _ (h.next hr hx) hl e
    exact⟨h1,(mO _ _).trans h2,h3⟩
   ·cases e
theorem alV{succ:α→List α}{most:Nat}{P:α→Prop}(hs:∀x,P x→∀y∈succ x,P y):∀(fu i:Nat) (o:List α) (R:List (List Int)) (o':List α) (R':List (List Int)),(∀x∈o,P x)→bgo same succ most fu i o R=some (o',R')→∀x∈o',P x
 |0,i,o,R,o',R',h,e=>by cases e
 |fu+1,i,o,R,o',R',h,e=>by
  simp only[bgo]at e
  split at e
  ·obtain⟨rfl,rfl⟩:=Prod.mk.inj (sI e);exact h
  ·rename_i x hx
   split at e
   ·refine alV hs fu _ _ _ _ _ (fun y hy=>?_) e
    rcases sk _ _ y hy with hy|hy
    ·exact h y hy
    ·exact hs x (h x (List.mem_of_getElem? hx)) y hy
   ·cases e
end
def oq(N:List (List Int))(s c:Nat):Nat:=((N.getD s []).getD c 0).toNat
def tG(N:List (List Int))(s:Nat)(cs:List Nat):Nat:=cs.foldl (oq N) s
theorem aow{N:List (List Int)}{s c k:Nat}{r:List Int}(h1:N[s]? =some r)(h2:r[c]? =some (k:Int)):oq N s c=k:=by
 unfold oq
 rw[gD,gD,h1,gS,h2];rfl
theorem axb{α β:Type}{same:α→α→Bool}{succ:α→List α}{o:List α}{R:List (List Int)}(h:at7 same succ o R o.length){Q:α→β→Prop}{nx:β→Nat→β}{m:Nat}
  (hQ:∀x b c,Q x b→c < m→∃y,(succ x)[c]? =some y∧Q y (nx b c)) (hs:∀y y' b,y'∈o→same y' y=true→Q y b→Q y' b):
  ∀(cs:List Nat),(∀c∈cs,c < m)→∀(s:Nat) (x:α) (b:β),o[s]? =some x→Q x b→∃y,o[tG R s cs]? =some y∧Q y (cs.foldl nx b)
 | [],_,s,x,b,hx,hq=>⟨x,hx,hq⟩
 |c::cs,hc,s,x,b,hx,hq=>by
  obtain⟨y,hy,hq'⟩:=hQ x b c hq (hc c (by simp))
  obtain⟨r,h1,_,h3⟩:=h.row s x (List.getElem?_eq_some_iff.1 hx).1 hx
  obtain⟨k,h4,h5⟩:=h3 c y hy
  obtain⟨z,hz,hsz⟩:=alj h5
  have e:oq R s c=k:=aow h1 h4
  show ∃y,o[tG R (oq R s c) cs]? =some y∧_
  rw[e]
  exact axb h hQ hs cs (fun c' hc'=>hc c' (List.mem_cons_of_mem _ hc')) k z _ hz (hs y z _ (List.mem_of_getElem? hz) hsz hq')
section
variable(hit:Int→Int→Bool)
def stepG(S first:List Int)(F:List (List Int))(at_:List Int)(a:Int):List Int:=
 ((List.range S.length).map fun j:Nat=>(j:Int)+1).filter fun k=>((at_.contains 0&&first.contains k)||at_.any fun i=>decide (0 < i)&&(F.getD (i - 1).toNat []).contains k)&&hit a (S.getD (k - 1).toNat 0)
def acI(S first:List Int)(F:List (List Int))(at_:List Int)(a:Int):List Int:=0::stepG hit S first F at_ a
def awg(null:Bool)(last at_:List Int):Bool:=at_.any fun i=>(decide (i=0)&&null)||last.contains i
def amP(S first:List Int)(F:List (List Int))(w:List Int):List Int:=w.foldl (acI hit S first F) [0]
end
section
variable{hit:Int→Int→Bool}{S first:List Int}{F:List (List Int)}
theorem sS{at_:List Int}{a k:Int}:k∈stepG hit S first F at_ a↔(1≤k∧k≤(S.length:Int))∧((0∈at_∧k∈first)∨∃i∈at_,0 < i∧k∈F.getD (i - 1).toNat [])∧hit a (S.getD (k - 1).toNat 0)=true:=by
 unfold stepG
 simp only[List.mem_filter,List.mem_map,List.mem_range,bA,Bool.or_eq_true,List.contains_iff_mem,List.any_eq_true,decide_eq_true_eq]
 constructor
 ·rintro⟨⟨j,hj,rfl⟩,h⟩
  exact⟨⟨by omega,by omega⟩,h⟩
 ·rintro⟨⟨h1,h2⟩,h⟩
  exact⟨⟨(k - 1).toNat,by omega,by omega⟩,h⟩
theorem vE{at_:List Int}{a:Int}:xK (stepG hit S first F at_ a):=by
 unfold stepG
 refine List.Pairwise.filter _ ?_
 rw[List.pairwise_map]
 exact(List.pairwise_lt_range).imp fun h=>by omega
theorem ze{w:List Int}{a:Int}:amP hit S first F (w++[a])=acI hit S first F (amP hit S first F w) a:=by
 unfold amP;rw[List.foldl_append];rfl
theorem zT(w:List Int):0∈amP hit S first F w:=by
 rcases List.eq_nil_or_concat w with rfl|⟨w',a,rfl⟩
 ·simp[amP]
 ·rw[List.concat_eq_append,ze];simp[acI]
theorem aj7{P:GP}{B:GA}(h:iG P ([],[]) B):∀(v:List Int) (p:Int),p∈amP hit B.1 P.first B.2 v.reverse↔p=0∨(jW P B.2 0 (B.1.length:Int)).FR (agq hit B.1) v p
 | [],p=>by simp[amP,PA.FR]
 |a::v,p=>by
  have ih:=aj7 h v
  rw[List.reverse_cons,ze]
  unfold acI
  rw[mC,sS]
  refine or_congr Iff.rfl ?_
  simp only[PA.FR,agq]
  have hin:(jW P B.2 0 (B.1.length:Int)).In 0 (B.1.length:Int):=h.inn
  have lab:∀{k:Int},1≤k→k≤(B.1.length:Int)→(hit a (B.1.getD (k - 1).toNat 0)=true↔∃s,B.1[(k - 1).toNat]? =some s∧hit a s=true):=fun {k} h1 h2=>by
   rw[gD,gE (by omega)]
   simp
  constructor
  ·rintro⟨⟨h1,h2⟩,h3,h4⟩
   refine⟨(lab h1 h2).1 h4,?_⟩
   rcases h3 with⟨_,h3⟩|⟨i,g1,g2,g3⟩
   ·exact .inl h3
   ·rcases(ih i).1 g1 with e|g1
    ·omega
    ·refine .inr ⟨i,g1,?_⟩
     rw[gD]at g3
     cases e:B.2[(i - 1).toNat]? with
     |none=>rw[e]at g3;simp at g3
     |some row=>
      rw[e]at g3
      have:=(List.getElem?_eq_some_iff.1 e).1
      rw[h.len]at this
      exact⟨⟨by omega,by omega⟩,row,e,g3⟩
  ·rintro⟨h1,h2⟩
   have hp:1≤p∧p≤(B.1.length:Int):=by
    rcases h2 with h2|⟨q,_,h2⟩
    ·have:=hin.first _ h2;omega
    ·have:=hin.E _ _ h2;omega
   refine⟨hp,?_,(lab hp.1 hp.2).2 h1⟩
   rcases h2 with h2|⟨q,g1,g2⟩
   ·exact .inl ⟨zT _,h2⟩
   ·have:=hin.E _ _ g2
    obtain⟨_,row,e,hq⟩:=g2
    refine .inr ⟨q,(ih q).2 (.inr g1),by omega,?_⟩
    rw[gD,e];exact hq
theorem as5{P:GP}{B:GA}(h:iG P ([],[]) B){M:List Int→Prop}(hM:yM hit P ([],[]) B M)(w:List Int):
  awg P.null P.last (amP hit B.1 P.first B.2 w)=true↔∃u v,w=u++v∧M v:=by
 have hin:(jW P B.2 0 (B.1.length:Int)).In 0 (B.1.length:Int):=h.inn
 have h1:(∃u v,w=u++v∧M v)↔∃u v,w=u++v∧(jW P B.2 0 (B.1.length:Int)).L (agq hit B.1) v:=
  exists_congr fun u=>exists_congr fun v=>and_congr Iff.rfl (hM B.1 (List.prefix_refl _) v).symm
 rw[h1,ama]
 unfold awg
 simp only[List.any_eq_true,Bool.or_eq_true,bA,decide_eq_true_eq,List.contains_iff_mem]
 have hst:=aj7 (hit:=hit) h w.reverse
 rw[List.reverse_reverse]at hst
 constructor
 ·rintro⟨i,g1,⟨_,g2⟩|g2⟩
  ·exact .inl g2
  ·rcases(hst i).1 g1 with rfl|g1
   ·have:=hin.last 0 g2;omega
   ·exact .inr ⟨i,g1,g2⟩
 ·rintro(g|⟨q,g1,g2⟩)
  ·exact⟨0,zT w,.inl ⟨rfl,g⟩⟩
  ·exact⟨q,(hst q).2 (.inr g1),.inr g2⟩
end
theorem aap(hit:Int→Int→Bool):∀(n:aD) (w:List Int),kO hit (ji n) w↔kO hit n w.reverse:=by
 intro n
 induction n using aD.ind with
 |h n ih=>
 obtain⟨k,s,l⟩:=n
 have ih':∀x∈l,∀w,kO hit (ji x) w↔kO hit x w.reverse:=ih
 clear ih
 have one:∀w,ux hit (nF l) w↔ux hit l w.reverse:=by
  intro w
  cases l with
  |nil=>simp[nF,ux]
  |cons x l=>rw[nF,ux,ux];exact ih' x (by simp) w
 have alt:∀(l:List aD),(∀x∈l,∀w,kO hit (ji x) w↔kO hit x w.reverse)→∀w,aiD hit (nF l) w↔aiD hit l w.reverse:=by
  intro l
  induction l with
  |nil=>intro _ w;simp[nF,aiD]
  |cons x l ihl=>intro hl w;simp only[nF,aiD];exact or_congr (hl x (by simp) w) (ihl (fun y hy=>hl y (by simp[hy])) w)
 have snoc:∀(l:List aD) (x:aD) (w:List Int),aaJ hit (l++[x]) w↔oh (aaJ hit l) (kO hit x) w:=by
  intro l x
  induction l with
  |nil=>intro w;simp only[List.nil_append,aaJ];exact oh.nilR.trans oh.nilL.symm
  |cons y l ihl=>
   intro w
   simp only[List.cons_append,aaJ]
   exact(oh.congr (fun _=>Iff.rfl) ihl w).trans oh.assoc.symm
 have cat:∀(l:List aD),(∀x∈l,∀w,kO hit (ji x) w↔kO hit x w.reverse)→∀w,aaJ hit (nF l).reverse w↔aaJ hit l w.reverse:=by
  intro l
  induction l with
  |nil=>intro _ w;simp[nF,aaJ]
  |cons x l ihl=>
   intro hl w
   rw[nF,List.reverse_cons,snoc,aaJ]
   have hl':=ihl (fun y hy=>hl y (by simp[hy]))
   constructor
   ·rintro⟨u,v,rfl,h1,h2⟩
    exact⟨v.reverse,u.reverse,by simp,(hl x (by simp) v).1 h2,(hl' u).1 h1⟩
   ·rintro⟨u,v,e,h1,h2⟩
    exact⟨v.reverse,u.reverse,by rw[← List.reverse_append,← e,List.reverse_reverse],(hl' _).2 (by rw[List.reverse_reverse];exact h2),(hl x (by simp) _).2 (by rw[List.reverse_reverse];exact h1)⟩
 intro w
 rw[ji,kO,kO]
 by_cases h1:k=1
 ·rw[if_pos h1,if_pos h1]
  constructor
  ·rintro⟨a,rfl,h⟩;exact⟨a,rfl,h⟩
  ·rintro⟨a,e,h⟩;exact⟨a,by simpa using congrArg List.reverse e,h⟩
 rw[if_neg h1,if_neg h1]
 by_cases h0:k=0
 ·rw[if_pos h0,if_pos h0,if_pos h0];exact cat l ih' w
 rw[if_neg h0,if_neg h0,if_neg h0]
 by_cases h2:k=2
 ·rw[if_pos h2,if_pos h2];exact alt l ih' w
 rw[if_neg h2,if_neg h2]
 have star:∀w,kf (ux hit (nF l)) w↔kf (ux hit l) w.reverse:=fun w=>
  ⟨fun h=>h.rev fun w h=>(one w).1 h,fun h=>by
   have:=kf.rev (Q:=ux hit (nF l)) (fun w h=>(one _).2 (by rw[List.reverse_reverse];exact h)) h
   rwa[List.reverse_reverse]at this⟩
 by_cases h5:k=5
 ·rw[if_pos h5,if_pos h5]
  exact or_congr (by simp) (one w)
 rw[if_neg h5,if_neg h5]
 by_cases h4:k=4
 ·rw[if_pos h4,if_pos h4]
  constructor
  ·rintro⟨u,v,rfl,h1,h2⟩
   rw[List.reverse_append]
   have h3:kf (ux hit l) (v.reverse++u.reverse):=((star v).1 h2).app (.one ((one u).1 h1))
   rcases h3.head with e|⟨a,x,y,e,g1,g2⟩
   ·obtain⟨e1,e2⟩:=List.append_eq_nil_iff.1 e
    rw[e1,e2]
    exact⟨[],[],rfl,by rw[← e2];exact(one u).1 h1,.nil⟩
   ·rw[e];exact⟨a::x,y,rfl,g1,g2⟩
  ·rintro⟨u,v,e,h1,h2⟩
   have h3:kf (ux hit (nF l)) (v.reverse++u.reverse):=((star _).2 (by rw[List.reverse_reverse];exact h2)).app (.one ((one _).2 (by rw[List.reverse_reverse];exact h1)))
   have ew:w=v.reverse++u.reverse:=by rw[← List.reverse_append,← e,List.reverse_reverse]
   rw[ew]
   rcases h3.head with e|⟨a,x,y,e,g1,g2⟩
   ·obtain⟨e1,e2⟩:=List.append_eq_nil_iff.1 e
    rw[e1,e2]
    exact⟨[],[],rfl,by rw[← e2];exact(one _).2 (by rw[List.reverse_reverse];exact h1),.nil⟩
   ·rw[e];exact⟨a::x,y,rfl,g1,g2⟩
 ·rw[if_neg h4,if_neg h4];exact star w
end Go.Val

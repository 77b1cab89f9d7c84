/- A value semantics of the model's programs, sound against it, and functions read off the given program with the proofs that it runs so; no condition. -/
import Derived.Test.YtmfelmglmhjggaaGreatOwnG
set_option linter.all false
set_option linter.unnecessarySimpa false
set_option linter.unusedVariables false
set_option linter.unusedSimpArgs false
namespace Go.Val
noncomputable section
def okK(k s:Int)(m:Nat):Bool:=if k=1 then decide (m=0)&&(decide (0≤s)&&decide (s≤63))else if k=0 then true else if k=2 then decide (0 < m)else(decide (3≤k)&&decide (k≤5))&&decide (m=1)
mutual
def okN:aD→Bool
 |⟨k,s,l⟩=>okK k s l.length&&ajA l
def ajA:List aD→Bool
 | []=>true
 |x::l=>okN x&&ajA l
end
theorem pR(n:aD):okN n=(okK n.Kind n.Set n.Kids.length&&ajA n.Kids):=by cases n;rw[okN]
theorem jN:∀{l:List aD},ajA l=l.all okN
 | []=>rfl
 |x::l=>by rw[ajA,jN,List.all_cons]
theorem wJ{n x:aD}(h:okN n=true)(hx:x∈n.Kids):okN x=true:=by
 rw[pR,bA,jN]at h
 exact List.all_eq_true.1 h.2 x hx
theorem axs{l:List aD}{f:aD→Option Bool}{g:aD→Bool}(hf:∀x∈l,f x=some (g x))(hl:l.length≤1000000):cC l f=some (l.any g):=by
 unfold cC aL
 have key:∀d k:Nat,k+d=l.length→∃i:Int,Loop (aL.b1 l f) (k:Int)=some i∧decide (i≥0)=(l.drop k).any g:=by
  intro d
  induction d with
  |zero=>
   intro k hk
   refine⟨-1,bK ?_,?_⟩
   ·simp only[aL.b1]
    rw[if_neg (by simp;omega)];rfl
   ·rw[List.drop_of_length_le (by omega)];rfl
  |succ d ih=>
   intro k hk
   have hlt:k < l.length:=by omega
   rw[List.drop_eq_getElem_cons hlt,List.any_cons]
   cases hg:g l[k]with
   |true=>
    refine⟨k,cP ?_,by simp⟩
    simp only[aL.b1]
    rw[if_pos (by simp;omega),bz,gE hlt,oB,hf _ (gM _),hg];rfl
   |false=>
    obtain⟨i,h1,h2⟩:=ih (k+1) (by omega)
    refine⟨i,?_,by rw[h2];rfl⟩
    rw[bM (s':=((k+1:Nat):Int)),h1]
    simp only[aL.b1]
    rw[if_pos (by simp;omega),bz,gE hlt,oB,hf _ (gM _),hg,oB,if_neg (by simp),eN (by omega)]
 obtain⟨i,h1,h2⟩:=key l.length 0 (by omega)
 have h1':Loop (aL.b1 l f) (0:Int)=some i:=h1
 rw[h1',oB,h2,List.drop_zero]
theorem aoS:∀(n:aD) (fu:Nat),dp n≤fu→dp n≤100000→bB.r fu n=some (okN n):=by
 intro n
 induction n using aD.ind with
 |h n ih=>
 intro fu hfu hsz
 cases fu with
 |zero=>have:=fJ n;omega
 |succ fu=>
 have hk1:∀fits:Bool,bB.k1 (bB.r fu) n fits=some (fits&&ajA n.Kids):=by
  intro fits
  unfold bB.k1
  cases fits with
  |false=>rfl
  |true=>
   rw[if_pos rfl,axs (g:=fun x=>!okN x) (fun x hx=>?_) (by have:=nz n;omega)]
   ·simp only[oB,Bool.true_and,jN]
    congr 1
    rw[Bool.eq_iff_iff]
    simp
   ·unfold iZ
    rw[ih x hx fu (by have:=dT hx;omega) (by have:=dT hx;omega)];rfl
 have hk2:∀b:Bool,bB.k2 (bB.r fu) n b=some ((b&&decide (n.Kids.length=1))&&ajA n.Kids):=by
  intro b
  unfold bB.k2
  cases b with
  |false=>rw[if_neg (by simp),hk1];rfl
  |true=>
   rw[if_pos rfl,hk1]
   congr 2
   rw[Bool.eq_iff_iff]
   simp only[beq_iff_eq,Bool.true_and,decide_eq_true_eq]
   omega
 rw[bB.r,pR]
 unfold okK
 by_cases h1:n.Kind=1
 ·rw[if_pos (by simp[h1]),if_pos h1]
  by_cases h2:n.Kids.length=0
  ·rw[if_pos (by simp[h2])]
   by_cases h3:0≤n.Set
   ·rw[if_pos (by simpa using h3),hk1];simp[h2,h3]
   ·rw[if_neg (by simpa using h3),hk1];simp[h3]
  ·rw[if_neg (by simpa using h2),hk1];simp[h2]
 rw[if_neg (by simpa using h1),if_neg h1]
 by_cases h0:n.Kind=0
 ·rw[if_pos (by simp[h0]),if_pos h0,hk1]
 rw[if_neg (by simpa using h0),if_neg h0]
 by_cases h2:n.Kind=2
 ·rw[if_pos (by simp[h2]),if_pos h2,hk1];simp
 rw[if_neg (by simpa using h2),if_neg h2]
 by_cases h3:n.Kind=3
 ·rw[if_pos (by simp[h3]),hk2];simp[h3]
 rw[if_neg (by simpa using h3)]
 by_cases h4:n.Kind=4
 ·rw[if_pos (by simp[h4]),hk2];simp[h4]
 rw[if_neg (by simpa using h4),hk2]
 congr 2
 rw[Bool.eq_iff_iff]
 simp only[bA,beq_iff_eq,decide_eq_true_eq]
 omega
theorem akx{n:aD}(h:dp n≤100000):bB n=some (okN n):=qb (dp n) fun fu hf=>aoS n fu hf h
theorem yB{sets:Nat}{k:Int}:∀{l:List aD} {d g:Nat} {x:aD},sd sets k l d g=true→x∈l→og sets x (uJ k x d) g=true
 |y::l,d,g,x,h,hx=>by
  rw[sd]at h
  simp only[bA]at h
  rcases List.mem_cons.1 hx with rfl|hx
  ·exact h.2.1
  ·exact yB h.2.2 hx
theorem sK{sets:Nat}(hs:sets≤60):∀(n:aD) (d g:Nat),og sets n d g=true→okN n=true:=by
 intro n
 induction n using aD.ind with
 |h n ih=>
 intro d g h
 rw[xL]at h
 rw[pR]
 unfold okK
 by_cases h1:n.Kind=1
 ·rw[if_pos h1]at h ⊢
  simp only[bA,decide_eq_true_eq,List.isEmpty_iff]at h ⊢
  rw[h.1]
  exact⟨⟨rfl,h.2.1,by omega⟩,rfl⟩
 rw[if_neg h1]at h ⊢
 simp only[bA,decide_eq_true_eq]at h
 have hfit:=h.2.1
 have hl:ajA n.Kids=true:=by
  rw[jN,List.all_eq_true]
  intro x hx
  have:=yB h.2.2.2 hx
  exact ih x hx _ _ this
 rw[hl,Bool.and_true]
 unfold adt aho at hfit
 by_cases h0:n.Kind=0
 ·rw[if_pos h0]
 rw[if_neg h0]at hfit ⊢
 by_cases h2:n.Kind=2
 ·rw[if_pos h2]at hfit ⊢
  simp only[decide_eq_true_eq]at hfit ⊢;omega
 ·rw[if_neg h2]at hfit ⊢;exact hfit
end
noncomputable section
theorem ar7:∀(n:aD) (fu:Nat),dp n≤fu→dp n≤100000→∃c:Nat,bN.r fu n=some (c:Int)∧c≤dp n:=by
 intro n
 induction n using aD.ind with
 |h n ih=>
 intro fu hfu hsz
 cases fu with
 |zero=>have:=fJ n;omega
 |succ fu=>
 rw[bN.r]
 by_cases h1:n.Kind=1
 ·rw[if_pos (by simp[h1])]
  exact⟨1,rfl,fJ n⟩
 rw[if_neg (by simpa using h1)]
 have loop:∀(l:List aD) (i k:Nat),n.Kids.drop i=l→k+dQ l≤dp n→∃c:Nat,Loop (bN.b1 (bN.r fu) n) ((k:Int),(i:Int))=some (c:Int)∧c≤k+dQ l:=by
  intro l
  induction l with
  |nil=>
   intro i k hl hb
   have hi:n.Kids.length≤i:=List.drop_eq_nil_iff.1 hl
   refine⟨k,bK ?_,by omega⟩
   simp only[bN.b1]
   rw[if_neg (by simp;omega)];rfl
  |cons x l ihl=>
   intro i k hl hb
   obtain⟨hil,hx,hd⟩:=drop_cons hl
   have hxm:x∈n.Kids:=hx ▸ gM hil
   rw[dQ]at hb ⊢
   obtain⟨c,h1,h2⟩:=ih x hxm fu (by have:=dT hxm;omega) (by have:=dT hxm;omega)
   obtain⟨c',h3,h4⟩:=ihl (i+1) (k+c) hd (by omega)
   refine⟨c',?_,by omega⟩
   rw[← h3]
   refine bM ?_
   simp only[bN.b1]
   rw[if_pos (by simpa using hil),bz,gE hil,oB,hx,h1,oB,w64 (n:=(k:Int)+(c:Int)) (by omega) (by omega),eN (by have:=nz n;omega)]
   rfl
 have hs:=jO n
 obtain⟨c,h1,h2⟩:=loop n.Kids 0 0 rfl (by omega)
 exact⟨c,h1,by omega⟩
theorem count_eq{n:aD}(h:dp n≤100000):∃c:Nat,bN n=some (c:Int)∧c≤dp n:=by
 have hst:∀fu,dp n≤fu→bN.r fu n=bN.r (dp n) n:=by
  have key:∀(n:aD) (fu:Nat),dp n≤fu→bN.r fu n=bN.r (dp n) n:=by
   intro n
   induction n using aD.ind with
   |h n ih=>
   intro fu hfu
   have hp:=fJ n
   obtain⟨fu,rfl⟩:∃k,fu=k+1:=⟨fu - 1,by omega⟩
   obtain⟨m,hm⟩:∃m,dp n=m+1:=⟨dp n - 1,by omega⟩
   rw[hm,bN.r,bN.r]
   have hb:bN.b1 (bN.r fu) n=bN.b1 (bN.r m) n:=by
    funext p
    obtain⟨k,v⟩:=p
    simp only[bN.b1]
    split
    ·cases hx:idx n.Kids v with
     |none=>rfl
     |some x=>
      have hxm:x∈n.Kids:=by
       unfold idx at hx
       split at hx
       ·cases hx
       ·exact List.mem_of_getElem? hx
      have hk:=dT hxm
      rw[oB,oB,ih x hxm fu (by omega),ih x hxm m (by omega)]
    ·rfl
   rw[hb]
  exact key n
 obtain⟨c,h1,h2⟩:=ar7 n (dp n) (nR _) h
 exact⟨c,qb (dp n) fun fu hfu=>by rw[hst fu hfu,h1],h2⟩
theorem alf{p q:List Int}(h:p.length+q.length≤1000000):an [p,q]=some (p++q):=by
 unfold an
 have e1:an.b2 [p,q] ((0:Int),(0:Int))=some (.next ((p.length:Int),(1:Int))):=by
  simp only[an.b2]
  rw[if_pos (by simp)]
  show(some p).bind _=_
  rw[oB,w64 (n:=0+(p.length:Int)) (by omega) (by omega),if_neg (by simp)]
  simp[show IntKind.i64.wrap 1=1 by decide]
 have e2:an.b2 [p,q] ((p.length:Int),(1:Int))=some (.next (((p.length+q.length:Nat):Int),(2:Int))):=by
  simp only[an.b2]
  rw[if_pos (by simp)]
  show(some q).bind _=_
  rw[oB,w64 (n:=(p.length:Int)+(q.length:Int)) (by omega) (by omega),if_neg (by simp;omega)]
  simp[show IntKind.i64.wrap 2=2 by decide]
 rw[bM e1,bM e2]
 refine bK ?_
 simp only[an.b2]
 rw[if_neg (by simp)]
 unfold an.k1 dI
 rw[if_pos ⟨rfl,by omega,by omega⟩,oB]
 congr 1
 have f1:an.b1 [p,q] ([],(0:Int))=some (.next (p,(1:Int))):=by
  simp only[an.b1]
  rw[if_pos (by simp)]
  show(some p).bind _=_
  rw[oB,cK (by simp;omega)]
  simp[show IntKind.i64.wrap 1=1 by decide]
 have f2:an.b1 [p,q] (p,(1:Int))=some (.next (p++q,(2:Int))):=by
  simp only[an.b1]
  rw[if_pos (by simp)]
  show(some q).bind _=_
  rw[oB,cK (by omega)]
  simp[show IntKind.i64.wrap 2=2 by decide]
 rw[bM f1,bM f2]
 refine bK ?_
 simp only[an.b1]
 rw[if_neg (by simp)];rfl
theorem amo{p q:List Int}(h:p.length+q.length≤1000000):ct p q=some (uni [] (p++q)):=by
 unfold ct
 have hr:dU=140737488355328:=rfl
 rw[alf h,oB]
 unfold tC
 rw[if_pos (by simp;omega),oB]
 unfold cG
 have hlen:((p++q).mergeSort fun x y=>decide (x≤y)).length=(p++q).length:=List.length_mergeSort ..
 rw[if_pos (by rw[hlen];simp;omega),oB]
 congr 1
 have hs:((p++q).mergeSort fun x y=>decide (x≤y)).Pairwise (· ≤ ·):=by
  have:=List.pairwise_mergeSort (le:=fun x y:Int=>decide (x≤y)) (fun a b c h1 h2=>by simp only[decide_eq_true_eq]at*;omega) (fun a b=>by simp only[Bool.or_eq_true,decide_eq_true_eq];omega) (p++q)
  exact this.imp fun h=>by simpa using h
 obtain⟨c1,c2,_⟩:=nE hs
 refine pC c1 (gZ List.Pairwise.nil) fun x=>?_
 rw[c2,jn,List.mem_mergeSort]
 simp
theorem alI{p q:List Int}(hp:xK p)(h:p.length+q.length≤1000000):ct p q=some (uni p q):=by
 rw[amo h]
 congr 1
 refine pC (gZ List.Pairwise.nil) (gZ hp) fun x=>?_
 rw[jn,jn,List.mem_append];simp
structure Bd(N:Nat)(l:List Int):Prop where
 rise:xK l
 le:∀q∈l,1≤q∧q≤(N:Int)
theorem aex:∀{l:List Int} {a b:Int},xK l→(∀q∈l,a≤q∧q≤b)→(l.length:Int)≤b - a+1∨l=[]
 | [],a,b,_,_=>.inr rfl
 |x::l,a,b,h,hl=>by
  obtain⟨h1,h2⟩:=List.pairwise_cons.1 h
  have hx:=hl x (by simp)
  left
  rcases aex (a:=x+1) (b:=b) h2 (fun q hq=>⟨by have:=h1 q hq;omega,(hl q (by simp[hq])).2⟩)with h3|h3
  ·simp only[lC];omega
  ·subst h3;simp;omega
theorem Bd.len{N:Nat}{l:List Int}(h:Bd N l):l.length≤N:=by
 rcases aex h.rise h.le with h1|h1
 ·omega
 ·subst h1;simp
theorem Bd.uni{N:Nat}{x y:List Int}(hx:Bd N x)(hy:Bd N y):Bd N (uni x y):=⟨gZ hx.rise,fun q hq=>(jn.1 hq).elim (hx.le q) (hy.le q)⟩
theorem Bd.nil{N:Nat}:Bd N []:=⟨List.Pairwise.nil,fun q h=>by cases h⟩
theorem Bd.mono{N M:Nat}{l:List Int}(h:Bd N l)(hm:N≤M):Bd M l:=⟨h.rise,fun q hq=>by have:=h.le q hq;omega⟩
theorem sX{N:Nat}{x y:List Int}(hN:N≤1000)(hx:Bd N x)(hy:Bd N y):ct x y=some (uni x y):=alI hx.rise (by have:=hx.len;have:=hy.len;omega)
def wD(N:Nat)(F:List (List Int)):Prop:=∀row∈F,Bd N row
theorem aip{F:List (List Int)}{l first:List Int}{i:Int}:gx F (l++[i]) first=(gx F l first).set (i - 1).toNat (uni ((gx F l first).getD (i - 1).toNat []) first):=by
 unfold gx;rw[List.foldl_append];rfl
theorem aeg{N:Nat}{first:List Int}(hf:Bd N first):∀{last:List Int} {F:List (List Int)},wD N F→wD N (gx F last first)
 | [],F,h=>h
 |i::last,F,h=>by
  show wD N (gx (F.set _ _) last first)
  refine aeg hf fun row hr=>?_
  rcases List.mem_or_eq_of_mem_set hr with hr|rfl
  ·exact h row hr
  ·refine Bd.uni ?_ hf
   rw[gD]
   cases e:F[(i - 1).toNat]? with
   |none=>exact Bd.nil
   |some r=>exact h r (List.mem_of_getElem? e)
theorem ak9{N:Nat}(hN:N≤1000){a:cM}{last first:List Int}(hF:wD N a.Follow)(hf:Bd N first)(hl:Bd N last)(hlen:∀i∈last,i≤(a.Follow.length:Int)):
  cO last first a=some ⟨a.Null,a.Sets,a.First,a.Last,gx a.Follow last first⟩:=by
 unfold cO
 have hll:=hl.len
 have hrun:=dZ (b:=cO.b1 last first a) (fun j:Nat=>((j:Int),gx a.Follow (last.take j) first)) (i:=0) (n:=last.length) (Nat.zero_le _) (fun j _ hj=>by
  simp only[cO.b1]
  have hi:=hl.le last[j] (gM _)
  have hi2:=hlen last[j] (gM _)
  have hw:IntKind.i64.wrap (last[j] - 1)=(((last[j] - 1).toNat:Nat):Int):=by rw[w64 (by omega) (by omega)];omega
  have hlt:(last[j] - 1).toNat < (gx a.Follow (last.take j) first).length:=by rw[mh];omega
  have hrow:Bd N (gx a.Follow (last.take j) first)[(last[j] - 1).toNat]:=aeg hf hF _ (gM _)
  rw[if_pos (by simpa using hj),bz,gE hj,oB,hw,bz,gE hlt,oB,sX hN hrow hf,oB,eN (by omega)]
  simp only[Int.toNat_natCast]
  rw[ej hj,aip,gD,gE hlt];rfl)
 have h0:((0:Int),a.Follow)=(fun j:Nat=>((j:Int),gx a.Follow (last.take j) first)) 0:=rfl
 rw[h0,hrun]
 refine bK ?_
 simp only[cO.b1]
 rw[if_neg (by simp),List.take_length];rfl
def gp(x:GP):aB:=⟨x.null,x.first,x.last⟩
theorem then_eq{N:Nat}(hN:N≤1000){a:cM}{x y:GP}(hF:wD N a.Follow)(h1:Bd N x.first)(h2:Bd N x.last)(h3:Bd N y.first)(h4:Bd N y.last)(hlen:∀i∈x.last,i≤(a.Follow.length:Int)):
  ch (gp x) (gp y) a=some (gp (oO x y),⟨a.Null,a.Sets,a.First,a.Last,gx a.Follow x.last y.first⟩):=by
 obtain⟨xn,xf,xl⟩:=x
 obtain⟨yn,yf,yl⟩:=y
 show ch ⟨xn,xf,xl⟩ ⟨yn,yf,yl⟩ a=_
 have k1:∀(r:cM) (fi:List Int),ch.k1 ⟨xn,xf,xl⟩ ⟨yn,yf,yl⟩ r fi=some (⟨xn&&yn,fi,if yn then uni xl yl else yl⟩,r):=by
  intro r fi
  unfold ch.k1
  cases yn with
  |true=>rw[if_pos rfl,sX hN h2 h4];rfl
  |false=>rw[if_neg (by simp)];rfl
 unfold ch
 rw[ak9 hN hF h3 h2 hlen,oB]
 cases xn with
 |true=>rw[if_pos rfl,sX hN h1 h3,oB,k1];rfl
 |false=>rw[if_neg (by simp),k1];rfl
theorem or_eq{N:Nat}(hN:N≤1000){x y:GP}(h1:Bd N x.first)(h2:Bd N x.last)(h3:Bd N y.first)(h4:Bd N y.last):fO (gp x) (gp y)=some (gp (orP x y)):=by
 obtain⟨xn,xf,xl⟩:=x
 obtain⟨yn,yf,yl⟩:=y
 show fO ⟨xn,xf,xl⟩ ⟨yn,yf,yl⟩=_
 unfold fO
 rw[sX hN h1 h3,sX hN h2 h4]
 cases xn with
 |true=>rw[if_pos rfl];rfl
 |false=>rw[if_neg (by simp)];rfl
end
noncomputable section
theorem xJ:∀(n:aD) (A:GA),(glu n A).2.1.length≤A.1.length+dp n:=by
 intro n
 induction n using aD.ind with
 |h n ih=>
 intro A
 obtain⟨k,s,l⟩:=n
 have ih':∀x∈l,∀A,(glu x A).2.1.length≤A.1.length+dp x:=ih
 have cat:∀(l':List aD),(∀x∈l',x∈l)→∀(out:GP) (A:GA),(jt l' out A).2.1.length≤A.1.length+dQ l':=by
  intro l'
  induction l' with
  |nil=>intro _ out A;rw[jt,dQ];exact nR _
  |cons x l' ihl=>
   intro hl out A
   rw[jt,dQ]
   have h1:=ih' x (hl x (by simp)) A
   have h2:=ihl (fun y hy=>hl y (by simp[hy])) (oO out (glu x A).1) ((glu x A).2.1,gx (glu x A).2.2 out.last (glu x A).1.first)
   simp only at h2;omega
 have alt:∀(l':List aD),(∀x∈l',x∈l)→∀(out:GP) (A:GA),(jy l' out A).2.1.length≤A.1.length+dQ l':=by
  intro l'
  induction l' with
  |nil=>intro _ out A;rw[jy,dQ];exact nR _
  |cons x l' ihl=>
   intro hl out A
   rw[jy,dQ]
   have h1:=ih' x (hl x (by simp)) A
   have h2:=ihl (fun y hy=>hl y (by simp[hy])) (orP out (glu x A).1) (glu x A).2
   omega
 have hs:=jO ⟨k,s,l⟩
 simp only at hs
 rw[glu]
 split
 ·simp only[lA,List.length_singleton];omega
 ·split
  ·have:=cat l (fun x hx=>hx) ⟨true,[],[]⟩ A;omega
  ·split
   ·have:=alt l (fun x hx=>hx) ⟨false,[],[]⟩ A;omega
   ·have:(dj l A).2.1.length≤A.1.length+dQ l:=by
     cases l with
     |nil=>rw[dj];exact Nat.le_add_right _ _
     |cons x l=>rw[dj,dQ];have:=ih' x (by simp) A;omega
    simp only;omega
structure In2(N:Nat)(P:GP)(A B:GA):Prop where
 g:iG P A B
 len:B.1.length≤N
 bd:wD N A.2
theorem In2.all{N:Nat}{P:GP}{A B:GA}(h:In2 N P A B):wD N B.2:=by
 intro row hr
 obtain⟨j,hj,rfl⟩:=List.getElem_of_mem hr
 by_cases hb:j < A.1.length
 ·have:=h.g.old j hb
  rw[gE hj]at this
  exact h.bd _ (List.mem_of_getElem? this.symm)
 ·refine⟨h.g.rows j _ (by omega) (gE hj),fun q hq=>?_⟩
  have hjl:j < B.1.length:=by rw[← h.g.len];exact hj
  have:=(h.g.inn.E ((j:Int)+1) q ⟨⟨by omega,by omega⟩,B.2[j],by
   rw[show((j:Int)+1 - 1).toNat=j by omega];exact gE hj,hq⟩).2
  have:=h.len
  omega
theorem In2.first{N:Nat}{P:GP}{A B:GA}(h:In2 N P A B):Bd N P.first:=⟨h.g.firsts,fun q hq=>by have:=h.g.inn.first q hq;have:=h.len;omega⟩
theorem In2.last{N:Nat}{P:GP}{A B:GA}(h:In2 N P A B):Bd N P.last:=⟨h.g.lasts,fun q hq=>by have:=h.g.inn.last q hq;have:=h.len;omega⟩
theorem aqI:∀(n:aD) (fu:Nat) (A:GA) (nu:Bool) (fi la:List Int),dp n≤fu→okN n=true→A.1.length+dp n≤1000→A.2.length=A.1.length→wD 1000 A.2→
  aX.r fu ⟨nu,A.1,fi,la,A.2⟩ n=some (gp (glu n A).1,⟨nu,(glu n A).2.1,fi,la,(glu n A).2.2⟩):=by
 intro n
 induction n using aD.ind with
 |h n ih=>
 intro fu A nu fi la hfu hok hsz hA hbd
 have hp:=fJ n
 obtain⟨fu,rfl⟩:∃k,fu=k+1:=⟨fu - 1,by omega⟩
 have hs:=jO n
 have gl:∀(x:aD) (A:GA),A.2.length=A.1.length→iG (glu x A).1 A (glu x A).2:=fun x A h=>(aqH (hit:=fun _ _=>true) x A h).2.1
 have cat:∀(l:List aD) (i:Nat),n.Kids.drop i=l→∀(out:GP) (A0 B:GA),In2 1000 out A0 B→B.1.length+dQ l≤1000→
   Loop (aX.b1 (aX.r fu) n) ((i:Int),out.null,out.first,out.last,nu,B.1,fi,la,B.2)=some (gp (jt l out B).1,⟨nu,(jt l out B).2.1,fi,la,(jt l out B).2.2⟩):=by
  intro l
  induction l with
  |nil=>
   intro i hl out A0 B hI hb
   have hi:n.Kids.length≤i:=List.drop_eq_nil_iff.1 hl
   refine bK ?_
   simp only[aX.b1]
   rw[if_neg (by simp;omega)];rfl
  |cons x l ihl=>
   intro i hl out A0 B hI hb
   obtain⟨hil,hx,hd⟩:=drop_cons hl
   have hxm:x∈n.Kids:=hx ▸ gM hil
   have hk:=dT hxm
   rw[dQ]at hb
   have h1:=ih x hxm fu B nu fi la (by omega) (wJ hok hxm) (by omega) hI.g.len hI.all
   have hgx:=gl x B hI.g.len
   have hlx:=xJ x B
   have hIx:In2 1000 (glu x B).1 B (glu x B).2:=⟨hgx,by omega,hI.all⟩
   have h2:=then_eq (N:=1000) (nR _) (a:=⟨nu,(glu x B).2.1,fi,la,(glu x B).2.2⟩) (x:=out) (y:=(glu x B).1) hIx.all hI.first hI.last hIx.first hIx.last (fun q hq=>by
    have h3:=(hI.g.inn.last q hq).2
    have h4:=hgx.sets.length_le
    show q≤((glu x B).2.2.length:Int)
    rw[hgx.len];omega)
   have hI2:In2 1000 (oO out (glu x B).1) A0 ((glu x B).2.1,gx (glu x B).2.2 out.last (glu x B).1.first):=⟨hI.g.then_ hgx,by simp only;omega,hI.bd⟩
   have h5:=ihl (i+1) hd (oO out (glu x B).1) A0 ((glu x B).2.1,gx (glu x B).2.2 out.last (glu x B).1.first) hI2 (by simp only;omega)
   rw[jt,← h5]
   refine bM ?_
   simp only[aX.b1]
   have e1:(⟨out.null,out.first,out.last⟩:aB)=gp out:=rfl
   rw[if_pos (by simpa using hil),bz,gE hil,oB,hx,h1,oB,e1,h2,oB,eN (by have:=nz n;omega)]
   rfl
 have alt:∀(l:List aD) (i:Nat),n.Kids.drop i=l→∀(out:GP) (A0 B:GA),In2 1000 out A0 B→B.1.length+dQ l≤1000→
   Loop (aX.b2 (aX.r fu) n) ((i:Int),out.null,out.first,out.last,nu,B.1,fi,la,B.2)=some (gp (jy l out B).1,⟨nu,(jy l out B).2.1,fi,la,(jy l out B).2.2⟩):=by
  intro l
  induction l with
  |nil=>
   intro i hl out A0 B hI hb
   have hi:n.Kids.length≤i:=List.drop_eq_nil_iff.1 hl
   refine bK ?_
   simp only[aX.b2]
   rw[if_neg (by simp;omega)];rfl
  |cons x l ihl=>
   intro i hl out A0 B hI hb
   obtain⟨hil,hx,hd⟩:=drop_cons hl
   have hxm:x∈n.Kids:=hx ▸ gM hil
   have hk:=dT hxm
   rw[dQ]at hb
   have h1:=ih x hxm fu B nu fi la (by omega) (wJ hok hxm) (by omega) hI.g.len hI.all
   have hgx:=gl x B hI.g.len
   have hlx:=xJ x B
   have hIx:In2 1000 (glu x B).1 B (glu x B).2:=⟨hgx,by omega,hI.all⟩
   have h2:=or_eq (N:=1000) (nR _) (x:=out) (y:=(glu x B).1) hI.first hI.last hIx.first hIx.last
   have hI2:In2 1000 (orP out (glu x B).1) A0 (glu x B).2:=⟨hI.g.or_ hgx,by omega,hI.bd⟩
   have h5:=ihl (i+1) hd (orP out (glu x B).1) A0 (glu x B).2 hI2 (by omega)
   rw[jy,← h5]
   refine bM ?_
   simp only[aX.b2]
   have e1:(⟨out.null,out.first,out.last⟩:aB)=gp out:=rfl
   rw[if_pos (by simpa using hil),bz,gE hil,oB,hx,h1,oB,e1,h2,oB,eN (by have:=nz n;omega)]
   rfl
 have st:∀z,In2 1000 ⟨z,[],[]⟩ A A:=fun z=>⟨iG.start z hA,by omega,hbd⟩
 obtain⟨k,s,l⟩:=n
 simp only at hs
 rw[aX.r,glu]
 simp only
 by_cases h1:k=1
 ·subst h1
  rw[if_pos (by rfl),if_pos rfl,cK (by omega),oB,cK (by rw[hA];omega),oB]
  simp[gp]
 rw[if_neg (by simpa using h1),if_neg h1]
 by_cases h0:k=0
 ·subst h0
  rw[if_pos (by rfl),if_pos rfl]
  exact cat l 0 rfl ⟨true,[],[]⟩ A A (st true) (by omega)
 rw[if_neg (by simpa using h0),if_neg h0]
 by_cases h2:k=2
 ·subst h2
  rw[if_pos (by rfl),if_pos rfl]
  exact alt l 0 rfl ⟨false,[],[]⟩ A A (st false) (by omega)
 rw[if_neg (by simpa using h2),if_neg h2]
 have hok':=hok
 rw[pR]at hok'
 simp only[okK,if_neg h1,if_neg h0,if_neg h2,bA,decide_eq_true_eq]at hok'
 obtain⟨x,rfl⟩:∃x,l=[x]:=by
  match l,hok'.1.2 with
  | [x],_=>exact⟨x,rfl⟩
 have hk:dp x < dp ⟨k,s,[x]⟩:=dT (n:=⟨k,s,[x]⟩) (by simp)
 have hx:=ih x (by simp) fu A nu fi la (by omega) (wJ (n:=⟨k,s,[x]⟩) hok (by simp)) (by omega) hA hbd
 have hgx:=gl x A hA
 have hlx:=xJ x A
 have hIx:In2 1000 (glu x A).1 A (glu x A).2:=⟨hgx,by omega,hbd⟩
 unfold aX.k1
 simp only[List.getElem?_cons_zero,oB,dj]
 rw[hx,oB]
 by_cases h5:k=5
 ·subst h5
  rw[if_neg (by simp)]
  simp[aX.k2,gp]
 ·rw[if_pos (by simpa using h5),if_neg h5]
  simp only[gp]
  rw[ak9 (N:=1000) (nR _) (a:=⟨nu,(glu x A).2.1,fi,la,(glu x A).2.2⟩) hIx.all hIx.first hIx.last (fun q hq=>by
   have h3:=(hgx.inn.last q hq).2
   show q≤((glu x A).2.2.length:Int)
   rw[hgx.len];omega),oB]
  simp only[aX.k2]
  congr 4
  rw[Bool.eq_iff_iff];simp
def po(n:aD):cM:=⟨(glu n ([],[])).1.null,(glu n ([],[])).2.1,(glu n ([],[])).1.first,(glu n ([],[])).1.last,(glu n ([],[])).2.2⟩
theorem xR{n:aD}(hok:okN n=true)(h:dp n≤200):jr n=some (po n,0):=by
 unfold jr
 rw[akx (by omega),hok,oB,if_neg (by simp)]
 obtain⟨c,h1,h2⟩:=count_eq (n:=n) (by omega)
 rw[h1,oB,if_neg (by simp;omega)]
 have hb:aX ⟨false,[],[],[],[]⟩ n=some (gp (glu n ([],[])).1,⟨false,(glu n ([],[])).2.1,[],[],(glu n ([],[])).2.2⟩):=
  qb (dp n) fun fu hf=>aqI n fu ([],[]) false [] [] hf hok (by simp;omega) rfl (fun row hr=>by cases hr)
 rw[hb];rfl
end
noncomputable section
theorem fv{α:Type}{xs:List α}{i:Nat}(h:i < xs.length):idx xs (i:Int)=some xs[i]:=by rw[bz,gE h]
theorem pL:∀{l:List aD},nF l=l.map ji
 | []=>rfl
 |x::l=>by rw[nF,pL,List.map_cons]
theorem aus:∀(n:aD) (fu:Nat),dp n≤fu→dp n≤100000→cy.r fu n=some (ji n):=by
 intro n
 induction n using aD.ind with
 |h n ih=>
 intro fu hfu hsz
 have hp:=fJ n
 obtain⟨fu,rfl⟩:∃k,fu=k+1:=⟨fu - 1,by omega⟩
 rw[cy.r]
 have hkl:=nz n
 have hrun:=dZ (b:=cy.b1 (cy.r fu) n) (fun j:Nat=>(((n.Kids.take j).map ji,(j:Int)):List aD×Int)) (i:=0) (n:=n.Kids.length) (Nat.zero_le _) (fun j _ hj=>by
  simp only[cy.b1]
  have hm:n.Kids[j]∈n.Kids:=gM hj
  have hk:=dT hm
  rw[if_pos (by simpa using hj),fv hj,oB,ih _ hm fu (by omega) (by omega),oB,cK (by simp;omega),oB,eN (by omega),ej hj,List.map_append]
  rfl)
 have h0:(([]:List aD),(0:Int))=(fun j:Nat=>(((n.Kids.take j).map ji,(j:Int)):List aD×Int)) 0:=rfl
 rw[h0,hrun]
 refine bK ?_
 simp only[cy.b1]
 rw[if_neg (by simp),List.take_length]
 unfold cy.k1 cy.k2 at1
 obtain⟨k,s,l⟩:=n
 simp only at hkl ⊢
 rw[ji,pL]
 by_cases h0:k=0
 ·subst h0
  have hr:dU=140737488355328:=rfl
  rw[if_pos (by rfl),if_pos (by simp;omega),if_pos rfl];rfl
 ·rw[if_neg (by simpa using h0),if_neg h0]
theorem atm{n:aD}(h:dp n≤100000):cy n=some (ji n):=qb (dp n) fun fu hf=>aus n fu hf h
theorem ajC:∀n:aD,dp (ji n)=dp n:=by
 intro n
 induction n using aD.ind with
 |h n ih=>
 obtain⟨k,s,l⟩:=n
 have hl:∀l':List aD,(∀x∈l',x∈l)→dQ (l'.map ji)=dQ l':=by
  intro l'
  induction l' with
  |nil=>intro _;rfl
  |cons x l' ihl=>
   intro h
   rw[List.map_cons,dQ,dQ,ihl (fun y hy=>h y (by simp[hy])),ih x (h x (by simp))]
 have ha:∀a b:List aD,dQ (a++b)=dQ a+dQ b:=by
  intro a b
  induction a with
  |nil=>simp[dQ]
  |cons x a iha=>rw[List.cons_append,dQ,dQ,iha];omega
 have hv:∀a:List aD,dQ a.reverse=dQ a:=by
  intro a
  induction a with
  |nil=>rfl
  |cons x a iha=>rw[List.reverse_cons,ha,iha,dQ,dQ,dQ];omega
 rw[ji,jO,jO]
 simp only
 rw[pL]
 split
 ·rw[hv,hl l fun x h=>h]
 ·rw[hl l fun x h=>h]
theorem aqO:∀n:aD,okN (ji n)=okN n:=by
 intro n
 induction n using aD.ind with
 |h n ih=>
 obtain⟨k,s,l⟩:=n
 have hl:∀l':List aD,(∀x∈l',x∈l)→(l'.map ji).all okN=l'.all okN:=by
  intro l'
  induction l' with
  |nil=>intro _;rfl
  |cons x l' ihl=>
   intro h
   rw[List.map_cons,List.all_cons,List.all_cons,ihl (fun y hy=>h y (by simp[hy])),ih x (h x (by simp))]
 rw[ji,pR,pR]
 simp only
 rw[pL,jN,jN]
 split
 ·rw[List.length_reverse,List.length_map,List.all_reverse,hl l fun x h=>h]
 ·rw[List.length_map,hl l fun x h=>h]
theorem amW{l:List Int}{f:Int→Option Bool}{g:Int→Bool}(hf:∀x∈l,f x=some (g x))(hl:l.length≤1000000000):cz l f=some (l.any g):=by
 unfold cz bu
 have key:∀d k:Nat,k+d=l.length→∃i:Int,Loop (bu.b1 l f) (k:Int)=some i∧decide (i≥0)=(l.drop k).any g:=by
  intro d
  induction d with
  |zero=>
   intro k hk
   refine⟨-1,bK ?_,?_⟩
   ·simp only[bu.b1]
    rw[if_neg (by simp;omega)];rfl
   ·rw[List.drop_of_length_le (by omega)];rfl
  |succ d ih=>
   intro k hk
   have hlt:k < l.length:=by omega
   rw[List.drop_eq_getElem_cons hlt,List.any_cons]
   cases hg:g l[k]with
   |true=>
    refine⟨k,cP ?_,by simp⟩
    simp only[bu.b1]
    rw[if_pos (by simp;omega),fv hlt,oB,hf _ (gM _),hg];rfl
   |false=>
    obtain⟨i,h1,h2⟩:=ih (k+1) (by omega)
    refine⟨i,?_,by rw[h2];rfl⟩
    rw[bM (s':=((k+1:Nat):Int)),h1]
    simp only[bu.b1]
    rw[if_pos (by simp;omega),fv hlt,oB,hf _ (gM _),hg,oB,if_neg (by simp),eN (by omega)]
 obtain⟨i,h1,h2⟩:=key l.length 0 (by omega)
 have h1':Loop (bu.b1 l f) (0:Int)=some i:=h1
 rw[h1',oB,h2,List.drop_zero]
theorem aw2{l:List (List Int)}{f:List Int→Option Bool}{g:List Int→Bool}(hf:∀x∈l,f x=some (g x))(hl:l.length≤1000000000):de l f=some (l.any g):=by
 unfold de bb
 have key:∀d k:Nat,k+d=l.length→∃i:Int,Loop (bb.b1 l f) (k:Int)=some i∧decide (i≥0)=(l.drop k).any g:=by
  intro d
  induction d with
  |zero=>
   intro k hk
   refine⟨-1,bK ?_,?_⟩
   ·simp only[bb.b1]
    rw[if_neg (by simp;omega)];rfl
   ·rw[List.drop_of_length_le (by omega)];rfl
  |succ d ih=>
   intro k hk
   have hlt:k < l.length:=by omega
   rw[List.drop_eq_getElem_cons hlt,List.any_cons]
   cases hg:g l[k]with
   |true=>
    refine⟨k,cP ?_,by simp⟩
    simp only[bb.b1]
    rw[if_pos (by simp;omega),fv hlt,oB,hf _ (gM _),hg];rfl
   |false=>
    obtain⟨i,h1,h2⟩:=ih (k+1) (by omega)
    refine⟨i,?_,by rw[h2];rfl⟩
    rw[bM (s':=((k+1:Nat):Int)),h1]
    simp only[bb.b1]
    rw[if_pos (by simp;omega),fv hlt,oB,hf _ (gM _),hg,oB,if_neg (by simp),eN (by omega)]
 obtain⟨i,h1,h2⟩:=key l.length 0 (by omega)
 have h1':Loop (bb.b1 l f) (0:Int)=some i:=h1
 rw[h1',oB,h2,List.drop_zero]
theorem ayb{l:List Int}{v:Int}(hl:l.length≤1000000000):dh l v=some (l.contains v):=by
 unfold dh
 have e:cD l v=bu l (fun n=>some (v==n)):=rfl
 have h:=amW (l:=l) (f:=fun n=>some (v==n)) (g:=fun n=>v==n) (fun _ _=>rfl) hl
 unfold cz at h
 rw[e,h]
 congr 1
 rw[Bool.eq_iff_iff]
 simp
def jv(first:List Int)(F:List (List Int)):List Int→List Int
 | []=>[]
 |i::l=>(if i=0 then first else F.getD (i - 1).toNat [])++jv first F l
theorem nT{first:List Int}{F:List (List Int)}{k:Int}:∀{at_:List Int},(∀i∈at_,0≤i)→(k∈jv first F at_↔(0∈at_∧k∈first)∨∃i∈at_,0 < i∧k∈F.getD (i - 1).toNat [])
 | [],_=>by simp[jv]
 |i::l,h=>by
  have hi:=h i (by simp)
  rw[jv,List.mem_append,nT fun j hj=>h j (by simp[hj])]
  by_cases h0:i=0
  ·subst h0
   simp
   constructor
   ·rintro(h|⟨_,h⟩|h)
    ·exact .inl h
    ·exact .inl h
    ·exact .inr h
   ·rintro(h|h)
    ·exact .inl h
    ·exact .inr (.inr h)
  ·rw[if_neg h0]
   constructor
   ·rintro(h|⟨h1,h2⟩|⟨j,h1,h2,h3⟩)
    ·exact .inr ⟨i,by simp,by omega,h⟩
    ·exact .inl ⟨by simp[h1],h2⟩
    ·exact .inr ⟨j,by simp[h1],h2,h3⟩
   ·rintro(⟨h1,h2⟩|⟨j,h1,h2,h3⟩)
    ·rcases List.mem_cons.1 h1 with h1|h1
     ·exact absurd h1.symm h0
     ·exact .inr (.inl ⟨h1,h2⟩)
    ·rcases List.mem_cons.1 h1 with rfl|h1
     ·exact .inl h3
     ·exact .inr (.inr ⟨j,h1,h2,h3⟩)
structure ae2(N:Nat)(a:cM):Prop where
 len:a.Follow.length=a.Sets.length
 le:a.Sets.length≤N
 first:Bd a.Sets.length a.First
 last:Bd a.Sets.length a.Last
 rows:wD a.Sets.length a.Follow
 sets:∀s∈a.Sets,0≤s
theorem oV{first:List Int}{F:List (List Int)}{i:Int}:∀{l:List Int},jv first F (l++[i])=jv first F l++(if i=0 then first else F.getD (i - 1).toNat [])
 | []=>by simp[jv]
 |j::l=>by rw[List.cons_append,jv,oV,jv,List.append_assoc]
theorem ar8{N:Nat}(hN:N≤200){a:cM}(ha:ae2 N a){at_:List Int}{sign:Int}(hat:∀i∈at_,0≤i∧i≤(a.Sets.length:Int))(hl:at_.length≤201):
  cQ a at_ sign=some (stepG jC a.Sets a.First a.Follow at_ sign):=by
 unfold cQ
 have hN':=ha.le
 have hrow:∀i:Int,0≤i→i≤(a.Sets.length:Int)→(if i=0 then a.First else a.Follow.getD (i - 1).toNat []).length≤N∧Bd a.Sets.length (if i=0 then a.First else a.Follow.getD (i - 1).toNat []):=by
  intro i h0 h1
  have:Bd a.Sets.length (if i=0 then a.First else a.Follow.getD (i - 1).toNat []):=by
   split
   ·exact ha.first
   ·have hlt:(i - 1).toNat < a.Follow.length:=by rw[ha.len];omega
    rw[gD,gE hlt]
    exact ha.rows _ (gM hlt)
  exact⟨by have:=this.len;omega,this⟩
 have hpl:∀j,j≤at_.length→(jv a.First a.Follow (at_.take j)).length≤j*N:=by
  intro j
  induction j with
  |zero=>intro _;simp[jv]
  |succ j ih=>
   intro hj
   have hj':j < at_.length:=by omega
   have:=hrow at_[j] (hat _ (gM hj')).1 (hat _ (gM hj')).2
   rw[ej hj',oV,lA,Nat.add_mul]
   have:=ih (by omega)
   omega
 have hb:∀j,j≤at_.length→j*N≤40200:=fun j hj=>by
  calc j*N≤201*200:=Nat.mul_le_mul (by omega) hN
   _=40200:=rfl
 have hrun:=dZ (b:=cQ.b1 a at_ sign) (fun j:Nat=>((jv a.First a.Follow (at_.take j),(j:Int)):List Int×Int)) (i:=0) (n:=at_.length) (Nat.zero_le _) (fun j _ hj=>by
  simp only[cQ.b1,cQ.k2]
  have hi:=hat at_[j] (gM hj)
  have h1:=hrow at_[j] hi.1 hi.2
  have h2:=hpl j (by omega)
  have h3:=hb j (by omega)
  rw[if_pos (by simpa using hj),fv hj,oB,ej hj,oV]
  by_cases h0:at_[j]=0
  ·rw[if_pos (by simpa using h0)]
   rw[if_pos h0]at h1 ⊢
   rw[cK (by omega),oB,eN (by omega)]
  ·have hw:IntKind.i64.wrap (at_[j] - 1)=(((at_[j] - 1).toNat:Nat):Int):=by rw[w64 (by omega) (by omega)];omega
   have hlt:(at_[j] - 1).toNat < a.Follow.length:=by rw[ha.len];omega
   rw[if_neg (by simpa using h0)]
   rw[if_neg h0]at h1 ⊢
   rw[gD,gE hlt,gS]at h1 ⊢
   rw[hw,fv hlt,oB,cK (by omega),oB,eN (by omega)])
 have h0:(([]:List Int),(0:Int))=(fun j:Nat=>((jv a.First a.Follow (at_.take j),(j:Int)):List Int×Int)) 0:=rfl
 rw[h0,hrun]
 have hend:=hpl at_.length (nR _)
 have hend2:=hb at_.length (nR _)
 rw[List.take_length]at hend
 have hall:∀k∈jv a.First a.Follow at_,1≤k∧k≤(a.Sets.length:Int):=by
  intro k hk
  rcases(nT fun i hi=>(hat i hi).1).1 hk with⟨_,h⟩|⟨i,h1,h2,h3⟩
  ·exact ha.first.le k h
  ·have:=(hrow i (by omega) (hat i h1).2).2
   rw[if_neg (by omega)]at this
   exact this.le k h3
 refine bK ?_
 simp only[cQ.b1]
 rw[if_neg (by simp),List.take_length]
 unfold cQ.k1
 have hu:(uni [] (jv a.First a.Follow at_++[])).length≤a.Sets.length:=by
  have:Bd a.Sets.length (uni [] (jv a.First a.Follow at_++[])):=⟨gZ List.Pairwise.nil,fun q hq=>by
   rw[jn]at hq
   simp at hq
   exact hall q hq⟩
  exact this.len
 have hr:dU=140737488355328:=rfl
 rw[amo (by simp;omega),oB]
 unfold cw
 have hdel:(uni [] (jv a.First a.Follow at_++[])).all (aiH a)=true:=by
  rw[List.all_eq_true]
  intro k hk
  rw[jn]at hk
  simp at hk
  have:=hall k hk
  unfold aiH
  have hlt:(k - 1).toNat < a.Sets.length:=by omega
  rw[gD,gE hlt]
  have h3:=ha.sets _ (gM hlt)
  simp only[bA,decide_eq_true_eq,gS]
  exact⟨⟨by omega,by omega⟩,h3⟩
 rw[if_pos ⟨by omega,hdel⟩,oB]
 refine congrArg (fun x=>Option.map Step.done (some x)) ?_
 refine pC ((gZ List.Pairwise.nil).sublist List.filter_sublist) vE fun k=>?_
 rw[List.mem_filter,jn,sS,List.append_nil,nT fun i hi=>(hat i hi).1]
 constructor
 ·rintro⟨h1,h2⟩
  have h1':=h1.resolve_left (by simp)
  exact⟨hall k ((nT fun i hi=>(hat i hi).1).2 h1'),h1',h2⟩
 ·rintro⟨h1,h2,h3⟩
  exact⟨.inr h2,h3⟩
theorem awI{N:Nat}(hN:N≤200){a:cM}(ha:ae2 N a){at_:List Int}(hl:at_.length≤201):lP a at_=some (awg a.Null a.Last at_):=by
 have h1:∀i∈at_,ir i a=some ((decide (i=0)&&a.Null)||a.Last.contains i):=by
  intro i hi
  unfold ir
  have hll:=ha.last.len
  have hle:=ha.le
  rw[ayb (by omega)]
  by_cases h0:i=0
  ·subst h0
   cases hn:a.Null <;> simp
  ·rw[if_neg (by simpa using h0)];simp[h0]
 unfold lP awg
 rw[amW h1 (by omega)]
 rfl
end
noncomputable section
theorem aoR(n:Int):IntKind.u8.wrap n=n%256:=by simp[IntKind.wrap,IntKind.signed,IntKind.bits]
theorem ap7{a b:Int}(ha:0≤a∧a < 256)(hb:0≤b∧b < 256)(h:u8 a=u8 b):a=b:=by
 have h':UInt8.ofNat a.toNat=UInt8.ofNat b.toNat:=h
 have:=ofNat_inj (by omega) (by omega) h'
 omega
def ahP(n:Int):List UInt8:=[u8 (IntKind.u8.wrap (shR .i64 n (8:Int))),u8 (IntKind.u8.wrap n)]
theorem axZ(n:Int):shR .i64 n 8=n/256:=by
 unfold shR
 have:(2:Int)^(min (8:Int).toNat IntKind.i64.bits)=256:=by decide
 rw[this,Int.fdiv_eq_ediv_of_nonneg _ (by omega)]
theorem amY{a b:Int}(ha:0≤a∧a < 65536)(hb:0≤b∧b < 65536)(h:ahP a=ahP b):a=b:=by
 unfold ahP at h
 rw[aoR,aoR,aoR,aoR,axZ,axZ]at h
 simp only[List.cons.injEq,and_true]at h
 have h1:=ap7 (by omega) (by omega) h.1
 have h2:=ap7 (by omega) (by omega) h.2
 omega
def pn(l:List Int):Str:=l.flatMap ahP
theorem ss:∀{l m:List Int},(∀i∈l,0≤i∧i < 65536)→(∀i∈m,0≤i∧i < 65536)→pn l=pn m→l=m
 | [],[],_,_,_=>rfl
 | [],b::m,_,_,h=>by simp[pn,ahP]at h
 |a::l,[],_,_,h=>by simp[pn,ahP]at h
 |a::l,b::m,h1,h2,h=>by
  have h':ahP a++pn l=ahP b++pn m:=h
  have hs:=List.append_inj h' (by simp[ahP])
  rw[amY (h1 a (by simp)) (h2 b (by simp)) hs.1,ss (fun i hi=>h1 i (by simp[hi])) (fun i hi=>h2 i (by simp[hi])) hs.2]
theorem aeu{l:List Int}:(pn l).length=2*l.length:=by
 induction l with
 |nil=>rfl
 |cons a l ih=>show(ahP a++pn l).length=_;rw[lA,ih];simp[ahP];omega
theorem aaD{l:List Int}{a:Int}:pn (l++[a])=pn l++ahP a:=by simp[pn]
theorem avA{l:List Int}(hl:l.length≤1000000):eh l=some (pn l):=by
 unfold eh
 have hrun:=dZ (b:=eh.b1 l) (fun j:Nat=>((pn (l.take j),(j:Int)):List UInt8×Int)) (i:=0) (n:=l.length) (Nat.zero_le _) (fun j _ hj=>by
  simp only[eh.b1]
  rw[if_pos (by simpa using hj),fv hj,oB,cK (by rw[aeu,List.length_take];omega),oB,eN (by omega),ej hj,aaD]
  rfl)
 have h0:(([]:List UInt8),(0:Int))=(fun j:Nat=>((pn (l.take j),(j:Int)):List UInt8×Int)) 0:=rfl
 rw[h0,hrun]
 refine bK ?_
 simp only[eh.b1]
 rw[if_neg (by simp),List.take_length];rfl
def eqL(a b:List Int):Bool:=decide (a=b)
theorem aoN(a:List Int):eqL a a=true:=by simp[eqL]
theorem ae8{α:Type}[DecidableEq α]{o:List α}{x:α}:rz (fun a b=>decide (a=b)) o x=if x∈o then some (pos o x)else none:=by
 unfold rz
 induction o with
 |nil=>rfl
 |cons y o ih=>
  rw[List.findIdx?_cons,qi]
  by_cases h:y=x
  ·subst h;simp
  ·rw[if_neg (by simpa using h),if_neg h,ih]
   by_cases hx:x∈o
   ·rw[if_pos hx,if_pos (by simp[hx])];rfl
   ·rw[if_neg hx,if_neg (by simp[hx,Ne.symm h])];rfl
def VS(x:List Int):Prop:=(∀i∈x,0≤i∧i < 65536)∧x.length≤201
theorem mem_keys{o:List (List Int)}{x:List Int}(ho:∀y∈o,VS y)(hx:VS x):pn x∈o.map pn↔x∈o:=by
 rw[List.mem_map]
 constructor
 ·rintro⟨y,hy,e⟩
  rw[← ss (ho y hy).1 hx.1 e];exact hy
 ·exact fun h=>⟨x,h,rfl⟩
theorem aeJ:∀{o:List (List Int)} {x:List Int},(∀y∈o,VS y)→VS x→pos (o.map pn) (pn x)=pos o x
 | [],x,_,_=>rfl
 |y::o,x,ho,hx=>by
  rw[List.map_cons,qi,qi,aeJ (fun z hz=>ho z (by simp[hz])) hx]
  by_cases h:y=x
  ·subst h;simp
  ·rw[if_neg h,if_neg fun e=>h (ss (ho y (by simp)).1 hx.1 e)]
theorem ak3{o:List (List Int)}{x:List Int}{m:List (Str×Int)}(ho:∀y∈o,VS y)(hx:VS x)(hk:ke m (o.map pn))(hl:o.length≤100000):
  ∃m',dw x m o=some (((nS eqL o x).2:Int),m',(nS eqL o x).1)∧ke m' ((nS eqL o x).1.map pn):=by
 unfold dw dw.k1 nS
 rw[avA (by have:=hx.2;omega),oB]
 by_cases h:x∈o
 ·have hf:rz eqL o x=some (pos o x):=ae8.trans (if_pos h)
  rw[hf]
  have:=hk.some ((mem_keys ho hx).2 h)
  rw[this]
  exact⟨m,by rw[if_neg (by simp),gS,aeJ ho hx],hk⟩
 ·have hf:rz eqL o x=none:=ae8.trans (if_neg h)
  rw[hf]
  have hn:pn x∉o.map pn:=fun e=>h ((mem_keys ho hx).1 e)
  have:=hk.none hn
  rw[this]
  refine⟨kF (pn x) (o.length:Int) m,by rw[if_pos (by simp),cK (by omega)];rfl,?_⟩
  have:=hk.new hn
  rw[List.length_map]at this
  simpa using this
def nxA(a:cM)(x:List Int)(n:Int):List Int:=acI jC a.Sets a.First a.Follow x n
def enA(a:cM)(x:List Int):Bool:=awg a.Null a.Last x
def VA(a:cM)(x:List Int):Prop:=(∀i∈x,0≤i∧i≤(a.Sets.length:Int))∧x.length≤201
section
variable{N:Nat}(hN:N≤200){a:cM}(ha:ae2 N a)
include hN ha
theorem VA.vs{x:List Int}(h:VA a x):VS x:=⟨fun i hi=>by have:=h.1 i hi;have:=ha.le;omega,h.2⟩
theorem VA.next(x:List Int)(n:Int):VA a (nxA a x n):=by
 have hb:∀i∈stepG jC a.Sets a.First a.Follow x n,1≤i∧i≤(a.Sets.length:Int):=fun i hi=>(sS.1 hi).1
 have:Bd a.Sets.length (stepG jC a.Sets a.First a.Follow x n):=⟨vE,hb⟩
 have h2:=this.len
 have h3:=ha.le
 refine⟨fun i hi=>?_,by unfold nxA acI;rw[lC];omega⟩
 rcases List.mem_cons.1 hi with rfl|hi
 ·omega
 ·have:=hb i hi;omega
theorem ai5{l:List Int}{x:List Int}{o:List (List Int)}(ho:∀y∈o,VA a y):∀y∈(lu eqL o (l.map (nxA a x))).1,VA a y:=fun y hy=>by
 rcases sk _ _ y hy with h|h
 ·exact ho y h
 ·obtain⟨n,_,rfl⟩:=List.mem_map.1 h
  exact VA.next hN ha x n
theorem avO{masks:List Int}{limit:Nat}(hm:masks.length≤200)(hlim:limit≤5000){s:Nat}{N1:List (List Int)}{F1:List Bool}{x:List Int}(hx:VA a x):
  ∀(l:List Int) (i:Nat),masks.drop i=l→∀(row:List Int) (o:List (List Int)) (m:List (Str×Int)),row.length=i→(∀y∈o,VA a y)→ke m (o.map pn)→o.length≤limit→o[s]? =some x→
   if (lu eqL o (l.map (nxA a x))).1.length≤limit then
    ∃m',Loop (bh.b2 a masks true (limit:Int) (s:Int) N1 F1) (row,(i:Int),o,m)=bh.k3 a (s:Int) N1 F1 (row++(lu eqL o (l.map (nxA a x))).2) (lu eqL o (l.map (nxA a x))).1 m'∧ke m' ((lu eqL o (l.map (nxA a x))).1.map pn)
   else Loop (bh.b2 a masks true (limit:Int) (s:Int) N1 F1) (row,(i:Int),o,m)=some (Step.done (⟨[],[]⟩,8)):=by
 intro l
 induction l with
 |nil=>
  intro i hl row o m hrow ho hk hlen hs
  have hi:masks.length≤i:=List.drop_eq_nil_iff.1 hl
  simp only[List.map_nil,lu]
  rw[if_pos hlen]
  refine⟨m,bK ?_,hk⟩
  simp only[bh.b2]
  rw[if_neg (by simp;omega),List.append_nil]
 |cons n l ih=>
  intro i hl row o m hrow ho hk hlen hs
  obtain⟨hil,hn,hd⟩:=oc hl
  have hnx:=VA.next hN ha x n
  obtain⟨m1,e1,k1⟩:=ak3 (fun y hy=>VA.vs hN ha (ho y hy)) (VA.vs hN ha hnx) hk (by omega)
  obtain⟨t,ht⟩:=aeQ (same:=eqL) o (nxA a x n)
  obtain⟨t2,ht2⟩:=mO (same:=eqL) (l.map (nxA a x)) (nS eqL o (nxA a x n)).1
  have hso:=(List.getElem?_eq_some_iff.1 hs).1
  have hconc:bE [[0],stepG jC a.Sets a.First a.Follow x n]=some (nxA a x n):=by
   have e:bE=an:=rfl
   have h1:=hnx.2
   unfold nxA acI at h1
   rw[lC]at h1
   rw[e,alf (by simp;omega)];rfl
  have hb2:bh.b2 a masks true (limit:Int) (s:Int) N1 F1 (row,(i:Int),o,m)=if ((nS eqL o (nxA a x n)).1.length:Int) > (limit:Int)then some (Step.done (Step.done (⟨[],[]⟩,8)))else some (Step.next (row++[((nS eqL o (nxA a x n)).2:Int)],((i+1:Nat):Int),(nS eqL o (nxA a x n)).1,m1)):=by
   simp only[bh.b2]
   rw[if_pos (by simpa using hil),fv hil,oB,hn,bz,hs,oB,ar8 hN ha hx.1 hx.2,oB,if_pos trivial]
   unfold iA
   rw[oB,hconc,oB]
   unfold bh.k4
   rw[e1,oB,cK (by omega),oB,eN (by omega)]
   simp only[decide_eq_true_eq]
  simp only[List.map_cons,lu]
  by_cases hc:(nS eqL o (nxA a x n)).1.length≤limit
  ·rw[if_neg (by omega)]at hb2
   rw[bM hb2]
   have:=ih (i+1) hd (row++[((nS eqL o (nxA a x n)).2:Int)]) (nS eqL o (nxA a x n)).1 m1 (by simp[hrow]) (fun y hy=>by
    have:y∈(lu eqL o ([n].map (nxA a x))).1:=hy
    exact ai5 hN ha ho y this) k1 hc (by rw[← ht,List.getElem?_append_left hso];exact hs)
   rw[List.append_assoc]at this
   exact this
  ·rw[if_pos (by omega)]at hb2
   have hlong:¬ (lu eqL (nS eqL o (nxA a x n)).1 (l.map (nxA a x))).1.length≤limit:=by rw[← ht2];simp;omega
   rw[if_neg hlong]
   exact cP hb2
theorem run_eq{masks:List Int}{limit:Nat}(hm:masks.length≤200)(hlim:limit≤5000):
  ∀(fu s:Nat) (o:List (List Int)) (R:List (List Int)) (m:List (Str×Int)),fu+s=limit+1→s≤o.length→o.length≤limit→R.length=s→(∀y∈o,VA a y)→ke m (o.map pn)→
   Loop (bh.b1 a masks true (limit:Int)) ((s:Int),R,(o.take s).map (enA a),o,m)=match bgo eqL (fun x=>masks.map (nxA a x)) limit fu s o R with
    |some (o',R')=>some (⟨R',o'.map (enA a)⟩,0)
    |none=>some (⟨[],[]⟩,8):=by
 intro fu
 induction fu with
 |zero=>intro s o R m h1 h2 h3;omega
 |succ fu ih=>
  intro s o R m h1 h2 h3 hR ho hk
  rw[bgo]
  cases hs:o[s]? with
  |none=>
   have hse:o.length≤s:=List.getElem?_eq_none_iff.1 hs
   refine bK ?_
   simp only[bh.b1]
   rw[if_neg (by simp;omega),List.take_of_length_le hse];rfl
  |some x=>
   have hso:=(List.getElem?_eq_some_iff.1 hs)
   have hx:=ho x (List.mem_of_getElem? hs)
   have hrow:=avO hN ha hm hlim (s:=s) (N1:=R) (F1:=(o.take s).map (enA a)) hx masks 0 rfl [] o m rfl ho hk h3 hs
   obtain⟨t,ht⟩:=mO (same:=eqL) (masks.map (nxA a x)) o
   simp only
   have hb1:bh.b1 a masks true (limit:Int) ((s:Int),R,(o.take s).map (enA a),o,m)=Loop (bh.b2 a masks true (limit:Int) (s:Int) R ((o.take s).map (enA a))) ([],(0:Int),o,m):=by
    simp only[bh.b1]
    rw[if_pos (by simpa using hso.1)]
   have h00:((0:Nat):Int)=0:=rfl
   rw[h00]at hrow
   by_cases hc:(lu eqL o (masks.map (nxA a x))).1.length≤limit
   ·rw[if_pos hc]at hrow ⊢
    obtain⟨m',e1,k1⟩:=hrow
    have hs':(lu eqL o (masks.map (nxA a x))).1[s]? =some x:=by rw[← ht,List.getElem?_append_left hso.1];exact hs
    have hso':=(List.getElem?_eq_some_iff.1 hs')
    have e2:bh.b1 a masks true (limit:Int) ((s:Int),R,(o.take s).map (enA a),o,m)=some (Step.next (((s+1:Nat):Int),R++[(lu eqL o (masks.map (nxA a x))).2],((lu eqL o (masks.map (nxA a x))).1.take (s+1)).map (enA a),(lu eqL o (masks.map (nxA a x))).1,m')):=by
     rw[hb1,e1]
     unfold bh.k3 bh.k2
     rw[bz,hs',oB,cK (by omega),oB,awI hN ha hx.2,oB,cK (by simp;omega),oB,eN (by omega),List.nil_append,ej hso'.1,hso'.2,List.map_append,← ht,List.take_append_of_le_length (by omega)]
     rfl
    rw[bM e2]
    exact ih (s+1) _ _ m' (by omega) (by have:=hso'.1;omega) hc (by simp[hR]) (ai5 hN ha ho) k1
   ·rw[if_neg hc]at hrow ⊢
    exact cP (hb1.trans hrow)
theorem pc{masks:List Int}{limit:Nat}(hm0:1≤masks.length)(hm:masks.length≤200)(hlim0:1≤limit)(hlim:limit≤5000):
  bh a masks true (limit:Int)=match bgo eqL (fun x=>masks.map (nxA a x)) limit (limit+1) 0 [[0]] []with
    |some (o',R')=>some (⟨R',o'.map (enA a)⟩,0)
    |none=>some (⟨[],[]⟩,8):=by
 unfold bh iA
 have h0:VA a [0]:=⟨fun i hi=>by simp at hi;omega,by simp⟩
 obtain⟨m',e1,k1⟩:=ak3 (o:=[]) (x:=[0]) (m:=[]) (fun y hy=>by cases hy) (VA.vs hN ha h0) sW (by simp)
 have e2:nS eqL [] [0]=([[0]],0):=rfl
 rw[e2]at e1 k1
 rw[if_neg (by simp;omega),oB,e1,oB]
 exact run_eq hN ha hm hlim (limit+1) 0 [[0]] [] m' (by omega) (by simp) (by simpa using hlim0) rfl (fun y hy=>by simp at hy;exact hy ▸ h0) k1
end
end
noncomputable section
structure DOk(d:fG)(m:Nat):Prop where
 some:1≤d.Next.length
 few:d.Next.length≤5000
 fin:d.Final.length=d.Next.length
 row:∀r∈d.Next,r.length=m∧∀e∈r,0≤e∧e < (d.Next.length:Int)
theorem abo{d:fG}{m:Nat}(h:DOk d m)(h1:1≤m)(h2:m≤200):jq d=some true:=by
 unfold jq
 have hs:=h.some
 have hf:=h.few
 rw[if_neg (by simp[h.fin];omega)]
 have h0:d.Next[0]? =some d.Next[0]:=gE (by omega)
 have hl:=(h.row _ (gM (by omega:0 < d.Next.length))).1
 rw[h0,oB,hl,if_pos (by simp;omega),if_pos (by simp;omega)]
 have hrow:∀r∈d.Next,fP r (m:Int) (fun x0=>fp x0 (d.Next.length:Int))=some false:=by
  intro r hr
  unfold fP
  rw[if_neg (by simp[(h.row r hr).1]),amW (f:=fun x0=>fp x0 (d.Next.length:Int)) (g:=fun s=>decide (s < 0)||decide (s≥(d.Next.length:Int))) (fun _ _=>rfl) (by rw[(h.row r hr).1];omega),oB,oB]
  congr 1
  rw[List.any_eq_false]
  intro e he
  have:=(h.row r hr).2 e he
  simp;omega
 rw[aw2 (g:=fun _=>false) hrow (by omega)]
 simp
section
variable{K:Type}[DecidableEq K]
def mOf(F:List K):List (K×Int):=F.mapIdx fun i a=>(a,(i:Int))
theorem pH(F:List K):ke (mOf F) F:=⟨by simp[mOf],fun i=>by simp[mOf]⟩
theorem ke.eq{m:List (K×Int)}{F:List K}(h:ke m F):m=mOf F:=by
 apply List.ext_getElem?
 intro i
 rw[h.2 i,(pH F).2 i]
theorem alT{F:List K}:(mOf F).length=F.length:=by simp[mOf]
theorem apO{F:List K}{a:K}(h:a∈F):oL a (mOf F)=some (pos F a:Int):=(pH F).some h
theorem akU{F:List K}{a:K}(h:a∉F):oL a (mOf F)=none:=(pH F).none h
theorem akE{F:List K}{a:K}(h:a∉F):kF a (F.length:Int) (mOf F)=mOf (F++[a]):=((pH F).new h).eq
theorem afe{α K':Type}[DecidableEq K']{f:α→K}{g:α→K'}{l:List α}(h:∀x∈l,∀y∈l,f x=f y→g x=g y)(hc:(firsts (l.map f)).length≤(firsts (l.map g)).length){x y:α}(hx:x∈l)(hy:y∈l)(e:g x=g y):f x=f y:=by
 classical
 refine Decidable.byContradiction fun hne=>?_
 have hex:∀v,v∈l.map g→∃z,z∈l∧g z=v:=fun v hv=>by
  obtain⟨z,h1,h2⟩:=List.mem_map.1 hv;exact⟨z,h1,h2⟩
 let c:K'→α:=fun v=>if v=g x then x else if hv:v∈l.map g then(hex v hv).choose else x
 have hcv:∀v,v∈l.map g→c v∈l∧g (c v)=v:=by
  intro v hv
  by_cases h1:v=g x
  ·have:c v=x:=if_pos h1
   rw[this];exact⟨hx,h1.symm⟩
  ·have:c v=(hex v hv).choose:=by show(if _ then _ else _)=_;rw[if_neg h1,dif_pos hv]
   rw[this];exact(hex v hv).choose_spec
 have hcx:c (g x)=x:=if_pos rfl
 have hnd:((firsts (l.map g)).map (fun v=>f (c v))++[f y]).Nodup:=by
  rw[List.nodup_append]
  refine⟨?_,by simp,?_⟩
  ·show List.Pairwise _ _
   rw[List.pairwise_map]
   refine List.Pairwise.imp_of_mem ?_ (nD (l:=l.map g))
   intro a b ha hb hab hf
   have h1:=hcv a (eP.1 ha)
   have h2:=hcv b (eP.1 hb)
   exact hab (by rw[← h1.2,← h2.2];exact h _ h1.1 _ h2.1 hf)
  ·intro a ha b hb
   obtain rfl:=List.mem_singleton.1 hb
   obtain⟨v,hv,rfl⟩:=List.mem_map.1 ha
   intro hf
   have h1:=hcv v (eP.1 hv)
   have h2:=h _ h1.1 _ hy hf
   have h3:v=g x:=by rw[← h1.2,h2,e]
   rw[h3,hcx]at hf
   exact hne hf
 have hsub:=iP (m:=firsts (l.map f)) hnd (fun a ha=>by
  rw[eP]
  rcases List.mem_append.1 ha with ha|ha
  ·obtain⟨v,hv,rfl⟩:=List.mem_map.1 ha
   exact List.mem_map.2 ⟨_,(hcv v (eP.1 hv)).1,rfl⟩
  ·obtain rfl:=List.mem_singleton.1 ha
   exact List.mem_map.2 ⟨y,hy,rfl⟩)
 simp at hsub
 omega
end
def kd(kind:List Int)(i:Nat):Int:=kind.getD i 0
def qE(d:fG)(i:Nat):List Int:=d.Next.getD i []
def uv(d:fG)(kind:List Int)(i:Nat):Str:=pn (kd kind i::(qE d i).map fun e=>kd kind e.toNat)
def gJ(d:fG)(kind:List Int)(j:Nat):List Str:=(List.range j).map (uv d kind)
def mj(d:fG)(kind:List Int)(j:Nat):List Int:=(List.range d.Next.length).map fun i=>if i < j then((pos (firsts (gJ d kind d.Next.length)) (uv d kind i):Nat):Int)else 0
section
variable{d:fG}{m:Nat}(hd:DOk d m)(hm:m≤200)
include hd hm
theorem aaM{kind:List Int}(hk:kind.length=d.Next.length){i:Nat}(hi:i < d.Next.length):eR kind (i:Int) d.Next[i]=some (uv d kind i):=by
 unfold eR
 have hr:=hd.row d.Next[i] (gM hi)
 have hki:i < kind.length:=by omega
 have hrow:qE d i=d.Next[i]:=by unfold qE;rw[gD,gE hi];rfl
 have hkd:kd kind i=kind[i]:=by unfold kd;rw[gD,gE hki];rfl
 have hrun:=dZ (b:=eR.b1 kind d.Next[i]) (fun j:Nat=>((pn (kind[i]::(d.Next[i].take j).map fun e=>kd kind e.toNat),(j:Int)):List UInt8×Int)) (i:=0) (n:=d.Next[i].length) (Nat.zero_le _) (fun j _ hj=>by
  simp only[eR.b1]
  have he:=hr.2 d.Next[i][j] (gM hj)
  have hlt:d.Next[i][j].toNat < kind.length:=by omega
  have hl:=hr.1
  have hcast:d.Next[i][j]=((d.Next[i][j].toNat:Nat):Int):=by omega
  have hke:kd kind d.Next[i][j].toNat=kind[d.Next[i][j].toNat]:=by unfold kd;rw[gD,gE hlt];rfl
  rw[if_pos (by simpa using hj),fv hj,oB]
  rw[show idx kind d.Next[i][j]=some kind[d.Next[i][j].toNat]from sq he.1 (gE hlt)]
  rw[oB,cK (by rw[aeu];simp;omega),oB,eN (by omega),ej hj,List.map_append,← List.cons_append,List.map_singleton,aaD,hke]
  rfl)
 rw[fv hki,oB]
 have h0:(([u8 (IntKind.u8.wrap (shR .i64 kind[i] (8:Int))),u8 (IntKind.u8.wrap kind[i])]:List UInt8),(0:Int))=(fun j:Nat=>((pn (kind[i]::(d.Next[i].take j).map fun e=>kd kind e.toNat),(j:Int)):List UInt8×Int)) 0:=by
  simp[pn,ahP]
 rw[h0,hrun]
 refine bK ?_
 simp only[eR.b1]
 rw[if_neg (by simp),List.take_length]
 unfold uv
 rw[hrow,hkd];rfl
theorem vD{kind:List Int}{j:Nat}(hj:j < d.Next.length):gJ d kind (j+1)=gJ d kind j++[uv d kind j]:=by
 unfold gJ;rw[List.range_succ,List.map_append];rfl
theorem ye{kind:List Int}{j:Nat}(hj:j≤d.Next.length):firsts (gJ d kind j) <+: firsts (gJ d kind d.Next.length):=by
 have e:gJ d kind d.Next.length=gJ d kind j++(gJ d kind d.Next.length).drop j:=by
  have h1:=(List.take_append_drop j (gJ d kind d.Next.length)).symm
  have h2:(gJ d kind d.Next.length).take j=gJ d kind j:=by
   unfold gJ;rw[← List.map_take,List.take_range,Nat.min_eq_left hj]
  rw[h2]at h1;exact h1
 rw[e];exact qB
theorem aaz{kind:List Int}{j:Nat}(hj:j < d.Next.length):(mj d kind j).set j ((pos (firsts (gJ d kind d.Next.length)) (uv d kind j):Nat):Int)=mj d kind (j+1):=by
 apply List.ext_getElem?
 intro i
 unfold mj
 rw[List.getElem?_set]
 by_cases h:j=i
 ·subst h
  rw[if_pos rfl]
  simp[hj]
 ·rw[if_neg h]
  by_cases hi:i < d.Next.length
  ·simp only[gP,List.getElem?_range hi,Option.map_some]
   congr 1
   by_cases h2:i < j
   ·rw[if_pos h2,if_pos (by omega)]
   ·rw[if_neg h2,if_neg (by omega)]
  ·rw[gN (by simp;omega),gN (by simp;omega)]
theorem round_eq{kind:List Int}(hk:kind.length=d.Next.length){many:Int}:
  aH.b1 d (kind,many)=aH.k3 many (mj d kind d.Next.length) (mOf (firsts (gJ d kind d.Next.length))):=by
 have hf:=hd.few
 have hrun:=dZ (b:=aH.b2 d kind many) (fun j:Nat=>((kind,mj d kind j,(j:Int),mOf (firsts (gJ d kind j))):List Int×List Int×Int×List (Str×Int))) (i:=0) (n:=d.Next.length) (Nat.zero_le _) (fun j _ hj=>by
  simp only[aH.b2]
  have hnl:(mj d kind j).length=d.Next.length:=by simp[mj]
  have hjn:j < (mj d kind j).length:=by omega
  rw[if_pos (by rw[hk];simpa using hj),fv hj,oB,aaM hd hm hk hj,oB,vD hd hm hj,dW]
  unfold aH.k4 uG
  by_cases h:uv d kind j∈firsts (gJ d kind j)
  ·have hp:pos (firsts (gJ d kind d.Next.length)) (uv d kind j)=pos (firsts (gJ d kind j)) (uv d kind j):=pj (ye hd hm (by omega)) h
   rw[apO h,if_neg (by simp),if_pos h,fv hjn,oB,eN (by omega),← aaz hd hm hj,hp];rfl
  ·have hp:pos (firsts (gJ d kind d.Next.length)) (uv d kind j)=(firsts (gJ d kind j)).length:=by
    have hpre:=ye hd hm (kind:=kind) (j:=j+1) (by omega)
    rw[vD hd hm hj,dW]at hpre
    have e:uG (firsts (gJ d kind j)) (uv d kind j)=firsts (gJ d kind j)++[uv d kind j]:=if_neg h
    rw[e]at hpre
    rw[pj hpre (by simp),wR h]
   rw[akU h,if_pos (by simp),if_neg h,fv hjn,oB,eN (by omega),← aaz hd hm hj,hp,alT,akE h];rfl)
 unfold aH.b1
 simp only
 have h0:(kind,List.replicate (Int.toNat (kind.length:Int)) (0:Int),(0:Int),([]:List (Str×Int)))=(fun j:Nat=>((kind,mj d kind j,(j:Int),mOf (firsts (gJ d kind j))):List Int×List Int×Int×List (Str×Int))) 0:=by
  simp only[Int.toNat_natCast,hk]
  have:mj d kind 0=List.replicate d.Next.length 0:=by
   unfold mj
   simp[List.map_const']
  rw[this];rfl
 have hmk:mk 8 (0:Int) (kind.length:Int)=some (List.replicate (Int.toNat (kind.length:Int)) (0:Int)):=by
  unfold mk;rw[if_pos (by simp;unfold dU;omega)]
 rw[hmk,oB,h0,hrun]
 refine bK ?_
 simp only[aH.b2]
 rw[if_neg (by rw[hk];simp)]
end
end
noncomputable section
def qw(d:fG)(i:Nat):Bool:=d.Final.getD i false
structure aeb(d:fG)(m:Nat)(k:List Int):Prop where
 len:k.length=d.Next.length
 fin:∀i j,i < d.Next.length→j < d.Next.length→kd k i=kd k j→qw d i=qw d j
 step:∀i j,i < d.Next.length→j < d.Next.length→kd k i=kd k j→∀c,c < m→kd k (oq d.Next i c)=kd k (oq d.Next j c)
section
variable{d:fG}{m:Nat}(hd:DOk d m)(hm:m≤200)
include hd hm
theorem mT{i:Nat}(hi:i < d.Next.length):(qE d i).length=m∧∀e∈qE d i,0≤e∧e < (d.Next.length:Int):=by
 unfold qE
 rw[gD,gE hi]
 exact hd.row _ (gM hi)
theorem sG{i c:Nat}(hi:i < d.Next.length)(hc:c < m):oq d.Next i c < d.Next.length:=by
 obtain⟨h1,h2⟩:=mT hd hm hi
 have:(qE d i).getD c 0∈qE d i:=by
  rw[gD,gE (by omega)];exact gM _
 have h3:=h2 _ this
 show((qE d i).getD c 0).toNat < _
 omega
theorem ac6{kind:List Int}(hb:∀i,i < d.Next.length→0≤kd kind i∧kd kind i < 65536){i j:Nat}(hi:i < d.Next.length)(hj:j < d.Next.length):
  uv d kind i=uv d kind j↔kd kind i=kd kind j∧∀c,c < m→kd kind (oq d.Next i c)=kd kind (oq d.Next j c):=by
 have hv:∀i,i < d.Next.length→∀v∈(kd kind i::(qE d i).map fun e=>kd kind e.toNat),0≤v∧v < 65536:=by
  intro i hi v hv
  rcases List.mem_cons.1 hv with rfl|hv
  ·exact hb i hi
  ·obtain⟨e,he,rfl⟩:=List.mem_map.1 hv
   have:=(mT hd hm hi).2 e he
   exact hb _ (by omega)
 have hl:∀(i:Nat),i < d.Next.length→∀c,c < m→((qE d i).map fun e=>kd kind e.toNat)[c]? =some (kd kind (oq d.Next i c)):=by
  intro i hi c hc
  have h1:=(mT hd hm hi).1
  rw[gP,gE (by omega)]
  show some _=some (kd kind ((qE d i).getD c 0).toNat)
  rw[gD,gE (by omega)];rfl
 constructor
 ·intro h
  have h2:=ss (hv i hi) (hv j hj) h
  rw[List.cons.injEq]at h2
  refine⟨h2.1,fun c hc=>?_⟩
  have h3:=hl i hi c hc
  rw[h2.2,hl j hj c hc]at h3
  exact(sI h3).symm
 ·rintro⟨h1,h2⟩
  unfold uv
  rw[h1]
  congr 2
  apply List.ext_getElem?
  intro c
  by_cases hc:c < m
  ·rw[hl i hi c hc,hl j hj c hc,h2 c hc]
  ·rw[gN (by rw[List.length_map,(mT hd hm hi).1];omega),gN (by rw[List.length_map,(mT hd hm hj).1];omega)]
theorem ab5{kind:List Int}{i:Nat}(hi:i < d.Next.length):kd (mj d kind d.Next.length) i=((pos (firsts (gJ d kind d.Next.length)) (uv d kind i):Nat):Int):=by
 unfold kd mj
 rw[gD,gP,List.getElem?_range hi]
 simp[hi]
theorem wO{kind:List Int}{i:Nat}(hi:i < d.Next.length):uv d kind i∈firsts (gJ d kind d.Next.length):=by
 rw[eP];exact List.mem_map.2 ⟨i,List.mem_range.2 hi,rfl⟩
theorem asM{kind:List Int}:(firsts (gJ d kind d.Next.length)).length≤d.Next.length:=by
 have:=ag1 (l:=gJ d kind d.Next.length)
 simpa[gJ]using this
theorem pM{kind:List Int}{i j:Nat}(hi:i < d.Next.length)(hj:j < d.Next.length):kd (mj d kind d.Next.length) i=kd (mj d kind d.Next.length) j↔uv d kind i=uv d kind j:=by
 rw[ab5 hd hm hi,ab5 hd hm hj]
 constructor
 ·intro h;exact arc (wO hd hm hi) (wO hd hm hj) (by omega)
 ·intro h;rw[h]
structure ayh(d:fG)(kind:List Int)(many:Nat):Prop where
 len:kind.length=d.Next.length
 bd:∀i,i < d.Next.length→0≤kd kind i∧kd kind i < 65536
 fin:∀i j,i < d.Next.length→j < d.Next.length→kd kind i=kd kind j→qw d i=qw d j
 many:many=0∨many=(firsts ((List.range d.Next.length).map (kd kind))).length
theorem yk:∀(fu:Nat) (kind:List Int) (many:Nat),d.Next.length - many < fu→ayh d kind many→∃k,Loop (aH.b1 d) (kind,(many:Int))=some k∧aeb d m k:=by
 intro fu
 induction fu with
 |zero=>intro kind many h;omega
 |succ fu ih=>
  intro kind many hfu hI
  have hs:=hd.some
  have hn:(mj d kind d.Next.length).length=d.Next.length:=by simp[mj]
  have hcl:=asM hd hm (kind:=kind)
  have hc1:1≤(firsts (gJ d kind d.Next.length)).length:=List.length_pos_of_mem (wO hd hm (i:=0) (by omega))
  have href:∀x∈List.range d.Next.length,∀y∈List.range d.Next.length,uv d kind x=uv d kind y→kd kind x=kd kind y:=fun x hx y hy h=>((ac6 hd hm hI.bd (List.mem_range.1 hx) (List.mem_range.1 hy)).1 h).1
  have hfin:∀i j,i < d.Next.length→j < d.Next.length→kd (mj d kind d.Next.length) i=kd (mj d kind d.Next.length) j→qw d i=qw d j:=fun i j hi hj h=>
   hI.fin i j hi hj ((ac6 hd hm hI.bd hi hj).1 ((pM hd hm hi hj).1 h)).1
  have hb:=round_eq hd hm hI.len (many:=(many:Int))
  unfold aH.k3 at hb
  rw[alT]at hb
  by_cases hc:(firsts (gJ d kind d.Next.length)).length=many
  ·rw[if_pos (by simp[hc])]at hb
   refine⟨_,cP hb,hn,hfin,fun i j hi hj h c hcm=>?_⟩
   have hmany:(firsts ((List.range d.Next.length).map (uv d kind))).length≤(firsts ((List.range d.Next.length).map (kd kind))).length:=by
    rcases hI.many with h0|h0
    ·omega
    ·show(firsts (gJ d kind d.Next.length)).length≤_
     omega
   have hk:=(pM hd hm hi hj).1 h
   have h2:=((ac6 hd hm hI.bd hi hj).1 hk).2 c hcm
   have hi':=sG hd hm hi hcm
   have hj':=sG hd hm hj hcm
   exact(pM hd hm hi' hj').2 (afe href hmany (List.mem_range.2 hi') (List.mem_range.2 hj') h2)
  ·rw[if_neg (by simp;omega)]at hb
   unfold aH.k2 at hb
   rw[bM hb]
   have hle:(firsts ((List.range d.Next.length).map (kd kind))).length≤(firsts (gJ d kind d.Next.length)).length:=count_le (fun x h=>h) href
   refine ih _ _ ?_ ⟨hn,fun i hi=>?_,hfin,.inr ?_⟩
   ·rcases hI.many with h0|h0 <;> omega
   ·rw[ab5 hd hm hi]
    have:=sP (wO hd hm (kind:=kind) hi)
    have:=hd.few
    omega
   ·refine Nat.le_antisymm ?_ ?_
    ·exact count_le (fun x h=>h) fun x hx y hy h=>(pM hd hm (List.mem_range.1 hx) (List.mem_range.1 hy)).1 h
    ·exact count_le (fun x h=>h) fun x hx y hy h=>(pM hd hm (List.mem_range.1 hx) (List.mem_range.1 hy)).2 h
def nH(d:fG)(j:Nat):List Int:=(List.range d.Next.length).map fun i=>if i < j∧qw d i=true then 1 else 0
theorem aif:∃k,aH d=some k∧aeb d m k:=by
 have hf:=hd.few
 have hkl:∀j,(nH d j).length=d.Next.length:=fun j=>by simp[nH]
 have hrun:=dZ (b:=aH.b3 d) (fun j:Nat=>((nH d j,(j:Int)):List Int×Int)) (i:=0) (n:=d.Next.length) (Nat.zero_le _) (fun j _ hj=>by
  simp only[aH.b3]
  have hjf:j < d.Final.length:=by rw[hd.fin];exact hj
  have hjk:j < (nH d j).length:=by rw[hkl];exact hj
  have hfj:qw d j=d.Final[j]:=by unfold qw;rw[gD,gE hjf];rfl
  rw[if_pos (by simpa using hj),fv hjf,oB,← hfj]
  have hset:(nH d j).set j (if qw d j=true then 1 else 0)=nH d (j+1):=by
   apply List.ext_getElem?
   intro i
   unfold nH
   rw[List.getElem?_set]
   by_cases h:j=i
   ·subst h
    rw[if_pos rfl]
    simp[hj]
   ·rw[if_neg h]
    by_cases hi:i < d.Next.length
    ·simp only[gP,List.getElem?_range hi,Option.map_some]
     congr 1
     by_cases h2:i < j
     ·simp[h2,show i < j+1 by omega]
     ·simp[h2,show ¬ i < j+1 by omega]
    ·rw[gN (by simp;omega),gN (by simp;omega)]
  unfold aH.k5
  rw[eN (by omega),← hset]
  cases hfd:qw d j with
  |true=>rw[if_pos rfl,fv hjk];rfl
  |false=>
   rw[if_neg (by simp),if_neg (by simp)]
   have:(nH d j).set j 0=nH d j:=by
    apply List.ext_getElem?
    intro i
    rw[List.getElem?_set]
    by_cases h:j=i
    ·subst h
     rw[if_pos rfl,if_pos hjk]
     unfold nH
     simp[hj]
    ·rw[if_neg h]
   rw[this])
 unfold aH
 have hmk:mk 8 (0:Int) (d.Next.length:Int)=some (List.replicate (Int.toNat (d.Next.length:Int)) (0:Int)):=by
  unfold mk;rw[if_pos (by simp;unfold dU;omega)]
 have h0:(List.replicate (Int.toNat (d.Next.length:Int)) (0:Int),(0:Int))=(fun j:Nat=>((nH d j,(j:Int)):List Int×Int)) 0:=by
  have:nH d 0=List.replicate d.Next.length 0:=by
   unfold nH
   simp[List.map_const']
  simp only[Int.toNat_natCast]
  rw[this];rfl
 rw[hmk,oB,h0,hrun]
 have hkd:∀i,i < d.Next.length→kd (nH d d.Next.length) i=if qw d i=true then 1 else 0:=fun i hi=>by
  unfold kd nH
  rw[gD,gP,List.getElem?_range hi]
  simp[hi]
 obtain⟨k,h1,h2⟩:=yk hd hm (d.Next.length+1) (nH d d.Next.length) 0 (by omega) ⟨hkl _,fun i hi=>by rw[hkd i hi];split <;> omega,fun i j hi hj h=>by
  rw[hkd i hi,hkd j hj]at h
  cases h3:qw d i <;> cases h4:qw d j <;> rw[h3,h4]at h <;> simp at h <;> rfl,.inl rfl⟩
 refine⟨k,?_,h2⟩
 refine bK ?_
 simp only[aH.b3]
 rw[if_neg (by simp)]
 unfold aH.k1
 have h1':Loop (aH.b1 d) (nH d d.Next.length,(0:Int))=some k:=h1
 rw[h1']
end
end
noncomputable section
theorem wX{α K:Type}[DecidableEq K]{f:α→K}{x:α}:∀{o:List α},rz (fun a b=>decide (f a=f b)) o x=if f x∈o.map f then some (pos (o.map f) (f x))else none
 | []=>by simp[rz]
 |y::o=>by
  have ih:=wX (f:=f) (x:=x) (o:=o)
  unfold rz at ih ⊢
  rw[List.findIdx?_cons,List.map_cons,qi]
  by_cases h:f y=f x
  ·simp[h]
  ·rw[if_neg (by simpa using h),if_neg h,ih]
   by_cases hx:f x∈o.map f
   ·rw[if_pos hx,if_pos (List.mem_cons_of_mem _ hx)];rfl
   ·rw[if_neg hx,if_neg (by rw[mC];rintro(h2|h2);exact h h2.symm;exact hx h2)];rfl
def kz(k:List Int)(s:Int):Int:=kd k s.toNat
def iS(k:List Int)(a b:Int):Bool:=decide (kz k a=kz k b)
section
variable{d:fG}{m:Nat}(hd:DOk d m)(hm:m≤200){k:List Int}(hk:aeb d m k)
include hd hm hk
theorem aai{x:Int}(hx:0≤x∧x < (d.Next.length:Int)){o:List Int}(hl:o.length≤100000):
  dx x (mOf (o.map (kz k))) k o=some (((nS (iS k) o x).2:Int),mOf ((nS (iS k) o x).1.map (kz k)),(nS (iS k) o x).1):=by
 unfold dx dx.k1 nS
 have hxk:x.toNat < k.length:=by rw[hk.len];omega
 have hxv:k[x.toNat]=kz k x:=by unfold kz kd;rw[gD,gE hxk];rfl
 rw[sq hx.1 (gE hxk),oB,hxv]
 by_cases h:kz k x∈o.map (kz k)
 ·have hf:rz (iS k) o x=some (pos (o.map (kz k)) (kz k x)):=wX.trans (if_pos h)
  rw[hf,apO h]
  simp
 ·have hf:rz (iS k) o x=none:=wX.trans (if_neg h)
  rw[hf,akU h,if_pos (by simp),cK (by omega),oB]
  have:=akE h
  rw[List.length_map]at this
  simp only[List.map_append,List.map_cons,List.map_nil]
  rw[this]
theorem akK{xs o:List Int}(hxs:∀x∈xs,0≤x∧x < (d.Next.length:Int))(ho:∀x∈o,0≤x∧x < (d.Next.length:Int)):∀x∈(lu (iS k) o xs).1,0≤x∧x < (d.Next.length:Int):=fun x hx=>
 (sk _ _ x hx).elim (ho x) (hxs x)
theorem pK{o:List Int}(ho:∀x∈o,0≤x∧x < (d.Next.length:Int))(ha:rX (iS k) o):o.length≤d.Next.length:=by
 have hn:o.Nodup:=ha.imp fun {a b} h e=>by subst e;simp[iS]at h
 have:=iP (m:=(List.range d.Next.length).map fun i:Nat=>(i:Int)) hn (fun x hx=>List.mem_map.2 ⟨x.toNat,List.mem_range.2 (by have:=ho x hx;omega),by have:=ho x hx;omega⟩)
 simpa using this
theorem arI{i:Int}{N1:List (List Int)}{F1:List Bool}{xs:List Int}(hxs:∀x∈xs,0≤x∧x < (d.Next.length:Int))(hxl:xs.length≤200):
  ∀(l:List Int) (j:Nat),xs.drop j=l→∀(row o:List Int),row.length=j→(∀x∈o,0≤x∧x < (d.Next.length:Int))→rX (iS k) o→
   Loop (bT.b2 d k i N1 F1 xs) (row,(j:Int),mOf (o.map (kz k)),o)=bT.k3 d i N1 F1 (row++(lu (iS k) o l).2) (mOf ((lu (iS k) o l).1.map (kz k))) (lu (iS k) o l).1:=by
 intro l
 induction l with
 |nil=>
  intro j hl row o hrow ho ha
  have hj:xs.length≤j:=List.drop_eq_nil_iff.1 hl
  refine bK ?_
  simp only[bT.b2]
  rw[if_neg (by simp;omega)]
  simp[lu]
 |cons x l ih=>
  intro j hl row o hrow ho ha
  obtain⟨hj,hx,hdr⟩:=oc hl
  have hxb:=hxs x (hx ▸ gM hj)
  have hlo:=pK hd hm hk ho ha
  have hf:=hd.few
  have h1:=aai hd hm hk hxb (o:=o) (by omega)
  have hb:bT.b2 d k i N1 F1 xs (row,(j:Int),mOf (o.map (kz k)),o)=some (.next (row++[((nS (iS k) o x).2:Int)],((j+1:Nat):Int),mOf ((nS (iS k) o x).1.map (kz k)),(nS (iS k) o x).1)):=by
   simp only[bT.b2]
   rw[if_pos (by simpa using hj),fv hj,oB,hx,h1,oB,cK (by omega),oB,eN (by omega)]
  rw[bM hb,ih (j+1) hdr _ _ (by simp[hrow]) (fun y hy=>?_) (vY x ha)]
  ·simp[lu]
  ·have:y∈(lu (iS k) o [x]).1:=hy
   exact akK hd hm hk (fun z hz=>by simp at hz;exact hz ▸ hxb) ho y this
def akt(d:fG)(s:Int):Bool:=qw d s.toNat
theorem amm:∀(fu i:Nat) (o:List Int) (R:List (List Int)),fu+i=d.Next.length+1→i≤o.length→R.length=i→(∀x∈o,0≤x∧x < (d.Next.length:Int))→rX (iS k) o→
  ∃o' R',bgo (iS k) (fun x=>qE d x.toNat) d.Next.length fu i o R=some (o',R')∧Loop (bT.b1 d k) ((i:Int),mOf (o.map (kz k)),o,R,(o.take i).map (akt d))=some (⟨R',o'.map (akt d)⟩,0):=by
 intro fu
 induction fu with
 |zero=>intro i o R h1 h2 _ ho ha;have:=pK hd hm hk ho ha;omega
 |succ fu ih=>
  intro i o R h1 h2 hR ho ha
  have hlo:=pK hd hm hk ho ha
  have hf:=hd.few
  rw[bgo]
  cases hs:o[i]? with
  |none=>
   have hse:o.length≤i:=List.getElem?_eq_none_iff.1 hs
   refine⟨o,R,rfl,bK ?_⟩
   simp only[bT.b1]
   rw[if_neg (by simp;omega),List.take_of_length_le hse];rfl
  |some x=>
   have hso:=(List.getElem?_eq_some_iff.1 hs)
   have hx:=ho x (List.mem_of_getElem? hs)
   have hxn:x.toNat < d.Next.length:=by omega
   have hrw:=mT hd hm hxn
   have hrow:d.Next[x.toNat]=qE d x.toNat:=by unfold qE;rw[gD,gE hxn];rfl
   have hin:=akK hd hm hk hrw.2 ho
   have hap:=wa (same:=iS k) (qE d x.toNat) o ha
   have hle:=pK hd hm hk hin hap
   obtain⟨t,ht⟩:=mO (same:=iS k) (qE d x.toNat) o
   simp only
   rw[if_pos hle]
   have hs':(lu (iS k) o (qE d x.toNat)).1[i]? =some x:=by rw[← ht,List.getElem?_append_left hso.1];exact hs
   have hso':=(List.getElem?_eq_some_iff.1 hs')
   have hxf:x.toNat < d.Final.length:=by rw[hd.fin];exact hxn
   have hfv:d.Final[x.toNat]=akt d x:=by unfold akt qw;rw[gD,gE hxf];rfl
   have hb:bT.b1 d k ((i:Int),mOf (o.map (kz k)),o,R,(o.take i).map (akt d))=some (.next (((i+1:Nat):Int),mOf ((lu (iS k) o (qE d x.toNat)).1.map (kz k)),(lu (iS k) o (qE d x.toNat)).1,R++[(lu (iS k) o (qE d x.toNat)).2],((lu (iS k) o (qE d x.toNat)).1.take (i+1)).map (akt d))):=by
    simp only[bT.b1]
    have h0:(([]:List Int),(0:Int),mOf (o.map (kz k)),o)=(([]:List Int),((0:Nat):Int),mOf (o.map (kz k)),o):=rfl
    rw[if_pos (by simpa using hso.1),bz,hs,oB,sq hx.1 (gE hxn),oB,hrow,h0,arI hd hm hk hrw.2 (by rw[hrw.1];exact hm) (qE d x.toNat) 0 rfl [] o rfl ho ha]
    unfold bT.k3 bT.k2
    rw[bz,hs',oB,sq hx.1 (gE hxf),oB,cK (by omega),oB,cK (by simp;omega),oB,eN (by omega),List.nil_append,ej hso'.1,hso'.2,List.map_append,← ht,List.take_append_of_le_length (by omega),hfv]
    rfl
   rw[bM hb]
   exact ih (i+1) _ _ (by omega) (by have:=hso'.1;omega) (by simp[hR]) hin hap
end
section
variable{d:fG}{m:Nat}(hd:DOk d m)(hm1:1≤m)(hm:m≤200)
include hd hm1 hm
theorem aod:∃k o' R',aeb d m k∧bgo (iS k) (fun x=>qE d x.toNat) d.Next.length (d.Next.length+1) 0 [0] []=some (o',R')∧bT d=some (⟨R',o'.map (akt d)⟩,0):=by
 obtain⟨k,h1,hk⟩:=aif hd hm
 have hs:=hd.some
 have h0:∀x∈[(0:Int)],0≤x∧x < (d.Next.length:Int):=fun x hx=>by simp at hx;omega
 obtain⟨o',R',h2,h3⟩:=amm hd hm hk (d.Next.length+1) 0 [0] [] (by omega) (by simp) rfl h0 (by simp[rX])
 refine⟨k,o',R',hk,h2,?_⟩
 unfold bT
 have e:=aai hd hm hk (h0 0 (by simp)) (o:=[]) (by simp)
 have e':dx 0 [] k []=some (0,mOf ([(0:Int)].map (kz k)),[0]):=e
 rw[abo hd hm1 hm,oB,if_neg (by simp),h1,oB,e',oB]
 exact h3
theorem ajF{N:List (List Int)}{s c:Nat}{cs:List Nat}:tG N s (cs++[c])=oq N (tG N s cs) c:=by unfold tG;rw[List.foldl_append];rfl
theorem aj4:∀{cs:List Nat} {s:Nat},s < d.Next.length→(∀c∈cs,c < m)→tG d.Next s cs < d.Next.length
 | [],s,hs,_=>hs
 |c::cs,s,hs,h=>aj4 (s:=oq d.Next s c) (sG hd hm hs (h c (by simp))) fun c' hc'=>h c' (by simp[hc'])
theorem agZ:∃e,bT d=some (e,0)∧DOk e m∧∀cs:List Nat,(∀c∈cs,c < m)→qw e (tG e.Next 0 cs)=qw d (tG d.Next 0 cs):=by
 obtain⟨k,o',R',hk,h1,h2⟩:=aod hd hm1 hm
 have hs:=hd.some
 have hf:=hd.few
 have h0:∀x∈[(0:Int)],0≤x∧x < (d.Next.length:Int):=fun x hx=>by simp at hx;omega
 have hr:∀x,iS k x x=true:=fun x=>by simp[iS]
 obtain⟨hI,hpre,hlen⟩:=adG hr (d.Next.length+1) 0 [0] [] o' R' ⟨rfl,Nat.zero_le _,fun j x hj=>absurd hj (Nat.not_lt_zero _)⟩ (by simpa using hs) h1
 have hin:∀x∈o',0≤x∧x < (d.Next.length:Int):=alV (P:=fun x=>0≤x∧x < (d.Next.length:Int)) (fun x hx y hy=>(mT hd hm (by omega)).2 y hy) _ _ _ _ _ _ h0 h1
 have ho0:o'[0]? =some 0:=by
  obtain⟨t,ht⟩:=hpre
  rw[← ht];rfl
 have hR:R'.length=o'.length:=hI.len
 have hol:=(List.getElem?_eq_some_iff.1 ho0).1
 have hget:∀{i:Nat} {y:Int},o'[i]? =some y→qw ⟨R',o'.map (akt d)⟩ i=akt d y:=fun {i y} h=>by
  unfold qw
  rw[gD,gP,h];rfl
 refine⟨⟨R',o'.map (akt d)⟩,h2,⟨by simp only;omega,by simp only;omega,by simp[hR],fun r hr'=>?_⟩,fun cs hcs=>?_⟩
 ·obtain⟨i,hi,rfl⟩:=List.getElem_of_mem hr'
  simp only at hi ⊢
  have hio:i < o'.length:=by omega
  obtain⟨r,g1,g2,g3⟩:=hI.row i o'[i] hio (gE hio)
  rw[gE hi]at g1
  obtain rfl:=sI g1
  have hxb:=hin _ (gM hio)
  have hrw:=mT hd hm (i:=o'[i].toNat) (by omega)
  refine⟨g2.trans hrw.1,fun e he=>?_⟩
  obtain⟨c,hc,rfl⟩:=List.getElem_of_mem he
  have hc2:c < (qE d o'[i].toNat).length:=by omega
  obtain⟨kk,g4,g5⟩:=g3 c _ (gE hc2)
  rw[gE hc]at g4
  have:=sI g4
  have:=aln g5
  omega
 ·have hsim:=axb (β:=Nat) hI (Q:=fun x b=>(0≤x∧x < (d.Next.length:Int))∧b < d.Next.length∧kz k x=kd k b) (nx:=oq d.Next) (m:=m) (fun x b c hq hc=>by
   obtain⟨hx,hb,he⟩:=hq
   have hrw:=mT hd hm (i:=x.toNat) (by omega)
   refine⟨(qE d x.toNat)[c]'(by omega),gE _,hrw.2 _ (gM _),sG hd hm hb hc,?_⟩
   have h3:=hk.step x.toNat b (by omega) hb he c hc
   rw[← h3]
   unfold kz oq
   show _=kd k ((qE d x.toNat).getD c 0).toNat
   rw[gD,gE (by omega)];rfl) (fun y y' b hm' hs hq=>⟨hin y' hm',hq.2.1,(show kz k y'=kz k y by simpa[iS]using hs).trans hq.2.2⟩) cs hcs 0 0 0 ho0 ⟨h0 0 (by simp),by omega,rfl⟩
  obtain⟨y,g1,hy,hb,he⟩:=hsim
  show qw ⟨R',o'.map (akt d)⟩ (tG R' 0 cs)=_
  rw[hget g1]
  exact hk.fin y.toNat _ (by omega) hb he
end
end
noncomputable section
theorem anX:∀(n:aD) (A:GA),okN n=true→(∀s∈A.1,0≤s)→∀s∈(glu n A).2.1,0≤s:=by
 intro n
 induction n using aD.ind with
 |h n ih=>
 intro A hok hA
 obtain⟨k,s,l⟩:=n
 have hok':=hok
 rw[pR,bA,jN,List.all_eq_true]at hok'
 have ih':∀x∈l,∀A:GA,(∀s∈A.1,0≤s)→∀s∈(glu x A).2.1,0≤s:=fun x hx A h=>ih x hx A (hok'.2 x hx) h
 have cat:∀(l':List aD),(∀x∈l',x∈l)→∀(out:GP) (A:GA),(∀s∈A.1,0≤s)→∀s∈(jt l' out A).2.1,0≤s:=by
  intro l'
  induction l' with
  |nil=>intro _ out A h;rw[jt];exact h
  |cons x l' ihl=>intro hl out A h;rw[jt];exact ihl (fun y hy=>hl y (by simp[hy])) _ _ (ih' x (hl x (by simp)) A h)
 have alt:∀(l':List aD),(∀x∈l',x∈l)→∀(out:GP) (A:GA),(∀s∈A.1,0≤s)→∀s∈(jy l' out A).2.1,0≤s:=by
  intro l'
  induction l' with
  |nil=>intro _ out A h;rw[jy];exact h
  |cons x l' ihl=>intro hl out A h;rw[jy];exact ihl (fun y hy=>hl y (by simp[hy])) _ _ (ih' x (hl x (by simp)) A h)
 rw[glu]
 split
 ·rename_i h1
  subst h1
  have h3:=hok'.1
  simp only[okK,if_pos,bA,decide_eq_true_eq]at h3
  intro s' hs'
  rcases List.mem_append.1 hs' with h|h
  ·exact hA s' h
  ·obtain rfl:=List.mem_singleton.1 h
   exact h3.2.1
 ·split
  ·exact cat l (fun x h=>h) _ A hA
  ·split
   ·exact alt l (fun x h=>h) _ A hA
   ·cases l with
    |nil=>rw[dj];exact hA
    |cons x l=>rw[dj];exact ih' x (by simp) A hA
theorem wo{n:aD}(hok:okN n=true)(h:dp n≤200):ae2 200 (po n):=by
 have hg:=(aqH (hit:=fun _ _=>true) n ([],[]) rfl).2.1
 have hI:In2 (glu n ([],[])).2.1.length (glu n ([],[])).1 ([],[]) (glu n ([],[])).2:=⟨hg,nR _,fun row hr=>by cases hr⟩
 have hl:=xJ n ([],[])
 exact⟨hg.len,by simp at hl;exact Nat.le_trans hl h,hI.first,hI.last,hI.all,anX n ([],[]) hok (fun s hs=>by cases hs)⟩
def msk(masks:List Int)(cs:List Nat):List Int:=cs.map fun c=>masks.getD c 0
def alM(n:aD)(w:List Int):Prop:=∃u v,w=u++v∧kO jC n v
section
variable{n:aD}(hok:okN n=true)(hsz:dp n≤200){masks:List Int}(hm1:1≤masks.length)(hm:masks.length≤200){limit:Nat}(hl1:1≤limit)(hl:limit≤5000)
include hok hsz hm1 hm hl1 hl
theorem aoh:(∃d,bh (po n) masks true (limit:Int)=some (d,0)∧DOk d masks.length∧∀cs:List Nat,(∀c∈cs,c < masks.length)→(qw d (tG d.Next 0 cs)=true↔alM n (msk masks cs)))∨
  bgo eqL (fun x=>masks.map (nxA (po n) x)) limit (limit+1) 0 [[0]] []=none∧bh (po n) masks true (limit:Int)=some (⟨[],[]⟩,8):=by
 have ha:=wo hok hsz
 have hsb:=pc (nR 200) ha hm1 hm hl1 hl
 cases hb:bgo eqL (fun x=>masks.map (nxA (po n) x)) limit (limit+1) 0 [[0]] []with
 |none=>rw[hb]at hsb;exact .inr ⟨rfl,hsb⟩
 |some p=>
  obtain⟨o',R'⟩:=p
  rw[hb]at hsb
  left
  obtain⟨hI,hpre,hlen⟩:=adG aoN (limit+1) 0 [[0]] [] o' R' ⟨rfl,Nat.zero_le _,fun j x hj=>absurd hj (Nat.not_lt_zero _)⟩ (by simpa using hl1) hb
  have ho0:o'[0]? =some [0]:=by
   obtain⟨t,ht⟩:=hpre
   rw[← ht];rfl
  have hol:=(List.getElem?_eq_some_iff.1 ho0).1
  have hR:R'.length=o'.length:=hI.len
  refine⟨_,hsb,⟨by simp only;omega,by simp only;omega,by simp[hR],fun r hr'=>?_⟩,fun cs hcs=>?_⟩
  ·obtain⟨i,hi,rfl⟩:=List.getElem_of_mem hr'
   simp only at hi ⊢
   have hio:i < o'.length:=by omega
   obtain⟨r,g1,g2,g3⟩:=hI.row i o'[i] hio (gE hio)
   rw[gE hi]at g1
   obtain rfl:=sI g1
   rw[List.length_map]at g2
   refine⟨g2,fun e he=>?_⟩
   obtain⟨c,hc,rfl⟩:=List.getElem_of_mem he
   obtain⟨kk,g4,g5⟩:=g3 c _ (gE (by rw[List.length_map];omega))
   rw[gE hc]at g4
   have:=sI g4
   have:=aln g5
   omega
  ·have hsim:=axb (β:=List Int) hI (Q:=fun x b=>x=b) (nx:=fun b c=>nxA (po n) b (masks.getD c 0)) (m:=masks.length) (fun x b c hq hc=>by
    subst hq
    refine⟨_,?_,rfl⟩
    rw[gP,gE hc,gD,gE hc];rfl) (fun y y' b hm' hs hq=>by
    have:y'=y:=by simpa[eqL]using hs
    rw[this];exact hq) cs hcs 0 [0] [0] ho0 rfl
   obtain⟨y,g1,g2⟩:=hsim
   have hst:y=amP jC (po n).Sets (po n).First (po n).Follow (msk masks cs):=by
    rw[g2]
    unfold amP msk
    rw[List.foldl_map];rfl
   have hg:=(aqH (hit:=jC) n ([],[]) rfl).2
   have he:=as5 hg.1 hg.2 (msk masks cs)
   show qw ⟨R',o'.map (enA (po n))⟩ (tG R' 0 cs)=true↔_
   unfold qw
   rw[gD,gP,g1]
   rw[hst]
   exact he
theorem zM:(∃e,ec n masks (limit:Int)=some (e,0)∧DOk e masks.length∧∀cs:List Nat,(∀c∈cs,c < masks.length)→(qw e (tG e.Next 0 cs)=true↔alM n (msk masks cs)))∨
  bgo eqL (fun x=>masks.map (nxA (po n) x)) limit (limit+1) 0 [[0]] []=none∧ec n masks (limit:Int)=some (⟨[],[]⟩,8):=by
 unfold ec
 rw[xR hok hsz,oB,if_neg (by simp)]
 rcases aoh hok hsz hm1 hm hl1 hl with⟨d,h1,h2,h3⟩|⟨h0,h1⟩
 ·left
  obtain⟨e,g1,g2,g3⟩:=agZ h2 hm1 hm
  refine⟨e,?_,g2,fun cs hcs=>by rw[g3 cs hcs];exact h3 cs hcs⟩
  rw[h1,oB,if_neg (by simp),g1];rfl
 ·right
  refine⟨h0,?_⟩
  rw[h1,oB,if_pos (by simp)]
end
end
noncomputable section
def ed2(x:ah):List Int:=[x.Low,x.High+1]
def rL(l:List ah):List Int:=l.flatMap ed2
theorem sh:∀{l:List ah},(rL l).length=2*l.length
 | []=>rfl
 |x::l=>by
  show(ed2 x++rL l).length=_
  rw[lA,sh];simp[ed2];omega
theorem ae0{l m:List ah}:rL (l++m)=rL l++rL m:=by simp[rL]
theorem aoU{l:List ah}{e:Int}:e∈rL l↔∃x∈l,e=x.Low∨e=x.High+1:=by
 unfold rL
 rw[List.mem_flatMap]
 exact exists_congr fun x=>and_congr Iff.rfl (by simp[ed2])
theorem alW{xs:List ah}{v:Nat}(hx:∀x∈xs,Ok x)(hl:xs.length≤1200)(hv:v≤1000){out:List Int}(ho:out.length≤10000):
  Loop (aI.b3 (v:Int) xs) (out,(0:Int))=some (.next (out++rL xs,((v+1:Nat):Int))):=by
 have hrun:=dZ (b:=aI.b3 (v:Int) xs) (fun j:Nat=>((out++rL (xs.take j),(j:Int)):List Int×Int)) (i:=0) (n:=xs.length) (Nat.zero_le _) (fun j _ hj=>by
  simp only[aI.b3]
  obtain⟨a,b,c⟩:=hx _ (gM hj)
  rw[if_pos (by simpa using hj),fv hj,oB,cK (by rw[lA,sh,List.length_take];omega),oB,w64 (n:=xs[j].High+1) (by omega) (by omega),eN (by omega),ej hj,ae0,List.append_assoc]
  rfl)
 have h0:(out,(0:Int))=(fun j:Nat=>((out++rL (xs.take j),(j:Int)):List Int×Int)) 0:=by simp[rL]
 rw[h0,hrun]
 refine bK ?_
 simp only[aI.b3]
 rw[if_neg (by simp),List.take_length]
 unfold aI.k4
 rw[eN (by omega)]
 try rfl
section
variable{S:List (List ah)}(h:Good S)
include h
theorem akR{A:aQ}:aI A S=aI.k1 A (0::rL S.flatten):=by
 have hs:=h.small
 have hf:=h.few
 unfold aI
 have hrun:=dZ (b:=aI.b2 A S) (fun j:Nat=>((0::rL (S.take j).flatten,(j:Int)):List Int×Int)) (i:=0) (n:=S.length) (Nat.zero_le _) (fun j _ hj=>by
  simp only[aI.b2]
  have h1:=zl hj
  rw[if_pos (by simpa using hj),fv hj,oB,alW (fun x hx=>h.ok x (si hj hx)) (by omega) (by omega) (by rw[lC,sh];omega),ly hj,ae0]
  rfl)
 have h0:(([(0:Int)]:List Int),(0:Int))=(fun j:Nat=>((0::rL (S.take j).flatten,(j:Int)):List Int×Int)) 0:=by simp[rL]
 rw[h0,hrun]
 refine bK ?_
 simp only[aI.b2]
 rw[if_neg (by simp),List.take_length]
def prC(S:List (List ah))(e:Int):bZ:=⟨e,1114111,UInt8.ofNat (kn S e)⟩
theorem al7{r:Int}(hr:0≤r)(hr2:r≤1114111):uB ((edg S).map (prC S)) r=UInt8.ofNat (kn S r):=by
 obtain⟨k,hk,h1,h2⟩:=tS h hr hr2
 have hp:=(fE h).2.2.1
 have hE:=km h
 have key:∀j,j≤(edg S).length→k < j→uB (((edg S).take j).map (prC S)) r=UInt8.ofNat (kn S r):=by
  intro j
  induction j with
  |zero=>intro _ h;omega
  |succ j ih=>
   intro hj hkj
   have hj':j < (edg S).length:=by omega
   rw[ej hj',List.map_append,List.map_singleton,lR]
   by_cases e:j=k
   ·subst e
    rw[fW hk]at h1
    rw[if_pos ⟨h1,hr2⟩]
    show UInt8.ofNat (kn S (edg S)[j])=_
    unfold kn
    rw[ta h hk (by rw[fW hk];exact h1) h2 hr2,fW hk]
   ·rw[if_neg,ih (by omega) (by omega)]
    rintro⟨a,_⟩
    have hm:=wm hp (fun e he=>(hE e he).2) (j - (k+1)) (k+1) (by omega)
    rw[show k+1+(j - (k+1))=j by omega,fW hj']at hm
    have:(edg S)[j]≤r:=a
    omega
 have:=key (edg S).length (nR _) hk
 rwa[List.take_length]at this
theorem asK{k:Nat}(hk:k < 4352):cR ((edg S).map (prC S)) k=cR (prp S) k:=by
 apply Vector.toList_inj.1
 apply List.ext_getElem?
 intro j
 by_cases hj:j < 256
 ·have hb:=awf hk hj
  rw[ky _ _ _ hj,ky _ _ _ hj,al7 h hb.1 hb.2,acZ h hb.1 hb.2]
 ·rw[gN (by simp;omega),gN (by simp;omega)]
def IsT(S:List (List ah))(t:bQ):Prop:=∀r,inR r→gh t r=some (UInt8.ofNat (kn S r))
theorem zm(hF:Fit S){A:aQ}(hA:IsA S A):∃t,aI A S=some (some t)∧IsT S t:=by
 have hs:=h.small
 have hel:=(fE h).2.2.2.2
 have hpl:((edg S).map (prC S)).length≤4096:=by rw[List.length_map];omega
 have hpo:∀x∈(edg S).map (prC S),OkP x:=by
  intro x hx
  obtain⟨e,he,rfl⟩:=List.mem_map.1 hx
  have:=km h e he
  exact⟨this.1,this.2,Int.le_refl _⟩
 have hbk:fC ((edg S).map (prC S)) nB=fC (prp S) nB:=by
  unfold fC
  apply List.map_congr_left
  intro k hk
  exact asK h (by have:=List.mem_range.1 hk;rw[wx]at this;exact this)
 have hcnt:(firsts (fC ((edg S).map (prC S)) nB)).length≤256:=by rw[hbk];exact hF.2
 obtain⟨like,hlike,hbuild⟩:=(zJ wx hpo hpl).1 hcnt
 refine⟨⟨like,firsts (fC ((edg S).map (prC S)) nB)⟩,?_,fun r hr=>?_⟩
 ·rw[akR h]
  have hr:dU=140737488355328:=rfl
  have hol:(0::rL S.flatten).length≤2401:=by rw[lC,sh];omega
  have hpm:((0::rL S.flatten).mergeSort fun x y=>decide (x≤y)).Perm (0::rL S.flatten):=List.mergeSort_perm _ _
  have hsort:((0::rL S.flatten).mergeSort fun x y=>decide (x≤y)).Pairwise (· ≤ ·):=by
   have:=List.pairwise_mergeSort (le:=fun x y:Int=>decide (x≤y)) (by intro a b c;simp;omega) (by intro a b;simp;omega) (0::rL S.flatten)
   exact this.imp (by simp)
  obtain⟨c1,c2,c3⟩:=nE hsort
  have hlen:=hpm.length_eq
  have hu:aI.k1 A (0::rL S.flatten)=Loop (aI.b1 A (Go.Lib.compact ((0::rL S.flatten).mergeSort fun x y=>decide (x≤y)))) ([],(0:Int)):=by
   unfold aI.k1 tC
   rw[if_pos (by omega),oB]
   unfold cY
   rw[if_pos (by omega)];rfl
  rw[hu]
  have hr1:∀e,e∈Go.Lib.compact ((0::rL S.flatten).mergeSort fun x y=>decide (x≤y))↔e=0∨∃x∈S.flatten,e=x.Low∨e=x.High+1:=fun e=>by
   rw[c2,hpm.mem_iff,mC,aoU]
  have hrl:(Go.Lib.compact ((0::rL S.flatten).mergeSort fun x y=>decide (x≤y))).length≤2401:=by omega
  generalize Go.Lib.compact ((0::rL S.flatten).mergeSort fun x y=>decide (x≤y))=rr at c1 hr1 hrl
  have hfe:rr.filter (fun e=>decide (e≤1114111))=edg S:=by
   refine pC (c1.sublist List.filter_sublist) (fE h).2.2.1 fun e=>?_
   rw[List.mem_filter,hr1,(fE h).2.2.2.1,decide_eq_true_eq]
   constructor
   ·rintro⟨h0|⟨x,hx,h1|h1⟩,h2⟩
    ·exact .inl h0
    ·exact .inr ⟨x,hx,.inl h1⟩
    ·exact .inr ⟨x,hx,.inr ⟨by omega,h1⟩⟩
   ·rintro(h0|⟨x,hx,h1|⟨h2,h1⟩⟩)
    ·exact⟨.inl h0,by omega⟩
    ·obtain⟨a,b,c⟩:=h.ok x hx
     exact⟨.inr ⟨x,hx,.inl h1⟩,by omega⟩
    ·exact⟨.inr ⟨x,hx,.inr h1⟩,by omega⟩
  have hrun:=dZ (b:=aI.b1 A rr) (fun j:Nat=>((((rr.take j).filter (fun e=>decide (e≤1114111))).map (prC S),(j:Int)):List bZ×Int)) (i:=0) (n:=rr.length) (Nat.zero_le _) (fun j _ hj=>by
   simp only[aI.b1]
   have hpl:(((rr.take j).filter (fun e=>decide (e≤1114111))).map (prC S)).length≤2401:=by
    rw[List.length_map]
    exact Nat.le_trans (List.length_filter_le _ _) (by rw[List.length_take];omega)
   rw[if_pos (by simpa using hj),fv hj,oB,ej hj,List.filter_append,List.map_append]
   by_cases hc:rr[j]≤1114111
   ·have h0:0≤rr[j]:=by
     rcases(hr1 _).1 (gM hj)with e|⟨x,hx,e|e⟩
     ·omega
     ·obtain⟨a,b,c⟩:=h.ok x hx;omega
     ·obtain⟨a,b,c⟩:=h.ok x hx;omega
    have hlt:=pO h ⟨h0,hc⟩
    have hF1:=hF.1
    have hof:ofI S rr[j]=((kn S rr[j]:Nat):Int):=if_pos ⟨h0,hc⟩
    rw[if_pos (decide_eq_true hc),axx h hF hA,oB,cK (by omega),oB,hof,ud (by omega)]
    unfold aI.k3
    rw[eN (by omega)]
    simp[hc,prC]
   ·rw[if_neg (by simpa using hc)]
    unfold aI.k3
    rw[eN (by omega)]
    simp[hc])
  have h0:(([]:List bZ),(0:Int))=(fun j:Nat=>((((rr.take j).filter (fun e=>decide (e≤1114111))).map (prC S),(j:Int)):List bZ×Int)) 0:=by simp
  rw[h0,hrun]
  refine bK ?_
  simp only[aI.b1]
  rw[if_neg (by simp),List.take_length,hfe]
  unfold aI.k2
  rw[hbuild];rfl
 ·rw[zz wx hlike hcnt hr.1 hr.2,al7 h hr.1 hr.2]
end
end
noncomputable section
structure at3(p:bL):Prop where
 few:avI p
 flat:p.Sets.flatten.length≤1200
def zE(n:aD)(masks:List Int)(limit:Nat):Prop:=bgo eqL (fun x=>masks.map (nxA (po n) x)) limit (limit+1) 0 [[0]] []≠none
def aqe(n:aD)(masks:List Int)(e:fG):Prop:=DOk e masks.length∧∀cs:List Nat,(∀c∈cs,c < masks.length)→(qw e (tG e.Next 0 cs)=true↔alM n (msk masks cs))
def ae3(p:bL)(limit:Nat):Prop:=jf p∧Fit p.Sets∧∀x∈p.Rules,zE x.Left (cls p.Sets) limit∧zE (ji x.Right) (cls p.Sets) limit
def aqc(S:List (List ah))(x:nG)(r:bP):Prop:=r.breaks=x.Break∧aqe x.Left (cls S) r.states.v0∧aqe (ji x.Right) (cls S) r.states.v1
structure MOk(p:bL)(y:aV):Prop where
 len:y.rules.length=p.Rules.length
 rule:∀(k:Nat) (x:nG) (r:bP),p.Rules[k]? =some x→y.rules[k]? =some r→aqc p.Sets x r
 trie:IsT p.Sets y.trie
section
variable{p:bL}(hp:at3 p){limit:Nat}(hl1:1≤limit)(hl:limit≤5000)
include hp hl1 hl
theorem jf.good(h:jf p):Good p.Sets:=⟨h.2.2.1,h.1,hp.flat⟩
theorem jf.ok(h:jf p){x:nG}(hx:x∈p.Rules):(okN x.Left=true∧dp x.Left≤200)∧(okN (ji x.Right)=true∧dp (ji x.Right)≤200):=by
 have hf:=ph h.2.2.2.2 x hx
 have hn:=hp.few.nodes x hx
 refine⟨⟨sK h.1 _ _ _ hf.1,by omega⟩,?_,?_⟩
 ·rw[aqO];exact sK h.1 _ _ _ hf.2
 ·rw[ajC];omega
theorem ars(h:Good p.Sets):1≤(cls p.Sets).length:=List.length_pos_of_mem (xa h (r:=0) (by omega) (by omega))
theorem apc{A:aQ}(hF:Fit p.Sets)(hA:IsA p.Sets A):cV A=some (cls p.Sets):=by
 obtain⟨like,hL,rfl⟩:=hA
 unfold cV dz
 have:=hF.1
 rw[cK (by show(0+(cls p.Sets).length)*8≤_;omega)];rfl
theorem aik(hR:jf p)(hF:Fit p.Sets){A:aQ}(hA:IsA p.Sets A){t:bQ}{n:Int}:
  ∀(l:List nG) (i:Nat),p.Rules.drop i=l→∀out:List bP,out.length=i→
   ((∀x∈l,zE x.Left (cls p.Sets) limit∧zE (ji x.Right) (cls p.Sets) limit)→∃more:List bP,more.length=l.length∧(∀(k:Nat) (x:nG) (r:bP),l[k]? =some x→more[k]? =some r→aqc p.Sets x r)∧
     Loop (aR.b2 p (limit:Int) A t n) ((i:Int),out)=some (some ⟨out++more,t,n⟩,0))∧
   ((¬ ∀x∈l,zE x.Left (cls p.Sets) limit∧zE (ji x.Right) (cls p.Sets) limit)→Loop (aR.b2 p (limit:Int) A t n) ((i:Int),out)=some (none,8)):=by
 have hG:=jf.good hp hl1 hl hR
 have hc1:=ars hp hl1 hl hG
 have hc2:=hF.1
 have hrl:=hp.few.rules
 intro l
 induction l with
 |nil=>
  intro i hli out ho
  have hi:p.Rules.length≤i:=List.drop_eq_nil_iff.1 hli
  refine⟨fun _=>⟨[],rfl,fun k x r h=>by simp at h,?_⟩,fun h=>absurd (fun x hx=>by cases hx) h⟩
  refine bK ?_
  simp only[aR.b2]
  rw[if_neg (by simp;omega),List.append_nil];rfl
 |cons x l ih=>
  intro i hli out ho
  obtain⟨hil,hx,hd⟩:=oc hli
  have hxm:x∈p.Rules:=hx ▸ gM hil
  have hok:=jf.ok hp hl1 hl hR hxm
  have hn:=hp.few.nodes x hxm
  have e1:aR.b2 p (limit:Int) A t n ((i:Int),out)=(ec x.Left (cls p.Sets) (limit:Int)).bind fun r12=>if (r12.2 != (0:Int))then some (Step.done (none,r12.2))else(ec (ji x.Right) (cls p.Sets) (limit:Int)).bind fun r14=>if (r14.2 != (0:Int))then some (Step.done (none,r14.2))else aR.k6 (i:Int) out x r12.1.Next r12.1.Final r14.1.Next r14.1.Final:=by
   simp only[aR.b2]
   rw[if_pos (by simpa using hil),fv hil,oB,hx,atm (by omega),oB,apc hp hl1 hl hF hA,oB]
   rfl
  rcases zM hok.1.1 hok.1.2 hc1 hc2 hl1 hl with⟨d1,a1,a2,a3⟩|⟨b0,b1⟩
  ·rcases zM hok.2.1 hok.2.2 hc1 hc2 hl1 hl with⟨d2,c1,c2,c3⟩|⟨b0,b1⟩
   ·have e2:aR.b2 p (limit:Int) A t n ((i:Int),out)=some (Step.next (((i+1:Nat):Int),out++[⟨x.Break,⟨d1,d2⟩⟩])):=by
     rw[e1,a1,oB,if_neg (by simp),c1,oB,if_neg (by simp)]
     unfold aR.k6 aR.k5
     rw[cK (by omega),oB,eN (by omega)]
    have h1:=ih (i+1) hd (out++[⟨x.Break,⟨d1,d2⟩⟩]) (by simp[ho])
    rw[bM e2]
    constructor
    ·intro hall
     obtain⟨more,g1,g2,g3⟩:=h1.1 fun y hy=>hall y (List.mem_cons_of_mem _ hy)
     refine⟨⟨x.Break,⟨d1,d2⟩⟩::more,by simp[g1],fun k y r hy hr=>?_,by rw[g3];simp⟩
     cases k with
     |zero=>
      simp at hy hr
      subst hy;subst hr
      exact⟨rfl,⟨a2,a3⟩,⟨c2,c3⟩⟩
     |succ k=>exact g2 k y r (by simpa using hy) (by simpa using hr)
    ·intro hnot
     refine h1.2 fun hall=>hnot fun y hy=>?_
     rcases List.mem_cons.1 hy with rfl|hy
     ·constructor
      ·intro hnone
       have hsb:=pc (nR 200) (wo hok.1.1 hok.1.2) hc1 hc2 hl1 hl
       rw[hnone]at hsb
       have:ec y.Left (cls p.Sets) (limit:Int)=some (⟨[],[]⟩,8):=by
        unfold ec
        rw[xR hok.1.1 hok.1.2,oB,if_neg (by simp),hsb,oB,if_pos (by simp)]
       rw[this]at a1
       simp at a1
      ·intro hnone
       have hsb:=pc (nR 200) (wo hok.2.1 hok.2.2) hc1 hc2 hl1 hl
       rw[hnone]at hsb
       have:ec (ji y.Right) (cls p.Sets) (limit:Int)=some (⟨[],[]⟩,8):=by
        unfold ec
        rw[xR hok.2.1 hok.2.2,oB,if_neg (by simp),hsb,oB,if_pos (by simp)]
       rw[this]at c1
       simp at c1
     ·exact hall y hy
   ·have e2:aR.b2 p (limit:Int) A t n ((i:Int),out)=some (Step.done (none,8)):=by
     rw[e1,a1,oB,if_neg (by simp),b1,oB,if_pos (by simp)]
    exact⟨fun hall=>absurd b0 (hall x (by simp)).2,fun _=>cP e2⟩
  ·have e2:aR.b2 p (limit:Int) A t n ((i:Int),out)=some (Step.done (none,8)):=by
    rw[e1,b1,oB,if_pos (by simp)]
   exact⟨fun hall=>absurd b0 (hall x (by simp)).1,fun _=>cP e2⟩
open Classical in
theorem qD:(ae3 p limit→∃y,aR p (limit:Int)=some (some y,0)∧MOk p y)∧(¬ ae3 p limit→∃e:Int,e≠0∧aR p (limit:Int)=some (none,e)):=by
 have hr:=ahf hp.few
 unfold aR
 rw[hr,oB]
 by_cases hR:jf p
 ·rw[decide_eq_true hR,if_neg (by simp),if_neg (by simp;omega),oB,if_neg (by simp;omega)]
  have hG:=jf.good hp hl1 hl hR
  by_cases hF:Fit p.Sets
  ·obtain⟨A,hA,hnew⟩:=art hG hF
   obtain⟨t,ht,hT⟩:=zm hG hF hA
   have hloop:=aik hp hl1 hl hR hF hA (t:=t) (n:=((cls p.Sets).length:Int)) p.Rules 0 rfl [] rfl
   rw[hnew,oB]
   simp only
   rw[if_neg (by simp),ht,oB]
   simp only
   rw[anh hA,oB]
   constructor
   ·intro hC
    obtain⟨more,g1,g2,g3⟩:=hloop.1 hC.2.2
    exact⟨_,g3,⟨by simpa using g1,fun k x r hx hr=>g2 k x r hx (by simpa using hr),hT⟩⟩
   ·intro hC
    exact⟨8,by omega,hloop.2 fun hall=>hC ⟨hR,hF,hall⟩⟩
  ·refine⟨fun hC=>absurd hC.2.1 hF,fun _=>⟨3,by omega,?_⟩⟩
   rw[aiM hG hF,oB]
   simp
 ·refine⟨fun hC=>absurd hC.1 hR,fun _=>⟨1,by omega,?_⟩⟩
  rw[decide_eq_false hR];rfl
end
end
noncomputable section
def upd{α:Type}(n:Nat)(f g:Nat→α)(j:Nat):List α:=(List.range n).map fun i=>if i < j then g i else f i
section
variable{α:Type}{n:Nat}{f g:Nat→α}{j:Nat}
theorem wW:(upd n f g j).length=n:=by simp[upd]
theorem lm{i:Nat}(h:i < n):(upd n f g j)[i]? =some (if i < j then g i else f i):=by
 unfold upd;rw[gP,List.getElem?_range h];rfl
theorem pa(hj:j < n):(upd n f g j).set j (g j)=upd n f g (j+1):=by
 apply List.ext_getElem?
 intro i
 rw[List.getElem?_set]
 by_cases h:j=i
 ·subst h
  rw[if_pos rfl,if_pos (by rw[wW];exact hj),lm hj,if_pos (by omega)]
 ·rw[if_neg h]
  by_cases hi:i < n
  ·rw[lm hi,lm hi]
   by_cases h2:i < j
   ·rw[if_pos h2,if_pos (by omega)]
   ·rw[if_neg h2,if_neg (by omega)]
  ·rw[gN (by rw[wW];omega),gN (by rw[wW];omega)]
theorem zL(hj:j < n)(h:g j=f j):upd n f g j=upd n f g (j+1):=by
 rw[← pa hj]
 apply List.ext_getElem?
 intro i
 rw[List.getElem?_set]
 by_cases h2:j=i
 ·subst h2
  rw[if_pos rfl,if_pos (by rw[wW];exact hj),lm hj,if_neg (by omega),h]
 ·rw[if_neg h2]
theorem nY:upd n f g 0=(List.range n).map f:=by unfold upd;simp
theorem rm:upd n f g n=(List.range n).map g:=by
 unfold upd
 apply List.map_congr_left
 intro i hi
 rw[if_pos (List.mem_range.1 hi)]
end
def ff(B:Nat→Bool):Nat→Nat→Int
 |0,_=> -1
 |d+1,k=>if B k then(k:Int)else ff B d (k+1)
theorem aeK{B B':Nat→Bool}:∀{d k:Nat},(∀j,k≤j→j < k+d→B j=B' j)→ff B d k=ff B' d k
 |0,k,_=>rfl
 |d+1,k,h=>by
  rw[ff,ff,h k (by omega) (by omega),aeK fun j h1 h2=>h j (by omega) (by omega)]
theorem auu{B:Nat→Bool}:∀{d k:Nat},ff B d k= -1∨((k:Int)≤ff B d k∧ff B d k < ((k+d:Nat):Int))
 |0,k=>.inl rfl
 |d+1,k=>by
  rw[ff]
  split
  ·right;omega
  ·rcases auu (B:=B) (d:=d) (k:=k+1)with h|h
   ·exact .inl h
   ·right;omega
def okT(l:List Int):Prop:=∀r∈l,inR r
def jS(S:List (List ah))(l:List Int):List Nat:=l.map (kn S)
def xG(d:fG)(cs:List Nat):Bool:=qw d (tG d.Next 0 cs)
section
variable{S:List (List ah)}(hG:Good S)(hF:Fit S){y:aV}(hT:IsT S y.trie){l:List Int}(hl:okT l)(hll:l.length≤1000)
include hG hF hT hl hll
theorem asP:∀c∈jS S l,c < (cls S).length:=fun c hc=>by
 obtain⟨r,hr,rfl⟩:=List.mem_map.1 hc
 exact pO hG (hl r hr)
theorem aed{d:fG}(hd:DOk d (cls S).length){which:Int}{ix:Nat→Nat}{ws:List Int}(hwl:ws.length=l.length)(hws:∀r∈ws,inR r)
  (h1:∀v,v≤l.length→dE (v:Int) which l=some (ix v:Int)) (h2:∀v,v≤l.length→ix v≤l.length∧ix (ix v)=v)
  (h3:∀v,v < l.length→idx l (mn (ix v:Int) (ix (v+1):Int))=ws[v]?):
  bm y l d which=some ((List.range (l.length+1)).map fun i=>xG d ((jS S ws).take (ix i))):=by
 have hcs:∀c∈jS S ws,c < (cls S).length:=fun c hc=>by
  obtain⟨r,hr,rfl⟩:=List.mem_map.1 hc
  exact pO hG (hws r hr)
 have hm:=hF.1
 have hc1:1≤(cls S).length:=List.length_pos_of_mem (xa hG (r:=0) (by omega) (by omega))
 have hlen:IntKind.i64.wrap ((l.length:Int)+1)=((l.length+1:Nat):Int):=eN (by omega)
 unfold bm
 rw[hlen,aaH (by omega),oB]
 let st:Nat→List Bool×Int×Int:=fun j=>((List.range (l.length+1)).map (fun i=>if ix i < j then xG d ((jS S ws).take (ix i))else false),((tG d.Next 0 ((jS S ws).take j):Nat):Int),(j:Int))
 have hrun:=dZ (b:=bm.b1 y l d which) st (i:=0) (n:=l.length+1) (Nat.zero_le _) (fun j _ hj=>by
  simp only[bm.b1,st]
  rw[hlen]
  have hs:tG d.Next 0 ((jS S ws).take j) < d.Next.length:=aj4 hd hc1 hm hd.some fun c hc=>hcs c (List.mem_of_mem_take hc)
  have hsf:tG d.Next 0 ((jS S ws).take j) < d.Final.length:=by rw[hd.fin];exact hs
  have hfv:d.Final[tG d.Next 0 ((jS S ws).take j)]=xG d ((jS S ws).take j):=by
   unfold xG qw;rw[gD,gE hsf];rfl
  have hj':j≤l.length:=by omega
  have hix:=h2 j hj'
  have hout:∀(o:List Bool),o.length=l.length+1→ix j < o.length:=fun o ho=>by rw[ho];omega
  have hol:((List.range (l.length+1)).map (fun i=>if ix i < j then xG d ((jS S ws).take (ix i))else false)).length=l.length+1:=by simp
  have hset:((List.range (l.length+1)).map (fun i=>if ix i < j then xG d ((jS S ws).take (ix i))else false)).set (ix j) (xG d ((jS S ws).take j))=(List.range (l.length+1)).map (fun i=>if ix i < j+1 then xG d ((jS S ws).take (ix i))else false):=by
   apply List.ext_getElem?
   intro i
   rw[List.getElem?_set]
   by_cases h:ix j=i
   ·subst h
    rw[if_pos rfl,if_pos (by rw[hol];omega),gP,List.getElem?_range (by omega)]
    simp[hix.2]
   ·rw[if_neg h]
    by_cases hi:i < l.length+1
    ·simp only[gP,List.getElem?_range hi,Option.map_some]
     congr 1
     have hne:ix i≠j:=fun e=>h (by rw[← e];exact(h2 i (by omega)).2)
     by_cases h4:ix i < j
     ·rw[if_pos h4,if_pos (by omega)]
     ·rw[if_neg h4,if_neg (by omega)]
    ·rw[gN (by simp;omega),gN (by simp;omega)]
  rw[if_pos (by simp;omega),fv hsf,oB,h1 j hj',oB,fv (hout _ hol),oB,hfv]
  unfold bm.k2
  rw[eN (by omega),Int.toNat_natCast,hset]
  by_cases hlt:j < l.length
  ·have hwj:j < ws.length:=by omega
   have hr:=hws ws[j] (gM hwj)
   have hcl:=pO hG hr
   have hto:((UInt8.ofNat (kn S ws[j])).toNat:Int)=((kn S ws[j]:Nat):Int):=by
    rw[UInt8.toNat_ofNat',Nat.mod_eq_of_lt (by omega)]
   have hrow:=hd.row _ (gM hs)
   have hcr:kn S ws[j] < d.Next[tG d.Next 0 ((jS S ws).take j)].length:=by rw[hrow.1];exact hcl
   have hnx:d.Next[tG d.Next 0 ((jS S ws).take j)][kn S ws[j]]=((tG d.Next 0 ((jS S ws).take (j+1)):Nat):Int):=by
    have hcj:j < (jS S ws).length:=by unfold jS;rw[List.length_map];exact hwj
    rw[ej hcj,ajF hd hc1 hm]
    have e:(jS S ws)[j]=kn S ws[j]:=by simp[jS]
    rw[e]
    unfold oq
    have e2:(d.Next.getD (tG d.Next 0 ((jS S ws).take j)) []).getD (kn S ws[j]) 0=d.Next[tG d.Next 0 ((jS S ws).take j)][kn S ws[j]]:=by
     rw[gD,gD,gE hs,gS,gE hcr];rfl
    rw[e2]
    have:=hrow.2 _ (gM hcr)
    omega
   rw[if_pos (by simpa using hlt),fv hs,oB,oB,h1 (j+1) hlt,oB,h3 j hlt,gE hwj,oB,hT _ hr,oB,hto,fv hcr,oB,hnx]
  ·rw[if_neg (by simpa using hlt)]
   have hj2:j=l.length:=by omega
   have e:(jS S ws).take (j+1)=(jS S ws).take j:=by
    have:(jS S ws).length=l.length:=by unfold jS;rw[List.length_map,hwl]
    rw[List.take_of_length_le (by omega),List.take_of_length_le (by omega)]
   rw[e])
 have h0:(List.replicate (Int.toNat ((l.length+1:Nat):Int)) false,(0:Int),(0:Int))=st 0:=by
  show _=(_,_,_)
  simp only[Int.toNat_natCast]
  congr 1
  simp[List.map_const']
 rw[h0,hrun]
 refine bK ?_
 simp only[bm.b1,st]
 rw[hlen,if_neg (by simp)]
 unfold bm.k1
 congr 2
 apply List.map_congr_left
 intro i hi
 rw[if_pos]
 have:=(h2 i (by have:=List.mem_range.1 hi;omega)).1
 omega
theorem ali{d:fG}(hd:DOk d (cls S).length):bm y l d 0=some ((List.range (l.length+1)).map fun i=>xG d ((jS S l).take i)):=
 aed hG hF hT hl hll hd (ix:=fun v=>v) (ws:=l) rfl hl (fun v hv=>rfl) (fun v hv=>⟨hv,rfl⟩) (fun v hv=>by
  have:mn (v:Int) ((v+1:Nat):Int)=(v:Int):=by unfold mn;rw[if_neg (by omega)]
  rw[this,bz])
theorem agb{d:fG}(hd:DOk d (cls S).length):bm y l d 1=some ((List.range (l.length+1)).map fun i=>xG d ((jS S l).drop i).reverse):=by
 rw[aed hG hF hT hl hll hd (which:=1) (ix:=fun v=>l.length - v) (ws:=l.reverse) (by simp) (fun r hr=>hl r (by simpa using hr)) (fun v hv=>by
  unfold dE
  rw[if_pos (by rfl),w64 (by omega) (by omega)]
  congr 1;omega) (fun v hv=>⟨by omega,by omega⟩) (fun v hv=>by
  have:mn ((l.length - v:Nat):Int) ((l.length - (v+1):Nat):Int)=((l.length - (v+1):Nat):Int):=by unfold mn;split <;> omega
  rw[this,bz,List.getElem?_reverse hv]
  congr 1;omega)]
 congr 1
 apply List.map_congr_left
 intro i hi
 have hi':i≤l.length:=by have:=List.mem_range.1 hi;omega
 have hcl:(jS S l).length=l.length:=by unfold jS;rw[List.length_map]
 have e:(jS S l.reverse).take (l.length - i)=((jS S l).drop i).reverse:=by
  have e1:jS S l.reverse=(jS S l).reverse:=by unfold jS;rw[List.map_reverse]
  rw[e1,List.reverse_drop,hcl]
 rw[e]
end
end
noncomputable section
def aqx(n:aD)(w:List Int):Prop:=∃u v,w=u++v∧kO jC n u
def atz(S:List (List ah))(x:nG)(l:List Int)(i:Nat):Prop:=alM x.Left ((l.map (mkI S)).take i)∧aqx x.Right ((l.map (mkI S)).drop i)
open Classical in
def isB(p:bL)(l:List Int)(i:Nat)(k:Nat):Bool:=decide (∃x,p.Rules[k]? =some x∧atz p.Sets x l i)
def ko(p:bL)(l:List Int)(i:Nat):Int:=ff (isB p l i) p.Rules.length 0
theorem ac7{p:bL}{l:List Int}{i k:Nat}:isB p l i k=true↔∃x,p.Rules[k]? =some x∧atz p.Sets x l i:=by
 unfold isB;simp only[decide_eq_true_eq]
theorem ao1{n:aD}{w:List Int}:alM (ji n) w.reverse↔aqx n w:=by
 unfold alM aqx
 constructor
 ·rintro⟨u,v,e,h⟩
  refine⟨v.reverse,u.reverse,?_,(aap jC n v).1 h⟩
  rw[← List.reverse_append,← e,List.reverse_reverse]
 ·rintro⟨u,v,e,h⟩
  refine⟨v.reverse,u.reverse,by rw[e,List.reverse_append],(aap jC n _).2 (by rw[List.reverse_reverse];exact h)⟩
section
variable{p:bL}(hp:at3 p)(hR:jf p)(hF:Fit p.Sets){y:aV}(hM:MOk p y){l:List Int}(hl:okT l)(hll:l.length≤1000)
include hp hR hF hM hl hll
theorem atQ:Good p.Sets:=⟨hR.2.2.1,hR.1,hp.flat⟩
theorem aku:∀m:List Int,okT m→msk (cls p.Sets) (jS p.Sets m)=m.map (mkI p.Sets):=fun m hm=>by
 have hG:=atQ hp hR hF hM hl hll
 unfold msk jS
 rw[List.map_map]
 apply List.map_congr_left
 intro r hr
 have hmem:=xa hG (r:=r) (hm r hr).1 (hm r hr).2
 show(cls p.Sets).getD (kn p.Sets r) 0=_
 unfold kn
 rw[gD,qQ hmem];rfl
theorem aqM{k:Nat}{x:nG}{r:bP}(hx:p.Rules[k]? =some x)(hr:y.rules[k]? =some r){i:Nat}(hi:i≤l.length):
  ((xG r.states.v0 ((jS p.Sets l).take i))&&(xG r.states.v1 ((jS p.Sets l).drop i).reverse))=isB p l i k:=by
 have hG:=atQ hp hR hF hM hl hll
 obtain⟨_,⟨_,a2⟩,⟨_,b2⟩⟩:=hM.rule k x r hx hr
 have hcs:∀c∈jS p.Sets l,c < (cls p.Sets).length:=asP hG hF hM.trie hl hll
 have e1:msk (cls p.Sets) ((jS p.Sets l).take i)=(l.map (mkI p.Sets)).take i:=by
  rw[← aku hp hR hF hM hl hll l hl];unfold msk;rw[List.map_take]
 have e2:msk (cls p.Sets) ((jS p.Sets l).drop i).reverse=((l.map (mkI p.Sets)).drop i).reverse:=by
  rw[← aku hp hR hF hM hl hll l hl];unfold msk;rw[List.map_reverse,List.map_drop]
 rw[Bool.eq_iff_iff,bA,ac7]
 unfold xG
 rw[a2 _ fun c hc=>hcs c (List.mem_of_mem_take hc),b2 _ fun c hc=>hcs c (List.mem_of_mem_drop (List.mem_reverse.1 hc)),e1,e2,ao1]
 constructor
 ·intro h;exact⟨x,hx,h⟩
 ·rintro⟨x',hx',h⟩
  rw[hx]at hx'
  cases hx'
  exact h
theorem apC{k:Nat}{x:nG}{r:bP}(hx:p.Rules[k]? =some x)(hr:y.rules[k]? =some r){d:Nat}(hkd:k+(d+1)=p.Rules.length)(out2:List Int)(ho2:out2.length=l.length+1):
  Loop (ax.b2 out2 (k:Int) ((List.range (l.length+1)).map fun i=>xG r.states.v0 ((jS p.Sets l).take i)) ((List.range (l.length+1)).map fun i=>xG r.states.v1 ((jS p.Sets l).drop i).reverse)) ((List.range (l.length+1)).map fun i=>ff (isB p l i) d (k+1),(0:Int))=
   some (Step.next ((List.range (l.length+1)).map fun i=>ff (isB p l i) (d+1) k,IntKind.i64.wrap ((k:Int) - 1))):=by
 have hrun:=dZ (b:=ax.b2 out2 (k:Int) ((List.range (l.length+1)).map fun i=>xG r.states.v0 ((jS p.Sets l).take i)) ((List.range (l.length+1)).map fun i=>xG r.states.v1 ((jS p.Sets l).drop i).reverse))
  (fun j=>(upd (l.length+1) (fun i=>ff (isB p l i) d (k+1)) (fun i=>ff (isB p l i) (d+1) k) j,(j:Int))) (i:=0) (n:=l.length+1) (Nat.zero_le _) (fun j _ hj=>by
  simp only[ax.b2]
  have hat:=aqM hp hR hF hM hl hll hx hr (i:=j) (by omega)
  rw[if_pos (by rw[ho2];simp;omega),bz,gP,List.getElem?_range hj,Option.map_some,oB,bz,gP,List.getElem?_range hj,Option.map_some]
  generalize xG r.states.v0 ((jS p.Sets l).take j)=u at hat ⊢
  generalize xG r.states.v1 ((jS p.Sets l).drop j).reverse=v at hat ⊢
  unfold ax.k4
  have hset:ff (isB p l j) (d+1) k=if isB p l j k then(k:Int)else ff (isB p l j) d (k+1):=rfl
  have hin:idx (upd (l.length+1) (fun i=>ff (isB p l i) d (k+1)) (fun i=>ff (isB p l i) (d+1) k) j) (j:Int)≠none:=by rw[bz,lm hj];simp
  have yes:isB p l j k=true→(idx (upd (l.length+1) (fun i=>ff (isB p l i) d (k+1)) (fun i=>ff (isB p l i) (d+1) k) j) (j:Int)).bind (fun n=>some (Step.next (List.set (upd (l.length+1) (fun i=>ff (isB p l i) d (k+1)) (fun i=>ff (isB p l i) (d+1) k) j) (Int.toNat (j:Int)) (k:Int),IntKind.i64.wrap ((j:Int)+1))))=some (Step.next (ρ:=Step (List Int×Int) (List Int)) (upd (l.length+1) (fun i=>ff (isB p l i) d (k+1)) (fun i=>ff (isB p l i) (d+1) k) (j+1),((j+1:Nat):Int))):=fun hb=>by
   obtain⟨n,hn⟩:=Option.ne_none_iff_exists'.1 hin
   have e:ff (isB p l j) (d+1) k=(k:Int):=by rw[hset,hb];rfl
   rw[hn,oB,eN (by omega),Int.toNat_natCast,← pa hj,e]
  have no:isB p l j k=false→(some (Step.next (List.map id (upd (l.length+1) (fun i=>ff (isB p l i) d (k+1)) (fun i=>ff (isB p l i) (d+1) k) j),IntKind.i64.wrap ((j:Int)+1))):Option (Step (List Int×Int) (Step (List Int×Int) (List Int))))=some (Step.next (upd (l.length+1) (fun i=>ff (isB p l i) d (k+1)) (fun i=>ff (isB p l i) (d+1) k) (j+1),((j+1:Nat):Int))):=fun hb=>by
   have e:(fun i=>ff (isB p l i) (d+1) k) j=(fun i=>ff (isB p l i) d (k+1)) j:=by show ff (isB p l j) (d+1) k=ff (isB p l j) d (k+1);rw[hset,hb];rfl
   rw[List.map_id,eN (by omega),zL hj e]
  rw[List.map_id]at no
  cases u with
  |false=>exact no (by rw[← hat];rfl)
  |true=>
   cases v with
   |false=>exact no (by rw[← hat];rfl)
   |true=>exact yes (by rw[← hat];rfl))
 have h0:((List.range (l.length+1)).map fun i=>ff (isB p l i) d (k+1),(0:Int))=(upd (l.length+1) (fun i=>ff (isB p l i) d (k+1)) (fun i=>ff (isB p l i) (d+1) k) 0,((0:Nat):Int)):=by rw[nY];rfl
 rw[h0]
 refine hrun.trans (bK ?_)
 simp only[ax.b2]
 rw[if_neg (by rw[ho2];simp),rm]
 rfl
theorem anw:∀(d k:Nat),k+d=p.Rules.length→Loop (ax.b1 y l) ((List.range (l.length+1)).map fun i=>ff (isB p l i) d k,(k:Int) - 1)=some ((List.range (l.length+1)).map (ko p l)):=by
 intro d k
 induction k generalizing d with
 |zero=>
  intro h
  refine bK ?_
  simp only[ax.b1]
  rw[if_neg (by simp)]
  have:d=p.Rules.length:=by omega
  rw[this];rfl
 |succ k ih=>
  intro h
  have hG:=atQ hp hR hF hM hl hll
  have hk:k < p.Rules.length:=by omega
  have hky:k < y.rules.length:=by rw[hM.len];exact hk
  have hrl:=hp.few.rules
  obtain⟨_,⟨a1,_⟩,⟨b1,_⟩⟩:=hM.rule k _ _ (gE hk) (gE hky)
  have e0:(((k+1:Nat):Int) - 1)=(k:Int):=by omega
  rw[e0]
  have hin:=apC hp hR hF hM hl hll (gE hk) (gE hky) (d:=d) (by omega) ((List.range (l.length+1)).map fun i=>ff (isB p l i) d (k+1)) (by simp)
  have e:ax.b1 y l ((List.range (l.length+1)).map fun i=>ff (isB p l i) d (k+1),(k:Int))=some (Step.next ((List.range (l.length+1)).map fun i=>ff (isB p l i) (d+1) k,(k:Int) - 1)):=by
   simp only[ax.b1]
   rw[if_pos (by simp),fv hky,oB,ali hG hF hM.trie hl hll a1,oB,agb hG hF hM.trie hl hll b1,oB,hin,w64 (by omega) (by omega)]
  rw[bM e]
  exact ih (d+1) (by omega)
theorem ae4:ax y l=some ((List.range (l.length+1)).map (ko p l)):=by
 have hlen:IntKind.i64.wrap ((l.length:Int)+1)=((l.length+1:Nat):Int):=eN (by omega)
 have hrl:=hp.few.rules
 unfold ax
 rw[hlen,aaH (by omega),oB,Int.toNat_natCast]
 have hrun:=dZ (b:=ax.b3 y l) (fun j=>(upd (l.length+1) (fun _=>(0:Int)) (fun _=>(-1:Int)) j,(j:Int))) (i:=0) (n:=l.length+1) (Nat.zero_le _) (fun j _ hj=>by
  simp only[ax.b3]
  rw[hlen,if_pos (by simp;omega),bz,lm hj,oB,eN (by omega),Int.toNat_natCast,← pa hj])
 have h0:(List.replicate (l.length+1) (0:Int),(0:Int))=(upd (l.length+1) (fun _=>(0:Int)) (fun _=>(-1:Int)) 0,((0:Nat):Int)):=by rw[nY];simp[List.map_const']
 rw[h0]
 refine hrun.trans (bK ?_)
 simp only[ax.b3]
 rw[hlen,if_neg (by simp),rm]
 unfold ax.k1
 have:=anw hp hR hF hM hl hll 0 p.Rules.length (by omega)
 rw[hM.len,w64 (by omega) (by omega)]
 rw[show(fun i=>ff (isB p l i) 0 p.Rules.length)=fun _:Nat=>(-1:Int) from rfl]at this
 rw[this]
end
end
noncomputable section
def okB(l:List Int):Bool:=l.all fun r=>decide (0≤r)&&decide (r≤1114111)
theorem tE{l:List Int}:okB l=true↔okT l:=by
 unfold okB okT inR
 rw[List.all_eq_true]
 constructor
 ·intro h r hr;have:=h r hr;simpa using this
 ·intro h r hr;have:=h r hr;simpa using this
theorem xj{l:List Int}(hl:l.length≤1000000):jT l=some (okB l):=by
 unfold jT
 rw[amW (f:=ju) (g:=fun r=>decide (r < 0)||decide (r > 1114111)) (fun r _=>rfl) (by omega),oB]
 congr 1
 unfold okB
 rw[List.not_any_eq_all_not]
 congr 1
 funext r
 rw[Bool.eq_iff_iff]
 simp
def brk(p:bL)(l:List Int)(i:Nat):Bool:=decide (i=0)||decide (i=l.length)||decide (ko p l i < 0)||(p.Rules.getD (ko p l i).toNat ⟨false,⟨0,0,[]⟩,⟨0,0,[]⟩⟩).Break
def aqg(p:bL)(l:List Int):List Int:=((List.range (l.length+1)).filter (brk p l)).map fun i:Nat=>(i:Int)
theorem ael{p:bL}{l:List Int}{i:Nat}:ko p l i= -1∨(0≤ko p l i∧ko p l i < (p.Rules.length:Int)):=by
 rcases auu (B:=isB p l i) (d:=p.Rules.length) (k:=0)with h|h
 ·exact .inl h
 ·right;unfold ko;omega
theorem adq{y:aV}{l:List Int}(hll:l.length≤1000)(h:¬ okT l):bj y l=some []:=by
 unfold bj
 have:okB l=false:=by cases e:okB l with
  |false=>rfl
  |true=>exact absurd (tE.1 e) h
 rw[xj (by omega),oB,this];rfl
theorem aec{y:aV}{l:List Int}{i:Int}(hll:l.length≤1000)(h:¬ okT l):dF y l i=some (-1):=by
 unfold dF
 have:okB l=false:=by cases e:okB l with
  |false=>rfl
  |true=>exact absurd (tE.1 e) h
 rw[xj (by omega),oB,this];rfl
theorem aeG{y:aV}{l:List Int}{i:Int}{a:List Int}(h:bj y l=some a)(hl:a.length≤1000000):dv y l i=some (a.contains i):=by
 unfold dv
 rw[h,oB,ayb (by omega)];rfl
theorem zW{y:aV}{l:List Int}{i:Int}(hll:l.length≤1000)(h:¬ okT l):dv y l i=some false:=aeG (adq hll h) (by simp)
section
variable{p:bL}(hp:at3 p)(hR:jf p)(hF:Fit p.Sets){y:aV}(hM:MOk p y){l:List Int}(hl:okT l)(hll:l.length≤1000)
include hp hR hF hM hl hll
theorem att{i:Nat}(hi:i≤l.length):dF y l (i:Int)=some (ko p l i):=by
 unfold dF
 rw[xj (by omega),oB,tE.2 hl]
 simp only[Bool.not_true,if_false,Bool.false_eq_true]
 rw[if_neg (by simp),decide_eq_false (by omega),oB,if_neg (by simp),ae4 hp hR hF hM hl hll,oB,bz,gP,List.getElem?_range (by omega)]
 rfl
theorem aiK:bj y l=some (aqg p l):=by
 unfold bj
 rw[xj (by omega),oB,tE.2 hl]
 simp only[Bool.not_true,if_false,Bool.false_eq_true]
 rw[ae4 hp hR hF hM hl hll,oB]
 have hrl:=hp.few.rules
 have hrun:=dZ (b:=bj.b1 y l ((List.range (l.length+1)).map (ko p l))) (fun j=>(((List.range j).filter (brk p l)).map fun i:Nat=>(i:Int),(j:Int))) (i:=0) (n:=l.length+1) (Nat.zero_le _) (fun j _ hj=>by
  simp only[bj.b1]
  have hj':j≤l.length:=by omega
  rw[if_pos (by simp;omega),bz,gP,List.getElem?_range hj,Option.map_some,oB]
  have hle:(((List.range j).filter (brk p l)).map fun i:Nat=>(i:Int)).length≤j:=by
   rw[List.length_map]
   exact Nat.le_trans (List.length_filter_le _ _) (by simp)
  have hb:(if ((j:Int)==(0:Int))then some true else if ((j:Int)==(l.length:Int))then some true else if (decide (ko p l j < (0:Int)))then some true else(idx y.rules (ko p l j)).bind fun x=>some x.breaks)=some (brk p l j):=by
   unfold brk
   by_cases h1:j=0
   ·subst h1;simp
   ·rw[if_neg (by simpa using h1),decide_eq_false h1]
    by_cases h2:j=l.length
    ·rw[if_pos (by simp;omega),decide_eq_true h2];rfl
    ·rw[if_neg (by simp;omega),decide_eq_false h2]
     by_cases h3:ko p l j < 0
     ·rw[if_pos (by simpa using h3),decide_eq_true h3];rfl
     ·rw[if_neg (by simpa using h3),decide_eq_false h3]
      obtain⟨k,hk⟩:∃k:Nat,ko p l j=(k:Int):=⟨(ko p l j).toNat,by omega⟩
      have hkl:k < p.Rules.length:=by
       rcases ael (p:=p) (l:=l) (i:=j)with h|h
       ·omega
       ·omega
      have hky:k < y.rules.length:=by rw[hM.len];exact hkl
      rw[hk,fv hky,oB]
      have:=(hM.rule k _ _ (gE hkl) (gE hky)).1
      rw[this,Int.toNat_natCast,gD,gE hkl]
      rfl
  rw[hb,oB,List.range_succ,List.filter_append,List.map_append]
  cases e:brk p l j with
  |true=>
   rw[if_pos rfl,cK (by omega),oB]
   unfold bj.k2
   rw[eN (by omega)]
   simp[List.filter,e]
  |false=>
   rw[if_neg (by simp)]
   unfold bj.k2
   rw[eN (by omega)]
   simp[List.filter,e])
 refine hrun.trans (bK ?_)
 simp only[bj.b1]
 rw[if_neg (by simp)]
 rfl
theorem aem:(aqg p l).length≤l.length+1:=by
 unfold aqg
 rw[List.length_map]
 exact Nat.le_trans (List.length_filter_le _ _) (by simp)
theorem aoE{i:Nat}:(aqg p l).contains (i:Int)=(decide (i≤l.length)&&brk p l i):=by
 rw[Bool.eq_iff_iff,List.contains_iff_mem,bA]
 unfold aqg
 rw[List.mem_map]
 constructor
 ·rintro⟨j,hj,e⟩
  obtain rfl:j=i:=by omega
  rw[List.mem_filter,List.mem_range]at hj
  exact⟨by have:=hj.1;simp;omega,hj.2⟩
 ·rintro⟨h1,h2⟩
  exact⟨i,List.mem_filter.2 ⟨List.mem_range.2 (by simp at h1;omega),h2⟩,rfl⟩
theorem am6{i:Nat}(hi:i≤l.length):dv y l (i:Int)=some (brk p l i):=by
 have h:=aem hp hR hF hM hl hll
 rw[aeG (aiK hp hR hF hM hl hll) (by omega),aoE hp hR hF hM hl hll,decide_eq_true hi];rfl
end
end
def bAt(a:List Bool)(i:Nat):Bool:=a.getD i false
def seg(w:List Int)(i j:Nat):List Int:=(w.drop i).take (j - i)
theorem aeE{w:List Int}{i:Nat}:seg w i i=[]:=by simp[seg]
theorem tg{w:List Int}{i j:Nat}(h:i≤j)(hj:j≤w.length):(seg w i j).length=j - i:=by unfold seg;rw[List.length_take,List.length_drop];omega
theorem xF{w:List Int}{i k j:Nat}(h1:i≤k)(h2:k≤j):seg w i j=seg w i k++seg w k j:=by
 unfold seg
 rw[show j - i=(k - i)+(j - k) by omega,List.take_add,List.drop_drop,show i+(k - i)=k by omega]
theorem alQ{w u v:List Int}{i j:Nat}(h:i≤j)(hj:j≤w.length)(e:seg w i j=u++v):i+u.length≤j∧seg w i (i+u.length)=u∧seg w (i+u.length) j=v:=by
 have hl:=tg h hj
 rw[e,lA]at hl
 have hk:i+u.length≤j:=by omega
 have h2:=xF (w:=w) (i:=i) (k:=i+u.length) (j:=j) (by omega) hk
 rw[e]at h2
 have hl2:=tg (w:=w) (i:=i) (j:=i+u.length) (by omega) (by omega)
 have h3:=List.append_inj h2 (by rw[hl2];omega)
 exact⟨hk,h3.1.symm,h3.2.symm⟩
def reach(M:List Int→Prop)(w:List Int)(a:List Bool)(j:Nat):Prop:=∃i,i≤j∧j≤w.length∧bAt a i=true∧M (seg w i j)
structure dR(M:List Int→Prop)(w:List Int)(a o:List Bool):Prop where
 len:o.length=w.length+1
 iff:∀j,j≤w.length→(bAt o j=true↔reach M w a j)
section
variable{P Q:List Int→Prop}{w:List Int}{a o o':List Bool}
theorem reach.congr(h:∀u,P u↔Q u){j:Nat}:reach P w a j↔reach Q w a j:=
 ⟨fun⟨i,h1,h2,h3,h4⟩=>⟨i,h1,h2,h3,(h _).1 h4⟩,fun⟨i,h1,h2,h3,h4⟩=>⟨i,h1,h2,h3,(h _).2 h4⟩⟩
theorem dR.congr(h:∀u,P u↔Q u)(e:dR P w a o):dR Q w a o:=⟨e.len,fun j hj=>(e.iff j hj).trans (reach.congr h)⟩
theorem dR.nil(h:a.length=w.length+1):dR (fun u=>u=[]) w a a:=by
 refine⟨h,fun j hj=>⟨fun e=>⟨j,nR _,hj,e,aeE⟩,?_⟩⟩
 rintro⟨i,h1,h2,h3,h4⟩
 have:=tg h1 h2
 rw[h4]at this
 have:i=j:=by simp at this;omega
 rwa[← this]
theorem dR.cat(h1:dR P w a o)(h2:dR Q w o o'):dR (oh P Q) w a o':=by
 refine⟨h2.len,fun j hj=>(h2.iff j hj).trans ⟨?_,?_⟩⟩
 ·rintro⟨k,a1,a2,a3,a4⟩
  obtain⟨i,b1,b2,b3,b4⟩:=(h1.iff k (by omega)).1 a3
  exact⟨i,by omega,hj,b3,_,_,xF b1 a1,b4,a4⟩
 ·rintro⟨i,b1,b2,b3,u,v,e,b4,b5⟩
  obtain⟨c1,c2,c3⟩:=alQ b1 b2 e
  refine⟨i+u.length,c1,hj,(h1.iff _ (by omega)).2 ⟨i,by omega,by omega,b3,by rw[c2];exact b4⟩,by rw[c3];exact b5⟩
theorem dR.none:dR (fun _=>False) w a (List.replicate (w.length+1) false):=by
 refine⟨by simp,fun j hj=>⟨fun e=>?_,fun⟨_,_,_,_,h⟩=>h.elim⟩⟩
 unfold bAt at e
 rw[gD,List.getElem?_replicate]at e
 split at e <;> simp at e
def orB(a b:List Bool):List Bool:=(List.range a.length).map fun i=>bAt a i||bAt b i
theorem abk{a b:List Bool}:(orB a b).length=a.length:=by simp[orB]
theorem akN{a:List Bool}{i:Nat}(h:bAt a i=true):i < a.length:=by
 apply Classical.byContradiction
 intro hn
 unfold bAt at h
 rw[gD,gN (by omega)]at h
 simp at h
theorem xN{f:Nat→Bool}{n i:Nat}(h:i < n):bAt ((List.range n).map f) i=f i:=by
 unfold bAt
 rw[gD,gP,List.getElem?_range h];rfl
theorem tZ{a b:List Bool}{i:Nat}(h:i < a.length):bAt (orB a b) i=(bAt a i||bAt b i):=xN h
theorem dR.or(h1:dR P w a o)(h2:dR Q w a o'):dR (fun u=>P u∨Q u) w a (orB o o'):=by
 refine⟨by rw[abk];exact h1.len,fun j hj=>?_⟩
 rw[tZ (by rw[h1.len];omega),Bool.or_eq_true,h1.iff j hj,h2.iff j hj]
 constructor
 ·rintro(⟨i,c1,c2,c3,c4⟩|⟨i,c1,c2,c3,c4⟩)
  ·exact⟨i,c1,c2,c3,.inl c4⟩
  ·exact⟨i,c1,c2,c3,.inr c4⟩
 ·rintro⟨i,c1,c2,c3,c4|c4⟩
  ·exact .inl ⟨i,c1,c2,c3,c4⟩
  ·exact .inr ⟨i,c1,c2,c3,c4⟩
structure ka(P:List Int→Prop)(w:List Int)(b out fresh:List Bool):Prop where
 len:out.length=w.length+1
 flen:fresh.length=w.length+1
 says:∀j,j≤w.length→bAt out j=true→reach (kf P) w b j
 base:∀j,j≤w.length→bAt b j=true→bAt out j=true
 sub:∀j,j≤w.length→bAt fresh j=true→bAt out j=true
 step:∀i j,i≤j→j≤w.length→bAt out i=true→bAt fresh i=false→P (seg w i j)→bAt out j=true
variable{b out fresh nxt:List Bool}
theorem ka.start(h:b.length=w.length+1):ka P w b b b:=
 ⟨h,h,fun j hj e=>⟨j,nR _,hj,e,by rw[aeE];exact .nil⟩,fun j hj e=>e,fun j hj e=>e,fun i j _ _ h1 h2 _=>by rw[h1]at h2;cases h2⟩
def anD(out nxt:List Bool):List Bool:=(List.range out.length).map fun i=>bAt nxt i&& !bAt out i
theorem ab2{i:Nat}(h:i < out.length):bAt (anD out nxt) i=(bAt nxt i&& !bAt out i):=xN h
theorem ka.next(h:ka P w b out fresh)(hn:dR P w fresh nxt):ka P w b (orB out nxt) (anD out nxt):=by
 have hl:=h.len
 refine⟨by rw[abk];exact hl,by simp[anD,hl],fun j hj e=>?_,fun j hj e=>?_,fun j hj e=>?_,fun i j hi hj h1 h2 h3=>?_⟩
 ·rw[tZ (by omega),Bool.or_eq_true]at e
  rcases e with e|e
  ·exact h.says j hj e
  ·obtain⟨k,k1,k2,k3,k4⟩:=(hn.iff j hj).1 e
   obtain⟨i,i1,i2,i3,i4⟩:=h.says k (by omega) (h.sub k (by omega) k3)
   exact⟨i,by omega,hj,i3,by rw[xF i1 k1];exact i4.app (.one k4)⟩
 ·rw[tZ (by omega),h.base j hj e];rfl
 ·rw[ab2 (by omega)]at e
  rw[tZ (by omega)]
  simp at e
  simp[e.1]
 ·rw[tZ (by omega)]at h1 ⊢
  rw[ab2 (by omega)]at h2
  by_cases ho:bAt out i=true
  ·by_cases hf:bAt fresh i=true
   ·rw[(hn.iff j hj).2 ⟨i,hi,hj,hf,h3⟩];simp
   ·rw[h.step i j hi hj ho (by simpa using hf) h3];rfl
  ·simp at ho
   rw[ho]at h1 h2
   simp at h1 h2
   rw[h1]at h2;cases h2
theorem ka.done(h:ka P w b out fresh)(hf:∀j,j≤w.length→bAt fresh j=false):dR (kf P) w b out:=by
 refine⟨h.len,fun j hj=>⟨h.says j hj,?_⟩⟩
 have key:∀u,kf P u→∀i,i≤j→bAt out i=true→seg w i j=u→bAt out j=true:=by
  intro u hu
  induction hu with
  |nil=>
   intro i hi ho e
   have:=tg hi hj
   rw[e]at this
   have:i=j:=by simp at this;omega
   rwa[← this]
  |cons h1 _ ih=>
   rename_i u v _
   intro i hi ho e
   obtain⟨c1,c2,c3⟩:=alQ hi hj e
   exact ih (i+u.length) c1 (h.step i _ (by omega) (by omega) ho (hf i (by omega)) (by rw[c2];exact h1)) c3
 rintro⟨i,h1,h2,h3,h4⟩
 exact key _ h4 i h1 (h.base i (by omega) h3) rfl
def outs(a:List Bool):Nat:=a.count false
theorem aiZ{l:List Nat}{f g:Nat→Bool}(h:∀i∈l,f i=true→g i=true):(l.map g).count false≤(l.map f).count false:=by
 induction l with
 |nil=>simp
 |cons x l ih=>
  have:=ih fun i hi=>h i (List.mem_cons_of_mem _ hi)
  have hx:=h x (by simp)
  rw[List.map_cons,List.map_cons,List.count_cons,List.count_cons]
  cases hf:f x <;> cases hg:g x <;> simp_all <;> omega
theorem ate{l:List Nat}{f g:Nat→Bool}(h:∀i∈l,f i=true→g i=true){k:Nat}(hk:k∈l)(h1:f k=false)(h2:g k=true):(l.map g).count false < (l.map f).count false:=by
 induction l with
 |nil=>cases hk
 |cons x l ih=>
  have hle:=aiZ (l:=l) fun i hi=>h i (List.mem_cons_of_mem _ hi)
  rw[List.map_cons,List.map_cons,List.count_cons,List.count_cons]
  rcases List.mem_cons.1 hk with rfl|hk
  ·rw[h1,h2];simp;omega
  ·have:=ih (fun i hi=>h i (List.mem_cons_of_mem _ hi)) hk
   have hx:=h x (by simp)
   cases hf:f x <;> cases hg:g x <;> simp_all <;> omega
theorem vR{a:List Bool}:a=(List.range a.length).map (bAt a):=by
 apply List.ext_getElem?
 intro i
 by_cases h:i < a.length
 ·rw[gP,List.getElem?_range h,gE h]
  show some a[i]=some (bAt a i)
  unfold bAt
  rw[gD,gE h];rfl
 ·rw[gN (by omega),gN (by simp;omega)]
theorem ak8(hnl:∃i,i < out.length∧bAt (anD out nxt) i=true):outs (orB out nxt) < outs out:=by
 obtain⟨k,hk,e⟩:=hnl
 rw[ab2 hk]at e
 have e2:out.count false=((List.range out.length).map (bAt out)).count false:=by rw[← vR]
 unfold outs
 rw[e2]
 simp at e
 exact ate (fun i _ h=>by simp[h]) (List.mem_range.2 hk) e.2 (by simp[e.1])
theorem asB:outs (orB out nxt)≤outs out:=by
 have e2:out.count false=((List.range out.length).map (bAt out)).count false:=by rw[← vR]
 unfold outs
 rw[e2]
 exact aiZ fun i _ h=>by simp[h]
theorem dR.plus(h1:dR P w a b)(h2:dR (kf P) w b o):dR (oh P (kf P)) w a o:=h1.cat h2
theorem dR.star{b0:List Bool}(ha:a.length=w.length+1)(h1:dR P w a b0)(h2:dR (kf P) w (orB b0 a) o):dR (kf P) w a o:=by
 refine⟨h2.len,fun j hj=>(h2.iff j hj).trans ⟨?_,?_⟩⟩
 ·rintro⟨i,i1,i2,i3,i4⟩
  rw[tZ (by rw[h1.len];omega),Bool.or_eq_true]at i3
  rcases i3 with i3|i3
  ·obtain⟨k,k1,k2,k3,k4⟩:=(h1.iff i (by omega)).1 i3
   exact⟨k,by omega,hj,k3,by rw[xF k1 i1];exact .cons k4 i4⟩
  ·exact⟨i,i1,i2,i3,i4⟩
 ·rintro⟨i,i1,i2,i3,i4⟩
  exact⟨i,i1,i2,by rw[tZ (by rw[h1.len];omega),i3];simp,i4⟩
end
noncomputable section
theorem aph(x:Int):amL .u64 x 1=0∨amL .u64 x 1=1:=by
 unfold amL
 have h1:(BitVec.ofInt IntKind.u64.bits x &&& BitVec.ofInt IntKind.u64.bits 1).toNat < 2:=by
  have h2:(BitVec.ofInt IntKind.u64.bits x &&& BitVec.ofInt IntKind.u64.bits 1).toNat=(BitVec.ofInt IntKind.u64.bits x).toNat &&& 1:=by
   rw[BitVec.toNat_and];rfl
  rw[h2,Nat.and_one_is_mod]
  omega
 have h3:(BitVec.ofInt IntKind.u64.bits x &&& BitVec.ofInt IntKind.u64.bits 1).toNat=0∨(BitVec.ofInt IntKind.u64.bits x &&& BitVec.ofInt IntKind.u64.bits 1).toNat=1:=by omega
 rcases h3 with h|h
 ·left;rw[h];rfl
 ·right;rw[h];rfl
theorem aoo(a s:Int):(amL .u64 (shR .u64 a s) 1==1)=jC a s:=by
 unfold jC
 rcases aph (shR .u64 a s)with h|h <;> rw[h] <;> rfl
theorem aos:∀(n:aD) (fu:Nat),dp n≤fu→dp n≤100000→ar.r fu n=some (okN n):=by
 intro n
 induction n using aD.ind with
 |h n ih=>
 intro fu hfu hsz
 cases fu with
 |zero=>have:=fJ n;omega
 |succ fu=>
 have hkl:=nz n
 have hk1:ar.k1 (ar.r fu) n=some (ajA n.Kids):=by
  unfold ar.k1
  have hall:=nA (b:=ar.b1 (ar.r fu) n) (fun j=>∀h:j < n.Kids.length,okN n.Kids[j]=true) n.Kids.length (r:=false) (R:=true) (fun j hj hP=>by
   simp only[ar.b1]
   have hm:=gM hj
   rw[if_pos (by simpa using hj),fv hj,oB,ih _ hm fu (by have:=dT hm;omega) (by have:=dT hm;omega),oB,hP hj,if_neg (by simp),eN (by omega)]) (fun j hj hP=>by
   simp only[ar.b1]
   have hm:=gM hj
   have hf:okN n.Kids[j]=false:=by
    cases e:okN n.Kids[j]with
    |false=>rfl
    |true=>exact absurd (fun _=>e) hP
   rw[if_pos (by simpa using hj),fv hj,oB,ih _ hm fu (by have:=dT hm;omega) (by have:=dT hm;omega),oB,hf,if_pos (by simp)]) (by
   simp only[ar.b1]
   rw[if_neg (by simp)];rfl)
  rw[jN]
  cases e:n.Kids.all okN with
  |true=>
   rw[List.all_eq_true]at e
   exact hall.1 fun j hj h=>e _ (gM h)
  |false=>
   refine hall.2 fun hP=>?_
   have:n.Kids.all okN=true:=by
    rw[List.all_eq_true]
    intro x hx
    obtain⟨j,hj,rfl⟩:=List.getElem_of_mem hx
    exact hP j hj hj
   rw[this]at e;cases e
 have hk3:∀b:Bool,ar.k3 (ar.r fu) n b=some ((b&&decide (n.Kids.length=1))&&ajA n.Kids):=by
  intro b
  unfold ar.k3
  cases b with
  |false=>rfl
  |true=>
   rw[if_pos rfl]
   by_cases h:n.Kids.length=1
   ·rw[if_neg (by simp[h]),hk1];simp[h]
   ·rw[if_pos (by simp;omega)];simp[h]
 rw[ar.r,pR]
 unfold okK
 by_cases h1:n.Kind=1
 ·rw[if_pos (by simp[h1]),if_pos h1]
  by_cases h2:n.Kids.length=0
  ·have:ajA n.Kids=true:=by rw[List.length_eq_zero_iff.1 h2,jN];rfl
   rw[this];simp[h2]
  ·simp[h2]
 rw[if_neg (by simpa using h1),if_neg h1]
 by_cases h0:n.Kind=0
 ·rw[if_pos (by simp[h0]),if_pos h0,hk1];rfl
 rw[if_neg (by simpa using h0),if_neg h0]
 by_cases h2:n.Kind=2
 ·rw[if_pos (by simp[h2]),if_pos h2]
  by_cases h3:n.Kids.length=0
  ·rw[if_pos (by simp[h3])];simp[h3]
  ·rw[if_neg (by simpa using h3),hk1];simp;try (intro _;omega)
 rw[if_neg (by simpa using h2),if_neg h2]
 by_cases h3:n.Kind=3
 ·rw[if_pos (by simp[h3]),hk3];simp[h3]
 rw[if_neg (by simpa using h3)]
 by_cases h4:n.Kind=4
 ·rw[if_pos (by simp[h4]),hk3];simp[h4]
 rw[if_neg (by simpa using h4),hk3]
 congr 2
 rw[Bool.eq_iff_iff]
 simp only[bA,beq_iff_eq,decide_eq_true_eq]
 omega
theorem aaf{n:aD}(h:dp n≤100000):ar n=some (okN n):=qb (dp n) fun fu hf=>aos n fu hf h
theorem ww{a:List Bool}(hl:a.length≤100000):bD a=some (a.any id):=by
 unfold bD
 have hrun:=dZ (b:=bD.b1 a) (fun j=>((a.take j).any id,(j:Int))) (i:=0) (n:=a.length) (Nat.zero_le _) (fun j _ hj=>by
  simp only[bD.b1]
  rw[if_pos (by simpa using hj)]
  unfold bD.k2
  rw[eN (by omega),ej hj,List.any_append]
  cases e:(a.take j).any id with
  |true=>rw[if_pos rfl];rfl
  |false=>
   rw[if_neg (by simp),fv hj,oB]
   simp)
 have h0:(false,(0:Int))=((a.take 0).any id,((0:Nat):Int)):=rfl
 rw[h0,hrun]
 refine bK ?_
 simp only[bD.b1]
 rw[if_neg (by simp),List.take_of_length_le (nR _)];rfl
theorem wS{a:List Bool}:a.any id=true↔∃i,i < a.length∧bAt a i=true:=by
 rw[List.any_eq_true]
 constructor
 ·rintro⟨x,hx,hxt⟩
  obtain⟨i,hi,rfl⟩:=List.getElem_of_mem hx
  refine⟨i,hi,?_⟩
  unfold bAt
  rw[gD,gE hi];exact hxt
 ·rintro⟨i,hi,h⟩
  refine⟨a[i],gM hi,?_⟩
  unfold bAt at h
  rw[gD,gE hi]at h
  exact h
theorem qT{a:List Bool}{i:Nat}(h:i < a.length):idx a (i:Int)=some (bAt a i):=by
 rw[fv h];unfold bAt;rw[gD,gE h];rfl
theorem qd{a b:List Bool}(hab:a.length=b.length)(hl:a.length≤100000):bc a b=some (orB a b):=by
 unfold bc
 rw[aaH (by omega),oB,Int.toNat_natCast]
 have hrun:=dZ (b:=bc.b1 a b) (fun j=>(upd a.length (fun _=>false) (fun i=>bAt a i||bAt b i) j,(j:Int))) (i:=0) (n:=a.length) (Nat.zero_le _) (fun j _ hj=>by
  simp only[bc.b1]
  rw[if_pos (by simpa using hj),qT hj,oB,bz,lm hj,oB,qT (by omega),oB]
  unfold bc.k2
  rw[eN (by omega),Int.toNat_natCast,← pa hj]
  cases bAt a j <;> simp)
 have h0:(List.replicate a.length false,(0:Int))=(upd a.length (fun _=>false) (fun i=>bAt a i||bAt b i) 0,((0:Nat):Int)):=by rw[nY];simp[List.map_const']
 rw[h0,hrun]
 refine bK ?_
 simp only[bc.b1]
 rw[if_neg (by simp),rm];rfl
end
noncomputable section
theorem ajc{w:List Int}{i:Nat}(h:i < w.length):seg w i (i+1)=[w[i]]:=by
 unfold seg
 rw[show i+1 - i=1 by omega,List.take_one,List.head?_drop,gE h];rfl
theorem ajO{M:List Int→Prop}{w:List Int}{a:List Bool}(ha:a.length=w.length+1)(h:a.any id=false):dR M w a (List.replicate (w.length+1) false):=by
 refine⟨by simp,fun j hj=>⟨fun e=>?_,?_⟩⟩
 ·unfold bAt at e
  rw[gD,List.getElem?_replicate]at e
  split at e <;> simp at e
 ·rintro⟨i,h1,h2,h3,_⟩
  have:a.any id=true:=wS.2 ⟨i,akN h3,h3⟩
  rw[this]at h;cases h
theorem ayy{s:Int}(h:0≤s∧s≤63):IntKind.u64.wrap s=s:=by
 have:IntKind.u64.wrap s=s%18446744073709551616:=by simp[IntKind.wrap,IntKind.signed,IntKind.bits]
 omega
section
variable{w:List Int}(hw:w.length≤1000)
include hw
theorem apq{n:aD}(hs:0≤n.Set∧n.Set≤63){a:List Bool}(ha:a.length=w.length+1):
  ∃o,Loop (ab.b1 n w a) (List.replicate (w.length+1) false,(0:Int))=some o∧dR (fun u=>∃c,u=[c]∧jC c n.Set=true) w a o:=by
 let g:Nat→Bool:=fun i=>match i with
  |0=>false
  |i+1=>bAt a i&&jC (w.getD i 0) n.Set
 have hrun:=dZ (b:=ab.b1 n w a) (fun j=>(upd (w.length+1) (fun _=>false) g (j+1),(j:Int))) (i:=0) (n:=w.length) (Nat.zero_le _) (fun j _ hj=>by
  simp only[ab.b1]
  have e1:IntKind.i64.wrap ((j:Int)+1)=((j+1:Nat):Int):=eN (by omega)
  have hi:idx (upd (w.length+1) (fun _=>false) g (j+1)) ((j+1:Nat):Int)=some (if j+1 < j+1 then g (j+1)else false):=by rw[bz,lm (by omega)]
  rw[if_pos (by simpa using hj),qT (by omega),oB,e1]
  simp only[hi,fv hj,oB]
  have hg:g (j+1)=(bAt a j&&jC w[j] n.Set):=by
   show(bAt a j&&jC (w.getD j 0) n.Set)=_
   rw[gD,gE hj];rfl
  unfold ab.k2
  rw[e1,Int.toNat_natCast,← pa (j:=j+1) (by omega),hg]
  cases e:bAt a j with
  |true=>
   rw[if_pos rfl,ayy hs]
   unfold nat
   rw[if_pos hs.1,oB,aoo];rfl
  |false=>rw[if_neg (by simp)];rfl)
 have h0:(List.replicate (w.length+1) false,(0:Int))=(upd (w.length+1) (fun _=>false) g 1,((0:Nat):Int)):=by
  have:upd (w.length+1) (fun _=>false) g 0=upd (w.length+1) (fun _=>false) g 1:=zL (by omega) rfl
  rw[← this,nY];simp[List.map_const']
 refine⟨upd (w.length+1) (fun _=>false) g (w.length+1),?_,?_⟩
 ·rw[h0,hrun]
  refine bK ?_
  simp only[ab.b1]
  rw[if_neg (by simp)];rfl
 ·rw[rm]
  refine⟨by simp,fun j hj=>?_⟩
  rw[xN (by omega)]
  constructor
  ·intro e
   cases j with
   |zero=>cases e
   |succ j=>
    have e':(bAt a j&&jC (w.getD j 0) n.Set)=true:=e
    rw[bA]at e'
    refine⟨j,by omega,hj,e'.1,w[j],ajc (by omega),?_⟩
    rw[gD,gE (by omega)]at e'
    exact e'.2
  ·rintro⟨i,h1,h2,h3,c,e,hc⟩
   have hl:=tg h1 h2
   rw[e]at hl
   simp at hl
   obtain rfl:j=i+1:=by omega
   rw[ajc (by omega)]at e
   cases e
   show(bAt a i&&jC (w.getD i 0) n.Set)=true
   rw[h3,gD,gE (by omega)]
   simpa using hc
variable{self:aD→List Int→List Bool→Option (List Bool)}
theorem apx{n:aD}(hn:n.Kids.length≤100000)(hself:∀x∈n.Kids,∀a:List Bool,a.length=w.length+1→∃o,self x w a=some o∧dR (kO jC x) w a o):∀(d j:Nat),j+d=n.Kids.length→∀a:List Bool,a.length=w.length+1→
  ∃o,Loop (ab.b2 self n w) (a,(j:Int))=some o∧dR (aaJ jC (n.Kids.drop j)) w a o:=by
 intro d
 induction d with
 |zero=>
  intro j hj a ha
  refine⟨a,bK ?_,?_⟩
  ·simp only[ab.b2]
   rw[if_neg (by simp;omega)];rfl
  ·rw[List.drop_of_length_le (by omega),aaJ]
   exact .nil ha
 |succ d ih=>
  intro j hj a ha
  have hjl:j < n.Kids.length:=by omega
  obtain⟨o1,h1,h2⟩:=hself _ (gM hjl) a ha
  obtain⟨o,h3,h4⟩:=ih (j+1) (by omega) o1 h2.len
  refine⟨o,?_,?_⟩
  ·rw[bM (s':=(o1,((j+1:Nat):Int))) (by
    simp only[ab.b2]
    rw[if_pos (by simpa using hjl),fv hjl,oB,h1,oB,eN (by omega)])]
   exact h3
  ·rw[List.drop_eq_getElem_cons hjl,aaJ]
   exact h2.cat h4
theorem an9{n:aD}(hn:n.Kids.length≤100000){a:List Bool}(ha:a.length=w.length+1)(hself:∀x∈n.Kids,∀a:List Bool,a.length=w.length+1→∃o,self x w a=some o∧dR (kO jC x) w a o):∀(d j:Nat),j+d=n.Kids.length→∀(M:List Int→Prop) (v:List Bool),dR M w a v→
  ∃o,Loop (ab.b3 self n w a) (v,(j:Int))=some o∧dR (fun u=>M u∨aiD jC (n.Kids.drop j) u) w a o:=by
 intro d
 induction d with
 |zero=>
  intro j hj M v hv
  refine⟨v,bK ?_,?_⟩
  ·simp only[ab.b3]
   rw[if_neg (by simp;omega)];rfl
  ·rw[List.drop_of_length_le (by omega)]
   exact hv.congr fun u=>by simp[aiD]
 |succ d ih=>
  intro j hj M v hv
  have hjl:j < n.Kids.length:=by omega
  obtain⟨o1,h1,h2⟩:=hself _ (gM hjl) a ha
  obtain⟨o,h3,h4⟩:=ih (j+1) (by omega) _ _ (hv.or h2)
  refine⟨o,?_,?_⟩
  ·rw[bM (s':=(orB v o1,((j+1:Nat):Int))) (by
    simp only[ab.b3]
    rw[if_pos (by simpa using hjl),fv hjl,oB,h1,oB,qd (by rw[hv.len,h2.len]) (by rw[hv.len];omega),oB,eN (by omega)])]
   exact h3
  ·refine h4.congr fun u=>?_
   rw[List.drop_eq_getElem_cons hjl,aiD]
   exact or_assoc
theorem apf{out next:List Bool}(h1:out.length=w.length+1)(h2:next.length=w.length+1):
  Loop (ab.b5 out next) (List.replicate out.length false,(0:Int))=some (Step.next (orB out next,anD out next)):=by
 have hrun:=dZ (b:=ab.b5 out next) (fun j=>(upd out.length (fun _=>false) (fun i=>bAt next i&& !bAt out i) j,(j:Int))) (i:=0) (n:=out.length) (Nat.zero_le _) (fun j _ hj=>by
  simp only[ab.b5]
  rw[if_pos (by simpa using hj),qT (by omega),oB,qT hj,oB,bz,lm hj,oB]
  unfold ab.k6
  rw[eN (by omega),Int.toNat_natCast,← pa hj]
  cases bAt next j <;> simp)
 have h0:(List.replicate out.length false,(0:Int))=(upd out.length (fun _=>false) (fun i=>bAt next i&& !bAt out i) 0,((0:Nat):Int)):=by rw[nY];simp[List.map_const']
 rw[h0,hrun]
 refine bK ?_
 simp only[ab.b5]
 rw[if_neg (by simp),rm]
 unfold ab.k5
 rw[qd (by omega) (by omega),oB];rfl
theorem zk{x:aD}(hself:∀a:List Bool,a.length=w.length+1→∃o,self x w a=some o∧dR (kO jC x) w a o){b:List Bool}:
  ∀(m:Nat) (out fresh:List Bool),ka (kO jC x) w b out fresh→outs out+(if fresh.any id then 1 else 0)≤m→∃o,Loop (ab.b4 self w x) (out,fresh)=some o∧dR (kf (kO jC x)) w b o:=by
 have hend:∀(out fresh:List Bool),ka (kO jC x) w b out fresh→fresh.any id=false→∃o,Loop (ab.b4 self w x) (out,fresh)=some o∧dR (kf (kO jC x)) w b o:=fun out fresh hI e=>by
  refine⟨out,bK ?_,hI.done fun j hj=>?_⟩
  ·simp only[ab.b4]
   rw[ww (by rw[hI.flen];omega),oB,e,if_neg (by simp)];rfl
  ·cases h:bAt fresh j with
   |false=>rfl
   |true=>
    have:fresh.any id=true:=wS.2 ⟨j,akN h,h⟩
    rw[this]at e;cases e
 intro m
 induction m with
 |zero=>
  intro out fresh hI hm
  cases e:fresh.any id with
  |false=>exact hend out fresh hI e
  |true=>rw[e]at hm;simp at hm
 |succ m ih=>
  intro out fresh hI hm
  cases e:fresh.any id with
  |false=>exact hend out fresh hI e
  |true=>
   rw[e]at hm
   obtain⟨nxt,h1,h2⟩:=hself fresh hI.flen
   have hI2:=hI.next h2
   have hm2:outs (orB out nxt)+(if (anD out nxt).any id then 1 else 0)≤m:=by
    have hle:=asB (out:=out) (nxt:=nxt)
    cases e2:(anD out nxt).any id with
    |false=>simp at hm ⊢;omega
    |true=>
     obtain⟨i,hi,hb⟩:=wS.1 e2
     have hlt:=ak8 (out:=out) (nxt:=nxt) ⟨i,by simpa[anD]using hi,hb⟩
     simp at hm ⊢;omega
   obtain⟨o,h3,h4⟩:=ih _ _ hI2 hm2
   refine⟨o,?_,h4⟩
   rw[bM (s':=(orB out nxt,anD out nxt)) (by
    simp only[ab.b4]
    rw[ww (by rw[hI.flen];omega),oB,e,if_pos rfl,h1,oB,aaH (by rw[hI.len];omega),oB,Int.toNat_natCast,apf hw hI.len h2.len])]
   exact h3
theorem aqh:∀(n:aD) (fu:Nat),dp n≤fu→dp n≤100000→okN n=true→∀a:List Bool,a.length=w.length+1→∃o,ab.r fu n w a=some o∧dR (kO jC n) w a o:=by
 intro n
 induction n using aD.ind with
 |h n ih=>
 intro fu hfu hsz hok a ha
 cases fu with
 |zero=>have:=fJ n;omega
 |succ fu=>
 have hkl:=nz n
 have hself:∀x∈n.Kids,∀a:List Bool,a.length=w.length+1→∃o,ab.r fu x w a=some o∧dR (kO jC x) w a o:=fun x hx a ha=>
  ih x hx fu (by have:=dT hx;omega) (by have:=dT hx;omega) (wJ hok hx) a ha
 have hlen:IntKind.i64.wrap ((w.length:Int)+1)=((w.length+1:Nat):Int):=eN (by omega)
 have hK:=hok
 rw[pR,bA]at hK
 have hK:=hK.1
 unfold okK at hK
 rw[ab.r,hlen,aaH (by omega),oB,ww (by omega),oB,Int.toNat_natCast]
 cases e:a.any id with
 |false=>exact⟨_,rfl,ajO ha e⟩
 |true=>
 rw[if_neg (by simp)]
 have hL:kO jC n=kO jC ⟨n.Kind,n.Set,n.Kids⟩:=by cases n;rfl
 rw[hL,kO]
 by_cases h1:n.Kind=1
 ·rw[if_pos (by simp[h1])]
  rw[if_pos h1]at hK ⊢
  simp at hK
  exact apq hw ⟨hK.2.1,hK.2.2⟩ ha
 rw[if_neg (by simpa using h1)]
 rw[if_neg h1]at hK ⊢
 by_cases h0:n.Kind=0
 ·rw[if_pos (by simp[h0]),if_pos h0]
  exact apx hw (by omega) hself n.Kids.length 0 (by omega) a ha
 rw[if_neg (by simpa using h0)]
 rw[if_neg h0]at hK ⊢
 by_cases h2:n.Kind=2
 ·rw[if_pos (by simp[h2]),if_pos h2]
  obtain⟨o,h3,h4⟩:=an9 hw (by omega) ha hself n.Kids.length 0 (by omega) _ _ .none
  exact⟨o,h3,h4.congr fun u=>by simp⟩
 rw[if_neg (by simpa using h2)]
 rw[if_neg h2]at hK ⊢
 simp only[bA,decide_eq_true_eq]at hK
 have hk0:0 < n.Kids.length:=by omega
 have hx0:n.Kids[0]? =some n.Kids[0]:=gE hk0
 have hone:ux jC n.Kids=kO jC n.Kids[0]:=by
  match hm:n.Kids,hk0 with
  |x::l,_=>simp[ux]
 obtain⟨o1,g1,g2⟩:=hself _ (gM hk0) a ha
 rw[hone]
 by_cases h5:n.Kind=5
 ·rw[if_pos (by simp[h5]),if_pos h5,hx0,oB,g1,oB,qd (by rw[ha,g2.len]) (by omega),oB]
  exact⟨_,rfl,(dR.nil ha).or g2⟩
 rw[if_neg (by simpa using h5),hx0,oB,g1,oB,if_neg h5]
 by_cases h3:n.Kind=3
 ·rw[if_pos (by simp[h3]),qd (by have:=g2.len;omega) (by rw[g2.len];omega),oB,if_neg (by omega)]
  obtain⟨o,h6,h7⟩:=zk hw (hself _ (gM hk0)) _ _ _ (ka.start (b:=orB o1 a) (P:=kO jC n.Kids[0]) (by rw[abk];exact g2.len)) (nR _)
  exact⟨o,h6,.star ha g2 h7⟩
 ·rw[if_neg (by simpa using h3),if_pos (by omega)]
  obtain⟨o,h6,h7⟩:=zk hw (hself _ (gM hk0)) _ _ _ (ka.start (P:=kO jC n.Kids[0]) g2.len) (nR _)
  exact⟨o,h6,.plus g2 h7⟩
theorem aja{n:aD}(h:dp n≤100000)(hok:okN n=true){a:List Bool}(ha:a.length=w.length+1):∃o,ab n w a=some o∧dR (kO jC n) w a o:=by
 obtain⟨o,h1,h2⟩:=aqh hw n (dp n) (nR _) h hok a ha
 refine⟨o,qb (dp n) fun fu hf=>?_,h2⟩
 obtain⟨o',h3,h4⟩:=aqh hw n fu hf h hok a ha
 rw[h3]
 congr 1
 apply List.ext_getElem?
 intro i
 by_cases hi:i < w.length+1
 ·have e1:bAt o' i=bAt o i:=by rw[Bool.eq_iff_iff,h4.iff i (by omega),h2.iff i (by omega)]
  unfold bAt at e1
  rw[gD,gD,gE (by rw[h4.len];exact hi),gE (by rw[h2.len];exact hi)]at e1
  rw[gE (by rw[h4.len];exact hi),gE (by rw[h2.len];exact hi)]
  exact congrArg some e1
 ·rw[gN (by rw[h4.len];omega),gN (by rw[h2.len];omega)]
open Classical in
theorem ai8{n:aD}(h:dp n≤100000)(hok:okN n=true):bR n w=some (decide (alM n w)):=by
 unfold bR
 have hlen:IntKind.i64.wrap ((w.length:Int)+1)=((w.length+1:Nat):Int):=eN (by omega)
 rw[aaf h,oB,hok,if_neg (by simp),hlen,aaH (by omega),oB,Int.toNat_natCast]
 have hrun:=dZ (b:=bR.b1 n w) (fun j=>(upd (w.length+1) (fun _=>false) (fun _=>true) j,(j:Int))) (i:=0) (n:=w.length+1) (Nat.zero_le _) (fun j _ hj=>by
  simp only[bR.b1]
  rw[if_pos (by simp;omega),bz,lm hj,oB,eN (by omega),Int.toNat_natCast,← pa hj])
 have h0:(List.replicate (w.length+1) false,(0:Int))=(upd (w.length+1) (fun _=>false) (fun _=>true) 0,((0:Nat):Int)):=by rw[nY];simp[List.map_const']
 obtain⟨o,g1,g2⟩:=aja hw h hok (a:=(List.range (w.length+1)).map fun _=>true) (by simp)
 rw[h0,hrun]
 refine bK ?_
 simp only[bR.b1]
 rw[if_neg (by simp;omega),rm]
 unfold bR.k1
 rw[g1,oB,qT (by rw[g2.len];omega),oB]
 congr 2
 rw[Bool.eq_iff_iff,g2.iff _ (nR _),decide_eq_true_iff]
 unfold alM
 constructor
 ·rintro⟨i,h1,h2,h3,h4⟩
  refine⟨w.take i,w.drop i,by simp,?_⟩
  have:seg w i w.length=w.drop i:=by unfold seg;rw[List.take_of_length_le (by simp)]
  rwa[← this]
 ·rintro⟨u,v,rfl,hv⟩
  refine⟨u.length,by simp,nR _,by rw[xN (by simp;omega)],?_⟩
  have:seg (u++v) u.length (u++v).length=v:=by unfold seg;simp
  rwa[this]
open Classical in
theorem ajL{n:aD}(h:dp n≤100000)(hok:okN n=true):eG n w=some (decide (aqx n w)):=by
 unfold eG
 have hlen:IntKind.i64.wrap ((w.length:Int)+1)=((w.length+1:Nat):Int):=eN (by omega)
 rw[aaf h,oB,hok,if_neg (by simp),hlen,aaH (by omega),oB,Int.toNat_natCast,List.getElem?_replicate,if_pos (by omega),oB]
 obtain⟨o,g1,g2⟩:=aja hw h hok (a:=(List.replicate (w.length+1) false).set (Int.toNat 0) true) (by simp)
 rw[g1,oB,ww (by rw[g2.len];omega),oB]
 congr 1
 rw[Bool.eq_iff_iff,wS,decide_eq_true_iff]
 have h0:∀i,bAt ((List.replicate (w.length+1) false).set (Int.toNat 0) true) i=true↔i=0:=by
  intro i
  unfold bAt
  rw[gD,show Int.toNat 0=0 from rfl,List.getElem?_set,List.getElem?_replicate]
  by_cases hi:0=i
  ·subst hi;simp
  ·rw[if_neg hi]
   split <;> simp <;> omega
 unfold aqx
 constructor
 ·rintro⟨j,hj,e⟩
  rw[g2.len]at hj
  obtain⟨i,h1,h2,h3,h4⟩:=(g2.iff j (by omega)).1 e
  obtain rfl:=(h0 i).1 h3
  refine⟨w.take j,w.drop j,by simp,?_⟩
  have:seg w 0 j=w.take j:=by unfold seg;simp
  rwa[← this]
 ·rintro⟨u,v,rfl,hv⟩
  refine⟨u.length,by rw[g2.len];simp;omega,(g2.iff _ (by simp)).2 ⟨0,by omega,by simp,(h0 0).2 rfl,?_⟩⟩
  have:seg (u++v) 0 u.length=u:=by unfold seg;simp
  rwa[this]
end
end
noncomputable section
theorem tv{a b:List Int}(ha:a.length≤1000000):bI a b=some (decide (a=b)):=by
 unfold bI
 by_cases hl:a.length=b.length
 ·rw[if_neg (by simp;omega)]
  have hall:=nA (b:=bI.b1 a b) (fun j=>a[j]? =b[j]?) a.length (r:=false) (R:=true) (fun j hj hP=>by
   simp only[bI.b1]
   have hb:j < b.length:=by omega
   rw[gE hj,gE hb]at hP
   rw[if_pos (by simpa using hj),fv hj,oB,fv hb,oB,sI hP,if_neg (by simp),eN (by omega)]) (fun j hj hP=>by
   simp only[bI.b1]
   have hb:j < b.length:=by omega
   rw[gE hj,gE hb]at hP
   rw[if_pos (by simpa using hj),fv hj,oB,fv hb,oB,if_pos (by simpa using fun e=>hP (congrArg some e))]) (by
   simp only[bI.b1]
   rw[if_neg (by simp)];rfl)
  by_cases e:a=b
  ·rw[decide_eq_true e]
   exact hall.1 fun j hj=>by rw[e]
  ·rw[decide_eq_false e]
   refine hall.2 fun h=>e (List.ext_getElem? fun j=>?_)
   by_cases hj:j < a.length
   ·exact h j hj
   ·rw[gN (by omega),gN (by omega)]
 ·rw[if_pos (by simp;omega),decide_eq_false (fun e=>hl (by rw[e]))]
section
variable{p:bL}(hp:at3 p)(hR:jf p)(hF:Fit p.Sets){l:List Int}(hl:okT l)(hll:l.length≤1000)
include hp hR hF hl hll
theorem awH:Good p.Sets:=⟨hR.2.2.1,hR.1,hp.flat⟩
theorem as2:aK ⟨p.Sets,cls p.Sets,lst p.Sets⟩ l=some (l.map (mkI p.Sets)):=by
 unfold aK
 have hrun:=dZ (b:=aK.b1 ⟨p.Sets,cls p.Sets,lst p.Sets⟩ l) (fun j=>((l.take j).map (mkI p.Sets),(j:Int))) (i:=0) (n:=l.length) (Nat.zero_le _) (fun j _ hj=>by
  simp only[aK.b1]
  have hr:=hl _ (gM hj)
  have hsl:∀s∈p.Sets,s.length < 9223372036854775807:=fun s hs=>by have:=hp.few.each s hs;omega
  rw[if_pos (by simpa using hj),fv hj,oB,if_neg (by simpa using hr.1),decide_eq_false (by have:=hr.2;omega),oB,if_neg (by simp),oB,vj hsl hR.1,oB,cK (by simp;omega),oB]
  unfold aK.k2
  rw[eN (by omega),ej hj,List.map_append];rfl)
 refine hrun.trans (bK ?_)
 simp only[aK.b1]
 rw[if_neg (by simp),List.take_of_length_le (nR _)];rfl
open Classical in
theorem arN{i:Nat}(hi:i≤l.length):bX p l (i:Int)=some (ko p l i):=by
 unfold bX
 rw[aoy (awH hp hR hF hl hll) hF,oB]
 simp only
 rw[if_neg (by simp),as2 hp hR hF hl hll,oB]
 have hrl:=hp.few.rules
 have key:∀d k:Nat,k+d=p.Rules.length→Loop (bX.b1 p (i:Int) (l.map (mkI p.Sets))) (k:Int)=some (ff (isB p l i) d k):=by
  intro d
  induction d with
  |zero=>
   intro k hk
   refine bK ?_
   simp only[bX.b1]
   rw[if_neg (by simp;omega)];rfl
  |succ d ih=>
   intro k hk
   have hkl:k < p.Rules.length:=by omega
   have hxm:=gM hkl
   have hn:=hp.few.nodes _ hxm
   have hf:=ph hR.2.2.2.2 _ hxm
   have ho1:=sK hR.1 _ _ _ hf.1
   have ho2:=sK hR.1 _ _ _ hf.2
   have c1:cutH (l.map (mkI p.Sets)) (i:Int)=some ((l.map (mkI p.Sets)).take i):=by unfold cutH;rw[if_pos (by simp;omega)];rfl
   have c2:cutL (l.map (mkI p.Sets)) (i:Int)=some ((l.map (mkI p.Sets)).drop i):=by unfold cutL;rw[if_pos (by simp;omega)];rfl
   have hb:(decide (alM p.Rules[k].Left ((l.map (mkI p.Sets)).take i))&&decide (aqx p.Rules[k].Right ((l.map (mkI p.Sets)).drop i)))=isB p l i k:=by
    rw[Bool.eq_iff_iff,bA,decide_eq_true_iff,decide_eq_true_iff,ac7]
    constructor
    ·intro h;exact⟨_,gE hkl,h⟩
    ·rintro⟨x,hx,h⟩
     rw[gE hkl]at hx
     cases hx
     exact h
   have e:bX.b1 p (i:Int) (l.map (mkI p.Sets)) (k:Int)=if isB p l i k then some (Step.done (k:Int))else some (Step.next ((k+1:Nat):Int)):=by
    simp only[bX.b1]
    rw[if_pos (by simpa using hkl),fv hkl,oB,c1,oB,Int.toNat_natCast,ai8 (by simp;omega) (by omega) ho1,oB,c2,oB,ajL (by simp;omega) (by omega) ho2,oB,hb,eN (by omega)]
   rw[ff]
   cases hbk:isB p l i k with
   |true=>
    rw[hbk]at e
    rw[cP e];rfl
   |false=>
    rw[hbk]at e
    rw[bM e,ih (k+1) (by omega)];rfl
 exact key p.Rules.length 0 (by omega)
end
end
noncomputable section
theorem aiR{S:List (List ah)}(h:∀s∈S,∀x∈s,x.High≤255){r:Int}(hr:256≤r):mkI S r=0:=by
 have hb:∀s∈S,hasB s r=false:=fun s hs=>by
  unfold hasB
  rw[List.any_eq_false]
  intro x hx
  have:=h s hs x hx
  simp;omega
 have:∀k,kG S r k=0:=by
  intro k
  induction k with
  |zero=>rfl
  |succ k ih=>
   rw[kG,ih]
   have:hasB (S.getD k []) r=false:=by
    rw[gD]
    cases e:S[k]? with
    |none=>rfl
    |some s=>exact hb s (List.mem_of_getElem? e)
   rw[this];rfl
 unfold mkI
 rw[this];rfl
theorem ajU{S:List (List ah)}(hG:Good S)(h:∀s∈S,∀x∈s,x.High≤255){k:Nat}(h1:1≤k)(hk:k < 4352):cR (prp S) k=cR (prp S) 1:=by
 apply Vector.toList_inj.1
 apply List.ext_getElem?
 intro j
 by_cases hj:j < 256
 ·rw[tu hG hk hj,tu hG (by omega) hj]
  unfold kn
  rw[aiR h (by omega),aiR h (by omega)]
 ·rw[gN (by rw[Vector.length_toList];omega),gN (by rw[Vector.length_toList];omega)]
theorem anC{S:List (List ah)}(hG:Good S)(h:∀s∈S,∀x∈s,x.High≤255){N:Nat}(hN:N=4352):(firsts (fC (prp S) N)).length≤256:=by
 have:(firsts (fC (prp S) N)).length≤[cR (prp S) 0,cR (prp S) 1].length:=iP nD fun x hx=>by
  rw[eP]at hx
  unfold fC at hx
  obtain⟨k,hk,rfl⟩:=List.mem_map.1 hx
  have hk:=List.mem_range.1 hk
  rcases Nat.eq_zero_or_pos k with h0|h0
  ·subst h0;simp
  ·rw[ajU hG h h0 (by omega)];simp
 exact Nat.le_trans this (by simp)
theorem aq4{S:List (List ah)}(hG:Good S)(h:∀s∈S,∀x∈s,x.High≤255)(hc:(cls S).length≤200):Fit S:=⟨hc,anC hG h wx⟩
theorem apn:Good vF.Sets:=by
 refine⟨fun s hs=>?_,by decide,by decide⟩
 have:s=[⟨97,122⟩]:=by simpa[vF]using hs
 subst this
 exact⟨fun x hx=>by simp at hx;subst hx;unfold Ok;simp,List.pairwise_singleton _ _⟩
theorem ayt:edg vF.Sets=[0,97,123]:=by
 refine pb (fE apn).2.2.1 (by decide) fun x=>?_
 rw[(fE apn).2.2.2.1]
 show Edge [⟨97,122⟩] x↔_
 unfold Edge
 simp only[mC,List.not_mem_nil,or_false]
 constructor
 ·rintro(h|⟨y,rfl,h⟩)
  ·exact .inl h
  ·rcases h with h|⟨_,h⟩
   ·exact .inr (.inl h)
   ·exact .inr (.inr h)
 ·rintro(h|h|h)
  ·exact .inl h
  ·exact .inr ⟨_,rfl,.inl h⟩
  ·exact .inr ⟨_,rfl,.inr ⟨by decide,h⟩⟩
theorem ax9:cls vF.Sets=[0,1]:=by unfold cls;rw[ayt];decide
theorem aya:Fit vF.Sets:=aq4 apn (by decide) (by rw[ax9];decide)
theorem apE:jf vF:=⟨by decide,by decide,apn.1,by decide,by decide⟩
theorem ax2:at3 vF:=⟨⟨by decide,by decide,by decide,by decide⟩,by decide⟩
theorem avz{s:Int}{masks:List Int}{limit:Nat}(h:(bgo eqL (fun x=>masks.map (nxA (po (ln s)) x)) limit (limit+1) 0 [[0]] []).isSome=true):zE (ln s) masks limit:=by
 unfold zE
 intro e
 rw[e]at h;cases h
theorem axe:ae3 vF 100:=by
 refine⟨apE,aya,fun x hx=>?_⟩
 rw[ax9]
 have:x=⟨false,ln 0,ln 0⟩:=by simpa[vF]using hx
 subst this
 exact⟨avz (by decide+kernel),avz (by decide+kernel)⟩
end
noncomputable section
theorem nV{s:Int}{u:List Int}:kO jC (ln s) u↔∃c,u=[c]∧jC c s=true:=by
 show kO jC ⟨1,s,[]⟩ u↔_
 rw[kO,if_pos rfl]
theorem zR{s:Int}{w:List Int}{i:Nat}(hi:i≤w.length):alM (ln s) (w.take i)↔∃j c,i=j+1∧w[j]? =some c∧jC c s=true:=by
 unfold alM
 constructor
 ·rintro⟨u,v,e,h⟩
  obtain⟨c,rfl,hc⟩:=nV.1 h
  have hl:(w.take i).length=i:=by rw[List.length_take];omega
  have hl2:(w.take i).length=u.length+1:=by rw[e];simp
  refine⟨u.length,c,by omega,?_,hc⟩
  have:(w.take i)[u.length]? =some c:=by rw[e];simp
  rw[List.getElem?_take,if_pos (by omega)]at this
  exact this
 ·rintro⟨j,c,rfl,h,hc⟩
  have hj:j < w.length:=by omega
  refine⟨w.take j,[c],?_,nV.2 ⟨c,rfl,hc⟩⟩
  rw[List.take_add_one,h];rfl
theorem yq{s:Int}{w:List Int}{i:Nat}:aqx (ln s) (w.drop i)↔∃c,w[i]? =some c∧jC c s=true:=by
 unfold aqx
 constructor
 ·rintro⟨u,v,e,h⟩
  obtain⟨c,rfl,hc⟩:=nV.1 h
  refine⟨c,?_,hc⟩
  have:(w.drop i)[0]? =some c:=by rw[e];rfl
  rw[List.getElem?_drop]at this
  simpa using this
 ·rintro⟨c,h,hc⟩
  have hi:i < w.length:=(List.getElem?_eq_some_iff.1 h).1
  refine⟨[c],w.drop (i+1),?_,nV.2 ⟨c,rfl,hc⟩⟩
  rw[List.drop_eq_getElem_cons hi]
  rw[gE hi]at h
  rw[sI h];rfl
def aye(p:bL):Prop:=∀x∈p.Rules,∃b s t,x=⟨b,ln s,ln t⟩
theorem asp:aye vF:=fun x hx=>by
 have:x=⟨false,ln 0,ln 0⟩:=by simpa[vF]using hx
 exact⟨_,_,_,this⟩
def auj(p:bL)(a b:Int):Int:=ff (fun k=>match p.Rules[k]? with
 |none=>false
 |some x=>jC (mkI p.Sets a) x.Left.Set&&jC (mkI p.Sets b) x.Right.Set) p.Rules.length 0
theorem tf{p:bL}(hN:aye p){l:List Int}{j:Nat}{a b:Int}(ha:l[j]? =some a)(hb:l[j+1]? =some b):ko p l (j+1)=auj p a b:=by
 unfold ko auj
 have hj:j+1 < l.length:=(List.getElem?_eq_some_iff.1 hb).1
 refine aeK fun k _ hk=>?_
 have hk':k < p.Rules.length:=by omega
 rw[Bool.eq_iff_iff,ac7,gE hk']
 obtain⟨br,s,t,hx⟩:=hN _ (gM hk')
 rw[hx]
 show(∃x,some (⟨br,ln s,ln t⟩:nG)=some x∧atz p.Sets x l (j+1))↔(jC (mkI p.Sets a) s&&jC (mkI p.Sets b) t)=true
 rw[bA]
 constructor
 ·rintro⟨x,hx,h1,h2⟩
  cases hx
  obtain⟨j',c,e,h3,h4⟩:=(zR (by simp;omega)).1 h1
  obtain⟨d,h5,h6⟩:=yq.1 h2
  obtain rfl:j=j':=by omega
  rw[gP,ha]at h3
  rw[gP,hb]at h5
  cases h3;cases h5
  exact⟨h4,h6⟩
 ·rintro⟨h1,h2⟩
  refine⟨_,rfl,(zR (by simp;omega)).2 ⟨j,_,rfl,by rw[gP,ha];rfl,h1⟩,yq.2 ⟨_,by rw[gP,hb];rfl,h2⟩⟩
theorem aup{l:List Int}(h:okB l=true):okT l:=tE.1 h
theorem ayq:aqg vF [97,98,32,99]=[0,2,3,4]:=by
 have b0:brk vF [97,98,32,99] 0=true:=rfl
 have b4:brk vF [97,98,32,99] 4=true:=by unfold brk;simp
 have b1:brk vF [97,98,32,99] 1=false:=by
  unfold brk
  rw[tf asp (j:=0) (a:=97) (b:=98) rfl rfl]
  decide+kernel
 have b2:brk vF [97,98,32,99] 2=true:=by
  unfold brk
  rw[tf asp (j:=1) (a:=98) (b:=32) rfl rfl]
  decide+kernel
 have b3:brk vF [97,98,32,99] 3=true:=by
  unfold brk
  rw[tf asp (j:=2) (a:=32) (b:=99) rfl rfl]
  decide+kernel
 unfold aqg
 have:List.range (([97,98,32,99]:List Int).length+1)=[0,1,2,3,4]:=by decide
 rw[this]
 simp[List.filter,b0,b1,b2,b3,b4]
theorem asA:eV=some true:=by
 unfold eV
 obtain⟨y,hy,hM⟩:=(qD ax2 (limit:=100) (by omega) (by omega)).1 axe
 have hp:ee awW=some (vF,0,0):=rfl
 have hr:ef at5=some [97,98,32,99]:=rfl
 have hA:=aiK ax2 apE aya hM (l:=[97,98,32,99]) (aup (by decide)) (by simp)
 rw[ayq]at hA
 show(ee awW).bind _=_
 rw[hp,oB]
 simp only
 rw[show(100:Int)=((100:Nat):Int) from rfl,hy,oB]
 simp only
 rw[if_pos (by rfl),if_pos (by rfl)]
 show((ef at5).bind _).bind _=_
 rw[hr,oB,hA,oB,tv (by simp)]
 rfl
end
noncomputable section
theorem anr{l:List (List ah)}{m:Nat}(h:∀s∈l,s.length≤m):l.flatten.length≤l.length*m:=by
 induction l with
 |nil=>simp
 |cons s l ih=>
  have h1:=h s (by simp)
  have h2:=ih fun t ht=>h t (List.mem_cons_of_mem _ ht)
  rw[List.flatten_cons,lA,lC,Nat.succ_mul]
  omega
theorem avg.toC{p:bL}(h:avg p):at3 p:=⟨h.few,by
 have h1:=anr h.each
 have h2:=h.sets
 have:p.Sets.length*8≤64:=by omega
 omega⟩
theorem ajp{p:bL}{l:List Int}{j:Nat}:((List.range (j+1)).filter (brk p l)).map (fun i:Nat=>(i:Int))=((List.range j).filter (brk p l)).map (fun i:Nat=>(i:Int))++if brk p l j then [(j:Int)]else []:=by
 rw[List.range_succ,List.filter_append,List.map_append]
 cases e:brk p l j <;> simp[List.filter,e]
theorem akI{p:bL}{l:List Int}{j:Nat}:(if ((j:Int)==(0:Int))then some true else if ((j:Int)==(l.length:Int))then some true else if (decide (ko p l j < (0:Int)))then some true else(idx p.Rules (ko p l j)).bind fun x=>some x.Break)=some (brk p l j):=by
 unfold brk
 by_cases h1:j=0
 ·subst h1;simp
 ·rw[if_neg (by simpa using h1),decide_eq_false h1]
  by_cases h2:j=l.length
  ·rw[if_pos (by simp;omega),decide_eq_true h2];rfl
  ·rw[if_neg (by simp;omega),decide_eq_false h2]
   by_cases h3:ko p l j < 0
   ·rw[if_pos (by simpa using h3),decide_eq_true h3];rfl
   ·rw[if_neg (by simpa using h3),decide_eq_false h3]
    obtain⟨k,hk⟩:∃k:Nat,ko p l j=(k:Int):=⟨(ko p l j).toNat,by omega⟩
    have hkl:k < p.Rules.length:=by
     rcases ael (p:=p) (l:=l) (i:=j)with h|h
     ·omega
     ·omega
    rw[hk,fv hkl,oB,Int.toNat_natCast,gD,gE hkl]
    rfl
theorem aet{l:List Int}{j:Nat}(hj:j < l.length):((idx l (j:Int)).bind fun n=>if (decide (n < (0:Int)))then some true else some (decide (n > (1114111:Int))))=some (!decide (inR l[j])):=by
 rw[fv hj,oB]
 by_cases h:l[j] < 0
 ·have:¬ inR l[j]:=fun h'=>by have:=h'.1;omega
  rw[if_pos (by simpa using h),decide_eq_false this];rfl
 ·rw[if_neg (by simpa using h)]
  by_cases h2:l[j] > 1114111
  ·have:¬ inR l[j]:=fun h'=>by have:=h'.2;omega
   rw[decide_eq_true h2,decide_eq_false this];rfl
  ·have:inR l[j]:=⟨by omega,by omega⟩
   rw[decide_eq_false h2,decide_eq_true this];rfl
theorem auk{l:List Int}:(∀j,(h:j < l.length)→inR l[j])↔okT l:=
 ⟨fun h r hr=>by obtain⟨j,hj,rfl⟩:=List.getElem_of_mem hr;exact h j hj,fun h j hj=>h _ (gM hj)⟩
theorem zG(p:bL)(l:List Int):af p l=some true:=by
 unfold af
 obtain⟨b,hb,hfew⟩:=aul p
 rw[asA,oB,hb,oB]
 split
 ·rfl
 rename_i hc
 simp at hc
 obtain⟨rfl,hlen⟩:=hc
 have hp:=(hfew rfl).toC
 classical
 by_cases hC:ae3 p 40
 ·obtain⟨y,hy,hM⟩:=(qD hp (limit:=40) (by omega) (by omega)).1 hC
  rw[show(40:Int)=((40:Nat):Int) from rfl,hy,oB]
  simp only
  rw[if_neg (by simp)]
  have hmain:okT l→af.k3 p l y=some true:=fun hl=>by
   unfold af.k3
   have hrun:=dZ (b:=af.b3 p l y) (fun j=>(((List.range j).filter (brk p l)).map fun i:Nat=>(i:Int),(j:Int))) (i:=0) (n:=l.length+1) (Nat.zero_le _) (fun j _ hj=>by
    have hj':j≤l.length:=by omega
    simp only[af.b3]
    have hle:(((List.range j).filter (brk p l)).map fun i:Nat=>(i:Int)).length≤j:=by
     rw[List.length_map]
     exact Nat.le_trans (List.length_filter_le _ _) (by simp)
    rw[if_pos (by simp;omega),arN hp hC.1 hC.2.1 hl (by omega) hj',oB,akI,oB,att hp hC.1 hC.2.1 hM hl (by omega) hj',oB,if_neg (by simp),am6 hp hC.1 hC.2.1 hM hl (by omega) hj',oB,oB,if_neg (by simp),ajp]
    unfold af.k5
    rw[eN (by omega)]
    cases brk p l j with
    |true=>rw[if_pos rfl,cK (by omega)];rfl
    |false=>rw[if_neg (by simp)];simp)
   refine hrun.trans (bK ?_)
   simp only[af.b3]
   rw[if_neg (by simp;omega)]
   unfold af.k4
   have hal:=aem hp hC.1 hC.2.1 hM hl (by omega)
   rw[aiK hp hC.1 hC.2.1 hM hl (by omega),oB,tv (by omega)]
   unfold aqg
   simp
  have hall:=nA (b:=af.b4 p l y) (fun j=>(h:j < l.length)→inR l[j]) l.length (r:=true) (R:=(af.k3 p l y).getD false) (fun j hj hP=>by
   simp only[af.b4]
   rw[if_pos (by simpa using hj),aet hj,oB,decide_eq_true (hP hj),if_neg (by simp),eN (by omega)]) (fun j hj hP=>by
   have hbad:¬ inR l[j]:=fun h=>hP fun _=>h
   have hnot:¬ okT l:=fun h=>hbad (h _ (gM hj))
   simp only[af.b4]
   rw[if_pos (by simpa using hj),aet hj,oB,decide_eq_false hbad,if_pos (by simp),adq (by omega) hnot,oB,if_pos (by rfl),aec (by omega) hnot,oB,if_pos (by rfl),zW (by omega) hnot]
   rfl)
  by_cases hl:okT l
  ·have h1:=hmain hl
   rw[h1]at hall
   refine(hall ?_).1 fun j hj h=>hl _ (gM h)
   simp only[af.b4]
   rw[if_neg (by simp),h1];rfl
  ·have hex:¬ ∀j,j < l.length→(h:j < l.length)→inR l[j]:=fun h=>hl (auk.1 fun j hj=>h j hj hj)
   obtain⟨j,hj,hjn,hmin⟩:=akm (P:=fun j=>(h:j < l.length)→inR l[j]) (n:=l.length) (Classical.byContradiction fun hn=>hex fun j hj=>Classical.byContradiction fun hP=>hn ⟨j,hj,hP⟩)
   have hbad:¬ inR l[j]:=fun h=>hjn fun _=>h
   have hrun:=mM (b:=af.b4 p l y) (i:=0) (n:=j) (Nat.zero_le _) (fun i _ hi=>by
    simp only[af.b4]
    have hil:i < l.length:=by omega
    rw[if_pos (by simpa using hil),aet hil,oB,decide_eq_true (hmin i hi hil),if_neg (by simp),eN (by omega)])
   refine hrun.trans (cP ?_)
   simp only[af.b4]
   rw[if_pos (by simpa using hj),aet hj,oB,decide_eq_false hbad,if_pos (by simp),adq (by omega) hl,oB,if_pos (by rfl),aec (by omega) hl,oB,if_pos (by rfl),zW (by omega) hl]
   rfl
 ·obtain⟨e,he,hy⟩:=(qD hp (limit:=40) (by omega) (by omega)).2 hC
  rw[show(40:Int)=((40:Nat):Int) from rfl,hy,oB]
  simp only
  rw[if_pos (by simpa using he)]
end
end Go.Val

/- A value semantics of the model's programs, sound against it, and functions read off the given program with the proofs that it runs so; no condition. -/
import Derived.Test.YtmfelmglmhjggaaGreatOwnA
import Derived.Lib.AppendStr
import Derived.Orders
set_option linter.all false
set_option linter.unnecessarySimpa false
set_option linter.unusedVariables false
set_option linter.unusedSimpArgs false
namespace Go.Val
variable{P:Program}{o:Oper}{w:World}{G:Gh}{s:St}{a:Act}{sv:SV}{es:List Eff}
inductive arJ(P:Program)(w:World)(i:TypeInfo)(z:Value)(ty:TypeId)(u:Value)(m:Nat)(news:List Value):Prop
 |slice (e':TypeId) (A:Option Addr) (c:Nat):P.underlying ty=some (.slice e')→u= .slice A m c→(∀w':World,w'.heap=w.heap→(Builtin.firstCells i.size m u).run P w'= .ok news.toArray w')→arJ P w i z ty u m news
 |str (b:ByteArray):P.underlying ty=some .string→u= .string b→m=b.size→news=Lib.strCells b→arJ P w i z ty u m news
 |ints (k kx:IntKind):P.underlying ty=some (.int k)→u= .int kx m→news=(Builtin.zeroCells z.cells m).toList→arJ P w i z ty u m news
theorem anV{t e ty T:TypeId}{i:TypeInfo}{z u:Value}{m n cap:Nat}{news olds:List Value}{A:Option Addr}(ht:P.underlying t=some (.slice e))(hi:P.info? e=some i)(hz:i.zero=some z)
  (hs0:0 < i.size) (hb0:0 < i.bytes) (hl:news.length=m*i.size)
  (hfo:(Builtin.firstCells i.size n (.slice A n cap)).run P w.drew= .ok olds.toArray w.drew) (ha:arJ P w i z ty u m news) (hcap:cap < n+m) (hbytes:(n+m)*i.bytes≤140737488355328):
  (Builtin.append_ #[t,ty] T #[.slice A n cap,u]).run P w= .ok (.slice (some ⟨w.heap.size,0,none⟩) (n+m) (grownCap w (n+m) cap e))
   (w.drew.alloc (.cells (olds.toArray++news.toArray++Builtin.zeroCells z.cells (grownCap w (n+m) cap e - (n+m))) e)):=by
 have hle:n+m≤140737488355328:=Nat.le_trans (Nat.le_mul_of_pos_right _ hb0) hbytes
 have hn:¬ (n+m≤cap):=by omega
 have hfit:=growslice_fits hcap hbytes
 have h48':¬ (281474976710656 < Builtin.nextslicecap (n+m) cap*i.bytes):=by omega
 cases ha with
 |slice e' B c hty hu hrun=>
  subst hu
  have h63':¬ (9223372036854775807 < ((n:Int)+(m:Int))):=by omega
  have hf:=hrun w.drew rfl
  simp[Builtin.append_,run_underlying ht,run_underlying hty,sizeOf,typeInfo,zeroValue,hi,hz,Builtin.lenOf,hn,h63',h48',Question.forced,hf,hfo,newRow,grownCap]
  congr 2
  apply Array.ext'
  simp[List.append_assoc]
 |str b hty hu hm hne=>
  subst hu;subst hm;subst hne
  have h63':¬ (9223372036854775807 < ((n:Int)+(b.size:Int))):=by omega
  have hf:=Lib.run_firstCells_string (P:=P) w.drew i.size b
  simp[Builtin.append_,run_underlying ht,run_underlying hty,sizeOf,typeInfo,zeroValue,hi,hz,Builtin.lenOf,hn,h63',h48',Question.forced,hf,hfo,newRow,grownCap]
  congr 2
  apply Array.ext'
  simp[List.append_assoc]
 |ints k kx hty hu hne=>
  subst hu
  have hw:IntKind.i64.wrap (m:Int)=m:=by rw[IntKind.wrap_i64];omega
  have hw0:IntKind.i64.wrap 0=0:=by rw[IntKind.wrap_i64];rfl
  have hneg:¬ ((m:Int) < 0):=by omega
  have hmb:m*i.bytes≤140737488355328:=Nat.le_trans (Nat.mul_le_mul_right _ (Nat.le_add_left m n)) hbytes
  have hbig:¬ (281474976710656 < (m:Int)*(i.bytes:Int)):=by
   rw[← Int.natCast_mul]
   omega
  have hsn:i.size≠0:=by omega
  have hna:Builtin.zeroCells z.cells m=news.toArray:=by rw[hne]
  have h63':¬ (9223372036854775807 < ((n:Int)+(m:Int))):=by omega
  by_cases hm:m=0
  ·have hnl:news=[]:=List.eq_nil_of_length_eq_zero (by rw[hl,hm,Nat.zero_mul])
   subst hm
   rw[hnl]
   simp only[Nat.add_zero]at hn h63' h48' ⊢
   have h63'':¬ (9223372036854775807 < (n:Int)):=by omega
   simp[Builtin.append_,run_underlying ht,run_underlying hty,sizeOf,typeInfo,zeroValue,hi,hz,asInt,asIntOf,hw0,hn,h63'',h48',Question.forced,hfo,newRow,grownCap]
  ·have hmz:¬ (m*i.size=0):=Nat.mul_ne_zero hm hsn
   simp[Builtin.append_,run_underlying ht,run_underlying hty,sizeOf,typeInfo,zeroValue,hi,hz,asInt,asIntOf,hw,hneg,hbig,hn,h63',h48',Question.forced,hfo,newRow,grownCap,hmz,hna]
   congr 2
   apply Array.ext'
   simp[List.append_assoc]
theorem aeI{t e ty T:TypeId}{i:TypeInfo}{z u:Value}{m n cap:Nat}{news:List Value}{A:Option Addr}{w1:World}(ht:P.underlying t=some (.slice e))(hi:P.info? e=some i)(hz:i.zero=some z)
  (hs0:0 < i.size) (hb0:0 < i.bytes) (hl:news.length=m*i.size) (ha:arJ P w i z ty u m news) (hcap:n+m≤cap) (hbytes:(n+m)*i.bytes≤140737488355328)
  (hst:match A with|some ad=>(storeCells (ad.add (n*i.size)) news).run P w= .ok () w1|none=>w1=w):
  (Builtin.append_ #[t,ty] T #[.slice A n cap,u]).run P w= .ok (.slice A (n+m) cap) w1:=by
 have hle:n+m≤140737488355328:=Nat.le_trans (Nat.le_mul_of_pos_right _ hb0) hbytes
 cases ha with
 |slice e' B c hty hu hrun=>
  subst hu
  have hf:=hrun w rfl
  cases A with
  |none=>subst hst;simp[Builtin.append_,run_underlying ht,run_underlying hty,sizeOf,typeInfo,hi,Builtin.lenOf,hcap,hf]
  |some ad=>simp[Builtin.append_,run_underlying ht,run_underlying hty,sizeOf,typeInfo,hi,Builtin.lenOf,hcap,hf,hst]
 |str b hty hu hm hne=>
  subst hu;subst hm;subst hne
  have hf:=Lib.run_firstCells_string (P:=P) w i.size b
  cases A with
  |none=>subst hst;simp[Builtin.append_,run_underlying ht,run_underlying hty,sizeOf,typeInfo,hi,Builtin.lenOf,hcap,hf]
  |some ad=>simp[Builtin.append_,run_underlying ht,run_underlying hty,sizeOf,typeInfo,hi,Builtin.lenOf,hcap,hf,hst]
 |ints k kx hty hu hne=>
  subst hu
  have hw:IntKind.i64.wrap (m:Int)=m:=by rw[IntKind.wrap_i64];omega
  have hw0:IntKind.i64.wrap 0=0:=by rw[IntKind.wrap_i64];rfl
  have hneg:¬ ((m:Int) < 0):=by omega
  have hmb:m*i.bytes≤140737488355328:=Nat.le_trans (Nat.mul_le_mul_right _ (Nat.le_add_left m n)) hbytes
  have hbig:¬ (281474976710656 < (m:Int)*(i.bytes:Int)):=by
   rw[← Int.natCast_mul]
   omega
  have hsn:i.size≠0:=by omega
  have hna:Builtin.zeroCells z.cells m=news.toArray:=by rw[hne]
  by_cases hm:m=0
  ·have hnl:news=[]:=List.eq_nil_of_length_eq_zero (by rw[hl,hm,Nat.zero_mul])
   subst hm
   rw[hnl]at hst
   simp only[Nat.add_zero]at hcap
   cases A with
   |none=>subst hst;simp[Builtin.append_,run_underlying ht,run_underlying hty,sizeOf,typeInfo,zeroValue,hi,hz,asInt,asIntOf,hw0,hcap]
   |some ad=>simp[Builtin.append_,run_underlying ht,run_underlying hty,sizeOf,typeInfo,zeroValue,hi,hz,asInt,asIntOf,hw0,hcap,hst]
  ·have hmz:¬ (m*i.size=0):=Nat.mul_ne_zero hm hsn
   cases A with
   |none=>subst hst;simp[Builtin.append_,run_underlying ht,run_underlying hty,sizeOf,typeInfo,zeroValue,hi,hz,asInt,asIntOf,hw,hneg,hbig,hcap,hmz,hna]
   |some ad=>simp[Builtin.append_,run_underlying ht,run_underlying hty,sizeOf,typeInfo,zeroValue,hi,hz,asInt,asIntOf,hw,hneg,hbig,hcap,hmz,hna,hst]
theorem Rel.wroteRet(h:Rel w G s a){b:Nat}{w':World}(W:om w G b w' G)(hb:G.g b= .ret):Rel w' G s a:=by
 refine⟨fun j=>?_,⟨h.heap.n,fun m ob ho=>⟨(h.heap.obj m ob ho).1,W.obj (h.heap.obj m ob ho).2 (by rw[hb];intro e;cases e) (by rw[hb];intro j e;cases e)⟩⟩,fun k hk=>h.fresh k (by rw[← W.size];exact hk)⟩
 have:=ez.move (s':=s) (a':=a) (fun _=>false) W.kept.mono (u':=.slot j) (fun k xs _ hr=>W.row hr (by intro e;cases e) (by rw[hb];intro e;cases e)) (fun r _ q hq=>⟨hq,fun v hv=>?_⟩) (h.slots j)
 ·rwa[nl]at this
 ·cases r with
  |slot i=>exact hv
  |cell m i=>
   simp only[dn]at hv ⊢
   simp only[St.rowAt]at hq
   split at hq
   ·rename_i k' xs' hcc
    obtain⟨cs',hcs',_⟩:=gj hcc (by simp)
    have ht:=h.tag hcs'
    exact mg (W.heap _ (fun e=>by
     have e':G.ι m=b:=e
     rw[e',hb]at ht;cases ht)) hv
   ·cases hq
theorem kA{K:Nat}:∀ys:List au,(∀y∈ys,y.cells.length=K)→(bx ys).length=ys.length*K
 | [],_=>by simp[bx]
 |y::ys,hy=>by
  have:=kA ys (fun z hz=>hy z (by simp[hz]))
  simp only[bx,List.flatMap_cons,lA,lC]at this ⊢
  rw[this,hy y (by simp),Nat.add_mul];omega
theorem anW{t e ty T:TypeId}{i:TypeInfo}{z u:Value}{m:Nat}{news:List Value}{xs ys:List au}{v:Value}(h:Rel w G s a)(hP:G.P=P)(ht:P.underlying t=some (.slice e))(hi:P.info? e=some i)(hz:i.zero=some z)
  (hzs:z.cells.size=i.size) (hs0:0 < i.size) (hb0:0 < i.bytes) (hrow:cp w G .ret e xs v) (ha:arJ P w i z ty u m news) (hm:ys.length=m) (hk:∀y∈ys,y.cells.length=i.size) (hy:cn w G (bx ys) news)
  (hbytes:(xs.length+m)*i.bytes≤140737488355328):
  ∃v' w' G',(Builtin.append_ #[t,ty] T #[v,u]).run P w= .ok v' w'∧Kept w G w' G'∧Rel w' G' s a∧cp w' G' .ret e (xs++ys) v':=by
 have hcl:P.cellsOf e=i.size:=by simp[Program.cellsOf,hi]
 have hyl:(bx ys).length=ys.length*i.size:=kA ys hk
 have hl:news.length=m*i.size:=by rw[hy.length,hyl,hm]
 have h1:∀u∈news,u.oneCell'=true:=fun u hu=>by
  obtain⟨j,hj⟩:=List.getElem?_of_mem hu
  have hlt:j < (bx ys).length:=by have:=(List.getElem?_eq_some_iff.1 hj).1;rw[← hy.length];exact this
  obtain⟨v,hv,q1,q2⟩:=hy.get j _ (gE hlt)
  rw[hj]at hv;cases hv
  exact q2.oneV q1
 have grown:∀(A:Option Addr) (n cap:Nat) (olds:List Value),n=xs.length→cap < n+m→(Builtin.firstCells i.size n (.slice A n cap)).run P w.drew= .ok olds.toArray w.drew→cn w G (bx xs) olds→olds.length=n*i.size→(∀x∈xs,x.cells.length=i.size)→
   ∃v' w' G',(Builtin.append_ #[t,ty] T #[.slice A n cap,u]).run P w= .ok v' w'∧Kept w G w' G'∧Rel w' G' s a∧cp w' G' .ret e (xs++ys) v':=fun A n cap olds hn hcap hfo hx hol hkx=>by
  have hr:=anV (T:=T) ht hi hz hs0 hb0 hl hfo ha hcap (by rw[hn];exact hbytes)
  have hgr:=vH (mz (w:=w.drew) (G:=G) h.fresh (.cells (olds.toArray++news.toArray++Builtin.zeroCells z.cells (grownCap w (n+m) cap e - (n+m))) e) .ret)
  have hge:=grownCap_ge w (n+m) cap e
  have h63:n+m≤maxLen:=by
   have:n+m≤140737488355328:=Nat.le_trans (Nat.le_mul_of_pos_right _ hb0) (by rw[hn];exact hbytes)
   simp only[maxLen];omega
  have hcm:=grownCap_le_maxLen w (n+m) cap e h63
  have hln:(xs++ys).length=n+m:=by rw[lA,hn,hm]
  refine⟨_,_,_,hr,hgr.kept,hgr.rel rfl h,.inr ⟨w.heap.size,_,_,by rw[hln],?_,heap_alloc_new w.drew _,?_,by rw[hln];exact hge,hcm,?_,?_⟩⟩
  ·show(if w.heap.size=w.drew.heap.size then Tag.ret else G.g w.heap.size)= .ret
   exact if_pos rfl
  ·show _=_*G.P.cellsOf e
   rw[hP,hcl]
   simp only[Array.size_append,List.size_toArray,size_zeroCells,hzs,hol,hl,← Nat.add_mul]
   congr 1
   omega
  ·intro x hx
   show _=G.P.cellsOf e
   rw[hP,hcl]
   rcases List.mem_append.1 hx with hx|hx
   ·exact hkx x hx
   ·exact hk x hx
  ·have:List.take ((xs++ys).length*(G.set w.drew.heap.size .ret).P.cellsOf e) (olds.toArray++news.toArray++Builtin.zeroCells z.cells (grownCap w (n+m) cap e - (n+m))).toList=olds++news:=by
    show List.take (_*G.P.cellsOf e) _=_
    rw[hP,hcl,hln]
    simp only[Array.toList_append]
    rw[List.take_append_of_le_length (by simp[hol,hl,Nat.add_mul])]
    rw[List.take_of_length_le (by simp[hol,hl,Nat.add_mul])]
   rw[this]
   have:=hx.append hy
   have hall:bx (xs++ys)=bx xs++bx ys:=by simp[bx]
   rw[hall]
   exact this.mono hgr.kept.mono
 rcases hrow with⟨rfl,A,rfl⟩|⟨b,cap,arr,rfl,h2,h3,h4,h5,h6,h7,h8⟩
 ·by_cases hm0:m=0
  ·subst hm0
   have hys:ys=[]:=List.eq_nil_of_length_eq_zero hm
   subst hys
   have hnl:news=[]:=List.eq_nil_of_length_eq_zero (by simpa using hl)
   subst hnl
   have hr:=aeI (T:=T) (n:=0) (cap:=0) (A:=A) (w1:=w) ht hi hz hs0 hb0 hl ha (by omega) (by simpa using hbytes) (by cases A <;> rfl)
   exact⟨_,w,G,hr,Kept.refl w G,h,.inl ⟨rfl,A,rfl⟩⟩
  ·exact grown A 0 0 [] rfl (by omega) (by cases A <;> simp[Builtin.firstCells,loadCells,loadCellsFrom]) .nil (by simp) (by simp)
 ·by_cases hroom:xs.length+m≤cap
  ·rw[hP,hcl]at h4
   have hfit:xs.length*i.size+news.length≤arr.size:=by rw[hl,h4,← Nat.add_mul];exact Nat.mul_le_mul_right _ hroom
   have hst:=run_storeCells_cells (P:=P) b (xs.length*i.size) news 0 w (fun j hj=>by
     have:xs.length*i.size+j < arr.size:=by omega
     simp[World.cell?,h3,this]) (fun j _=>by simp[World.frozen?,h3]) h1
   simp only[Nat.add_zero]at hst
   have hr:=aeI (T:=T) (n:=xs.length) (cap:=cap) (A:=some ⟨b,0,none⟩) (w1:=w.setCells b (xs.length*i.size) news) ht hi hz hs0 hb0 hl ha hroom hbytes (by simpa[add_lit]using hst)
   have W:=kY (G:=G) (b:=b) (by rw[h2];intro e;cases e) (by rw[h2];intro e;cases e) news (xs.length*i.size) w
   obtain⟨arr',k1,k2⟩:=mR news (xs.length*i.size) arr w h3
   have hsz:arr'.size=arr.size:=by
    have:arr'.toList.length=arr.toList.length:=by rw[k2,el]
    simpa using this
   have hln:(xs++ys).length=xs.length+m:=by rw[lA,hm]
   refine⟨_,_,G,hr,W.kept,h.wroteRet W h2,.inr ⟨b,cap,arr',by rw[hln],h2,k1,by rw[hP,hcl,hsz];exact h4,by rw[hln];exact hroom,h6,?_,?_⟩⟩
   ·intro x hx
    rcases List.mem_append.1 hx with hx|hx
    ·exact h7 x hx
    ·rw[hP,hcl];exact hk x hx
   ·have:List.take ((xs++ys).length*G.P.cellsOf e) arr'.toList=arr.toList.take (xs.length*G.P.cellsOf e)++news:=by
     rw[hP,hcl,hln,k2,gz _ _ _ (by simpa using hfit)]
     rw[List.take_append_of_le_length (by simp[hl,Nat.add_mul];omega)]
     rw[List.take_of_length_le (by simp[hl,Nat.add_mul];omega)]
    rw[this]
    have hall:bx (xs++ys)=bx xs++bx ys:=by simp[bx]
    rw[hall]
    exact(h8.append hy).mono W.kept.mono
  ·refine grown (some ⟨b,0,none⟩) xs.length cap (arr.toList.take (xs.length*i.size)) rfl (by omega) ?_ (by rw[hP,hcl]at h8;exact h8) ?_ (by rw[hP,hcl]at h7;exact h7)
   ·refine run_firstCells_some (P:=P) w.drew i.size xs.length _ _ cap _ ?_ ?_
    ·have:=Nat.mul_le_mul_right i.size h5
     rw[hP,hcl]at h4
     simp;omega
    ·intro j v hv
     exact oJ (w:=w) h3 _ j v hv
   ·have:=Nat.mul_le_mul_right i.size h5
    rw[hP,hcl]at h4
    simp;omega
theorem Rel.asRow(h:Rel w G s a){k:Nat}{x:Operand}{xs:List au}{es:List Eff}(hd:s.asRow k x=some (xs,es)):
  ∃G',uM w G s a es G'∧cp w G' .ret k xs (a.eval x):=by
 have ho:=h.opv x
 unfold St.asRow at hd
 split at hd
 ·rename_i he
  simp only[sJ,pJ]at hd
  obtain⟨rfl,rfl⟩:=hd
  rw[he]at ho
  exact⟨G,.none h,.inl ⟨rfl,ho⟩⟩
 ·rename_i k' xs' he
  split at hd
  ·rename_i hk
   subst hk
   simp only[sJ,pJ]at hd
   obtain⟨rfl,rfl⟩:=hd
   rw[he]at ho
   obtain⟨t,rfl⟩:=il he (fun v=>jB v _ _) (fun f e=>by cases e) (fun e=>by cases e)
   exact⟨_,⟨h.kill (.slot t),dJ w G (.slot t) .ret⟩,cp.retag ho (by intro e;cases e)⟩
  ·cases hd
 ·rename_i r he
  rw[he]at ho
  cases hr:s.rowAt r with
  |none=>rw[hr]at hd;simp at hd
  |some p=>
   rw[hr]at hd
   simp only[oB]at hd
   split at hd
   ·rename_i hk
    subst hk
    simp only[sJ,pJ]at hd
    obtain⟨rfl,rfl⟩:=hd
    obtain⟨v,hv,hrow⟩:=h.row (k:=p.1) (xs:=p.2) hr
    obtain⟨_,hv'⟩:=ho
    rw[cJ hv' hv]
    exact⟨_,⟨h.kill r,dJ w G r .ret⟩,hrow.retag (by cases r <;> (intro e;cases e))⟩
   ·cases hd
 ·cases hd
theorem aiJ{t ty:TypeId}{x y:Operand}(h:Rel w G s a)(hP:G.P=P)(hop:o.op= .call ⟨.builtin .append,#[x,y],#[t,ty]⟩)(ho:appendOp P s t ty x y=some (sv,es)):jP P o w G s a sv es:=by
 unfold appendOp at ho
 split at ho
 ·rename_i e ht
  simp only[ae]at ho
  obtain⟨⟨xs,e1⟩,hx,ys,hys,ho⟩:=ho
  split at ho
  ·rename_i hcond
   obtain⟨hroom,hsz,hby,hcl0,hzf⟩:=hcond
   simp only[sJ,pJ]at ho
   obtain⟨rfl,rfl⟩:=ho
   obtain⟨G1,hw,hrow⟩:=h.asRow hx
   have hzf':du P e=true:=hzf
   obtain⟨i,z,hi,hz,hzs⟩:∃i z,P.info? e=some i∧i.zero=some z∧z.cells.size=i.size:=by
    unfold du at hzf'
    split at hzf'
    ·rename_i i hi
     split at hzf'
     ·rename_i z hz
      exact⟨i,z,hi,hz,by simpa using hzf'⟩
     ·cases hzf'
    ·cases hzf'
   have hcl:P.cellsOf e=i.size:=by simp[Program.cellsOf,hi]
   have hbl:P.bytesOf e=i.bytes:=by simp[Program.bytesOf,hi]
   have hk:∀y∈ys,y.cells.length=i.size:=by rw[← hcl];exact tj.1 hsz
   have hadds:∃news,arJ P w i z ty (a.eval y) ys.length news∧cn w G1 (bx ys) news:=by
    split at hys
    ·rename_i e' hty
     obtain⟨A,c,hu,hA⟩:=h.list hys
     by_cases hne:ys=[]
     ·subst hne
      refine⟨[],.slice e' A c hty hu (fun w' hw'=>?_),.nil⟩
      rw[hu]
      cases A <;> simp[Builtin.firstCells,loadCells,loadCellsFrom]
     ·obtain⟨ad,vs,K,rfl,hs,hbl,hK,hr,hc⟩:=hA hne
      have hKi:K=i.size:=by
       cases ys with
       |nil=>exact absurd rfl hne
       |cons y0 ys=>rw[← hK y0 (by simp),← hk y0 (by simp)]
      subst hKi
      refine⟨vs,.slice e' _ c hty hu (fun w' hw'=>?_),hr.mono hw.kept.mono⟩
      rw[hu]
      refine run_firstCells_some (P:=P) w' i.size ys.length ad ys.length c vs ?_ ?_
      ·rw[hr.length,kA ys hK]
      ·intro j v hv
       have:=hc j v hv
       rw[← this]
       simp only[World.cell?,hw']
    ·rename_i hty
     simp only[ae]at hys
     obtain⟨d,hd,hys⟩:=hys
     split at hys
     ·rename_i b
      simp only[sJ]at hys
      subst hys
      have hv:=h.optVal hd
      generalize hu:a.eval y=u at hv
      cases hv
      refine⟨Lib.strCells b,.str b hty rfl ?_ rfl,?_⟩
      ·simp[lK]
      ·rw[kP (qz b)]
       exact(vm b)
     ·cases hys
    ·rename_i k hty
     simp only[ae]at hys
     obtain⟨⟨kx,n⟩,hn,zd,hzd,hys⟩:=hys
     split at hys
     ·rename_i h0
      simp only[sJ]at hys
      subst hys
      obtain⟨n0,rfl⟩:=Int.eq_ofNat_of_zero_le h0
      obtain⟨zv,i',hi',hzz,hzr,hzv,hc0⟩:=qj (P:=P) (w:=w) (G:=G1) hzd
      rw[hi]at hi';cases hi'
      rw[hz]at hzz;cases hzz
      simp only[Int.toNat_natCast,List.length_replicate]
      refine⟨_,.ints k kx hty (h.asInt hn) rfl,?_⟩
      have hzc:Builtin.zeroCells z.cells n0=madeCells z.cells (n0*z.cells.size):=by unfold Builtin.zeroCells madeCells;rfl
      rw[hzc,lg _ (by
       have:0 < P.cellsOf e:=hcl0
       omega)]
      exact jV hzv n0
     ·cases hys
    ·cases hys
   obtain⟨news,hadd,hnews⟩:=hadds
   obtain⟨v',w',G',r1,r2,r3,r4⟩:=anW (T:=o.type) (ys:=ys) hw.rel (by rw[hw.kept.P];exact hP) ht hi hz hzs (by rw[← hcl];exact hcl0) (by rw[← hbl];exact hby) hrow hadd rfl hk hnews (by rw[← hbl];exact hroom)
   refine⟨v',w',G',.inl ?_,hw.kept.trans r2,r3,r4⟩
   unfold execOp
   simp only[hop,resolve,invoke,builtin,Sem.run_bind,Sem.run_pure,Result.andThen_ok,List.map_toArray,List.map_cons,List.map_nil,r1]
  ·cases ho
 ·cases ho
variable{P:Program}{o:Oper}{w:World}{G:Gh}{s:St}{a:Act}{sv:SV}{es:List Eff}
theorem awN{a b:ByteArray}(h:(a==b)=true):a=b:=by
 rw[beq_toListBytes]at h
 have h':a.toList=b.toList:=by simpa using h
 have e:∀c:ByteArray,c.toList=c.data.toList:=fun c=>ByteArray.toList_eq c
 rw[e,e]at h'
 cases a;cases b
 congr 1
 exact Array.toList_inj.1 h'
theorem alF(a:ByteArray):(a==a)=true:=by
 rw[beq_toListBytes];simp
theorem aaw:∀{as bs:List au},kr as bs=true→as=bs
 | [],[],_=>rfl
 | [],b::bs,h=>by cases b <;> simp[kr]at h
 |a::as,[],h=>by cases a <;> simp[kr]at h
 |a::as,b::bs,h=>by
  cases a <;> cases b <;> simp[kr]at h
  obtain⟨⟨rfl,rfl⟩,h3⟩:=h
  rw[aaw h3]
theorem anA{k k':au}(h:ja k k'=true):k=k':=by
 cases k <;> cases k' <;> simp_all[ja]
 ·exact awN h
 ·exact aaw h
theorem aaZ{k v:au}:∀{es:List (au×au)} {ms:List MapEntry} (i:Nat),ms.length=es.length→
  (gH k es ms i=none∧qI k v es=es++[(k,v)])∨
  ∃j x,gH k es ms i=some (i+j,x)∧j < es.length∧(∃y,es[j]? =some (k,y))∧qI k v es=es.set j (k,v)
 | [],ms,i,hl=>by
  have:ms=[]:=List.eq_nil_of_length_eq_zero (by simpa using hl)
  subst this
  exact .inl ⟨rfl,rfl⟩
 |e::es,[],i,hl=>by simp at hl
 |e::es,m::ms,i,hl=>by
  obtain⟨ek,ev⟩:=e
  simp only[gH,qI]
  cases hkk:ja k ek with
  |true=>
   have:=anA hkk
   subst this
   exact .inr ⟨0,m.val,rfl,by simp,⟨ev,rfl⟩,rfl⟩
  |false=>
   simp only[Bool.false_eq_true,if_false]
   rcases aaZ (k:=k) (v:=v) (es:=es) (ms:=ms) (i+1) (by simpa using hl)with⟨g1,g2⟩|⟨j,x,g1,g2,⟨y,g3⟩,g4⟩
   ·exact .inl ⟨g1,by rw[g2];rfl⟩
   ·exact .inr ⟨j+1,x,by rw[g1,show i+1+j=i+(j+1) by omega],by simp;omega,⟨y,by simpa using g3⟩,by rw[g4];rfl⟩
def fw(w:World)(r:Nat)(ob:Obj):World:={ w with heap:=w.heap.setIfInBounds r ob }
theorem te{b:Nat}(h1:G.g b≠ .imm)(h2:G.g b≠ .other)(ob:Obj):om w G b (fw w b ob) G:=
 ⟨rfl,rfl,rfl,by simp[fw],fun k hk=>by simp[fw,Array.getElem?_setIfInBounds_ne (Ne.symm hk)],⟨h1,h2⟩,fun _ _=>rfl,rfl,fun _=>rfl,rfl⟩
theorem yo{n:Nat}{k:IntKind}:∀{ds:List au} {us vs:List Value},cn w G ds us→cn w G ds vs→mX k ds=true→((us.zip vs).all fun(x,y)=>Instr.sameBits n x y)=true
 |_,_,_,.nil,.nil,_=>rfl
 |_,_,_,.cons d u ds us _ h1 h2,.cons _ v _ vs _ g1 g2,h=>by
  cases d <;> simp[mX]at h
  cases h1;cases g1
  have:=yo (n:=n) h2 g2 h.2
  simp only[List.zip_cons_cons,List.all_cons,bA]
  exact⟨by cases n <;> simp[Instr.sameBits],this⟩
theorem tL{n:Nat}:∀{fs:List Field} {i:Nat} {ds:List au} {us vs:List Value},cn w G ds us→cn w G ds vs→eE P fs i ds=true→((us.zip vs).all fun(x,y)=>Instr.sameBits n x y)=true
 |_,_,_,_,_,.nil,.nil,_=>rfl
 | [],_,_,_,_,.cons d u ds us _ h1 h2,.cons _ v _ vs _ g1 g2,h=>by simp[eE]at h
 |f::fs,i,_,_,_,.cons d u ds us _ h1 h2,.cons _ v _ vs _ g1 g2,h=>by
  cases d <;> simp[eE]at h
  cases h1;cases g1
  have:=tL (n:=n) h2 g2 h.2
  simp only[List.zip_cons_cons,List.all_cons,bA]
  exact⟨by cases n <;> simp[Instr.sameBits],this⟩
theorem rH{kt:TypeId}{td:TypeDesc}{k:au}{u u':Value}(h:isKey P kt td k=true)(hu:cU w G k u)(hu':cU w G k u'):Instr.sameBits 10000 u u'=true:=by
 cases td <;> cases k <;> simp[isKey]at h
 case bool.bool=>cases hu;cases hu';simp[Instr.sameBits]
 case int.int=>cases hu;cases hu';simp[Instr.sameBits]
 case string.str=>cases hu;cases hu';simp[Instr.sameBits,alF]
 case struct.agg fs cs=>
  cases hu with
  |agg _ us h1=>
   cases hu' with
   |agg _ vs h2=>
    have l1:=h1.length
    have l2:=h2.length
    show(us.size==vs.size&&(us.toList.zip vs.toList).all fun(x,y)=>Instr.sameBits 9999 x y)=true
    simp only[Array.length_toList]at l1 l2
    rw[tL h1 h2 h.2,l1,l2];simp
 case array.agg m e cs=>
  cases hu with
  |agg _ us h1=>
   cases hu' with
   |agg _ vs h2=>
    obtain⟨_,_,ki,_,a4⟩:=pN h
    have l1:=h1.length
    have l2:=h2.length
    show(us.size==vs.size&&(us.toList.zip vs.toList).all fun(x,y)=>Instr.sameBits 9999 x y)=true
    simp only[Array.length_toList]at l1 l2
    rw[yo h1 h2 a4,l1,l2];simp
theorem Rel.setMap(h:Rel w G s a){l:Nat}{kt:TypeId}{es0 es':List (au×au)}{w':World}(hat:s.box.at_ l=some (.map kt es0))(W:om w G (G.ι l) w' G)(hob:gG w' G l (.map kt es')):Rel w' G (s.eff (.setMap l kt es')) a:=by
 have htag:=h.tag hat
 have hcell:∀m j,(s.eff (.setMap l kt es')).box.cell m j=s.box.cell m j:=fun m j=>by
  simp only[St.eff,bn.cell,bn.upd]
  by_cases e:m=l
  ·subst e;simp[hat]
  ·simp[e]
 refine⟨fun j=>?_,⟨h.heap.n,fun m ob ho=>?_⟩,fun k hk=>h.fresh k (by rw[← W.size];exact hk)⟩
 ·have:=ez.move (s':=s.eff (.setMap l kt es')) (a':=a) (fun _=>false) W.kept.mono (u':=.slot j) (fun k xs _ hr=>W.row hr (by intro e;cases e) (by rw[htag];intro e;cases e)) (fun r _ q hq=>⟨?_,fun v hv=>?_⟩) (h.slots j)
  ·rwa[nl]at this
  ·cases r with
   |slot i=>exact hq
   |cell m i=>simp only[St.rowAt,hcell]at hq ⊢;exact hq
  ·cases r with
   |slot i=>exact hv
   |cell m i=>
    simp only[dn]at hv ⊢
    simp only[St.rowAt]at hq
    split at hq
    ·rename_i k' xs' hcc
     obtain⟨cs',hcs',_⟩:=gj hcc (by simp)
     have ht:=h.tag hcs'
     exact mg (W.heap _ (fun e=>by
      have e':G.ι m=G.ι l:=e
      rw[e',htag]at ht
      cases ht
      rw[hat]at hcs';cases hcs')) hv
    ·cases hq
 ·simp only[St.eff,bn.upd]at ho ⊢
  by_cases e:m=l
  ·subst e
   simp only[if_true,sJ]at ho
   subst ho
   exact⟨(h.heap.obj m _ hat).1,hob⟩
  ·simp only[e,if_false]at ho
   exact⟨(h.heap.obj m ob ho).1,W.obj (h.heap.obj m ob ho).2 (by rw[htag];intro e';cases e';exact e rfl) (by rw[htag];intro j e';cases e')⟩
theorem uo{x:Operand}{d:au}(hd:s.asVal x=some (d,es))(kt:TypeId)(l:Nat){ents:List (au×au)}(h:s.box.at_ l=some (.map kt ents)):(s.effs es).box.at_ l=some (.map kt ents):=by
 have one:∀(r:fb) (c:CV) (sl:List (Nat×SV)),(St.setRoot ⟨sl,s.box⟩ r c).box.at_ l=some (.map kt ents):=fun r c sl=>by
  cases r with
  |slot i=>exact h
  |cell m i=>simp only[St.setRoot,iw,h]
 unfold St.asVal at hd
 split at hd
 all_goals try (simp only[sJ,pJ]at hd;obtain⟨rfl,rfl⟩:=hd)
 ·exact h
 ·exact h
 ·exact one _ _ _
 ·simp only[ae,sJ,pJ]at hd
  obtain⟨p,hp,rfl,rfl⟩:=hd
  exact one _ _ _
 ·simp only[ae,sJ,pJ]at hd
  obtain⟨p,hp,rfl,rfl⟩:=hd
  exact h
 ·cases hd
theorem yH{ms:Array MapEntry}{u v:Value}{clock:Nat}(hc:ms.size=clock)(h:∀(i:Nat) (m:MapEntry),ms[i]? =some m→m.born=i):∀(i:Nat) (m:MapEntry),(ms.push { key:=u,val:=v,born:=clock })[i]? =some m→m.born=i:=fun i m e=>by
 rw[Array.getElem?_push]at e
 split at e
 ·cases e;simp only;omega
 ·exact h i m e
theorem oI{ms:Array MapEntry}{j:Nat}{f:MapEntry→MapEntry}(hf:∀e,(f e).born=e.born)(h:∀(i:Nat) (m:MapEntry),ms[i]? =some m→m.born=i):∀(i:Nat) (m:MapEntry),(ms.modify j f)[i]? =some m→m.born=i:=fun i m e=>by
 rw[Array.getElem?_modify]at e
 split at e
 ·cases hx:ms[i]? with
  |none=>rw[hx]at e;cases e
  |some x=>rw[hx]at e;cases e;rw[hf];exact h i x hx
 ·exact h i m e
theorem rR{t:TypeId}{x k y:Operand}(h:Rel w G s a)(hP:G.P=P)(hop:o.op= .mapUpdate t x k y∨o.op= .insert t x k y)(ho:mapUpdateOp P s t x k y=some (sv,es)):jP P o w G s a sv es:=by
 unfold mapUpdateOp at ho
 split at ho
 ·rename_i kt e ht
  simp only[ae]at ho
  obtain⟨d,hd,kd,hk,td,htd,⟨vd,e1⟩,hv,ho⟩:=ho
  split at ho
  ·rename_i hkey
   split at ho
   ·rename_i l
    simp only[ae,sJ,pJ]at ho
    obtain⟨ents,hm,rfl,rfl⟩:=ho
    obtain⟨G1,hw,hvv⟩:=h.asVal hv
    have hP1:G1.P=P:=by rw[hw.kept.P];exact hP
    have hu0:=h.optVal hd
    have hku:=(h.optVal hk).mono hw.kept.mono
    rcases h.entries hP htd hu0 hm with⟨he,_⟩|⟨l',hl',he,hat,ms,clock,hwl,⟨hsz,hclk,hborn⟩,hkeys,hr⟩
    ·rw[he]at hu0;cases hu0
    ·cases hl'
     have hat1:=uo hv kt l hat
     have hlt:l < G.n:=by rw[h.heap.n];exact(h.heap.obj l _ hat).1
     have hι:G1.ι l=G.ι l:=hw.kept.ι l hlt
     have hr1:∀(i:Nat) (e:au×au) (m:MapEntry),ents[i]? =some e→ms.toList[i]? =some m→cU w G1 e.1 m.key∧cU w G1 e.2 m.val:=fun i e m h1 h2=>⟨((hr i e m h1 h2).1).mono hw.kept.mono,((hr i e m h1 h2).2).mono hw.kept.mono⟩
     have htag:=hw.rel.tag hat1
     have W:=fun ob=>te (w:=w) (G:=G1) (b:=G1.ι l) (by rw[htag];intro e;cases e) (by rw[htag];intro e;cases e) ob
     have hblt:G1.ι l < w.heap.size:=by rw[hι];exact im hwl
     have fin:∀(ms':Array MapEntry) (clock':Nat),(Instr.mapUpdate t (a.eval x) (a.eval k) (a.eval y)).run P w= .ok () (fw w (G.ι l) (.map ms' clock'))→(ms'.size=(qI kd vd ents).length∧clock'=(qI kd vd ents).length∧∀(i:Nat) (m:MapEntry),ms'[i]? =some m→m.born=i)→
       (∀e∈qI kd vd ents,isKey P kt td e.1=true)→(∀(i:Nat) (e:au×au) (m:MapEntry),(qI kd vd ents)[i]? =some e→ms'[i]? =some m→cU w G1 e.1 m.key∧cU w G1 e.2 m.val)→jP P o w G s a .undef (e1++[.setMap l kt (qI kd vd ents)]):=fun ms' clock' hrun hsz' hk' hr'=>by
      refine⟨undef,fw w (G.ι l) (.map ms' clock'),G1,.inr ⟨?_,rfl⟩,?_,?_,rfl⟩
      ·rcases hop with hop|hop <;> simp only[execOp,hop,Sem.run_bind,hrun,Result.andThen_ok,Sem.run_pure]
      ·rw[← hι];exact hw.kept.trans (W _).kept
      ·rw[eX]
       have:=hw.rel.setMap (es':=qI kd vd ents) hat1 (W (.map ms' clock')) ⟨htag,⟨td,by rw[hP1];exact htd,by rw[hP1];exact hk'⟩,ms',clock',by simp[fw,hblt],hsz',fun i e m h1 h2=>⟨((hr' i e m h1 h2).1).mono (W _).kept.mono,((hr' i e m h1 h2).2).mono (W _).kept.mono⟩⟩
       rw[hι]at this
       exact this
     have hfk:=mG (P:=P) htd hkey hku hkeys (ms:=ms.toList) (by simpa using hsz) hr1
     rcases aaZ (k:=kd) (v:=vd) (es:=ents) (ms:=ms.toList) 0 (by simpa using hsz)with⟨g1,g2⟩|⟨j,xv,g1,g2,⟨yv,g3⟩,g4⟩
     ·rw[g1]at hfk
      refine fin (ms.push { key:=a.eval k,val:=a.eval y,born:=clock }) (clock+1) ?_ (by rw[g2];exact⟨by simp[hsz],by simp[hclk],yH (hsz.trans hclk.symm) hborn⟩) ?_ ?_
      ·simp[Instr.mapUpdate,Sem.run_bind,run_underlying ht,he,getObj,setObj,Sem.run,hwl,gv (P:=P) hkey hku htd,hfk,fw]
      ·rw[g2]
       intro e he
       rcases List.mem_append.1 he with he|he
       ·exact hkeys e he
       ·simp at he;subst he;exact hkey
      ·rw[g2]
       intro i e m h1 h2
       rw[Array.getElem?_push]at h2
       rw[List.getElem?_append]at h1
       by_cases hi:i < ents.length
       ·rw[if_pos hi]at h1
        rw[if_neg (by omega)]at h2
        exact hr1 i e m h1 (by simpa using h2)
       ·rw[if_neg hi]at h1
        have:i=ms.size:=by
         have:=(List.getElem?_eq_some_iff.1 h1).1
         simp at this;omega
        rw[if_pos this]at h2
        cases h2
        have h0:i - ents.length=0:=by omega
        rw[h0]at h1
        simp at h1;subst h1
        exact⟨hku,hvv⟩
     ·rw[Nat.zero_add]at g1
      rw[g1]at hfk
      obtain⟨m0,hm0⟩:∃m0,ms[j]? =some m0:=by
       have:j < ms.size:=by omega
       exact⟨ms[j],by simp[this]⟩
      have hrj:=hr1 j _ m0 g3 (by simpa using hm0)
      have hsame:=rH (P:=P) (w:=w) (G:=G1) hkey hrj.1 hku
      refine fin (ms.modify j fun e=>{ e with key:=a.eval k,val:=a.eval y }) clock ?_ (by rw[g4];exact⟨by simp[hsz],by simp[hclk],oI (fun _=>rfl) hborn⟩) ?_ ?_
      ·simp[Instr.mapUpdate,Sem.run_bind,run_underlying ht,he,getObj,setObj,Sem.run,hwl,gv (P:=P) hkey hku htd,hfk,fw,hm0,Instr.keyThatStays,hsame]
      ·rw[g4]
       intro e he
       rcases List.mem_or_eq_of_mem_set he with he|rfl
       ·exact hkeys e he
       ·exact hkey
      ·rw[g4]
       intro i e m h1 h2
       rw[set_getElem?]at h1
       rw[Array.getElem?_modify]at h2
       by_cases hij:j=i
       ·subst hij
        rw[if_pos ⟨rfl,g2⟩]at h1
        rw[if_pos rfl,hm0]at h2
        cases h1;cases h2
        exact⟨hku,hvv⟩
       ·rw[if_neg (fun e=>hij e.1)]at h1
        rw[if_neg hij]at h2
        exact hr1 i e m h1 (by simpa using h2)
   ·cases ho
  ·cases ho
 ·cases ho
theorem aj3{k:au}:∀{es:List (au×au)} {ms:List MapEntry} (i:Nat),ms.length=es.length→(gH k es ms i=none→tn k es=es.length)∧∀j x,gH k es ms i=some (j,x)→i+tn k es=j
 | [],ms,i,hl=>⟨fun _=>rfl,fun j x h=>by
   have:ms=[]:=List.eq_nil_of_length_eq_zero (by simpa using hl)
   subst this
   simp[gH]at h⟩
 |e::es,[],i,hl=>by simp at hl
 |e::es,m::ms,i,hl=>by
  simp only[gH,tn]
  cases hkk:ja k e.1 with
  |true=>exact⟨by simp,fun j x h=>by simp at h;simp;exact h.1⟩
  |false=>
   obtain⟨h1,h2⟩:=aj3 (k:=k) (es:=es) (ms:=ms) (i+1) (by simpa using hl)
   simp only[Bool.false_eq_true,if_false]
   exact⟨fun h=>by rw[h1 h];rfl,fun j x h=>by have:=h2 j x h;omega⟩
theorem alv{k:au}:∀{es:List (au×au)} {ms:List MapEntry} (i:Nat) {j:Nat} {x:Value},gH k es ms i=some (j,x)→i≤j∧(ms[j - i]?).map (·.val)=some x
 |e::es,m::ms,i,j,x,h=>by
  simp only[gH]at h
  split at h
  ·cases h;exact⟨nR _,by simp⟩
  ·obtain⟨h1,h2⟩:=alv (i+1) h
   refine⟨by omega,?_⟩
   have:j - i=(j - (i+1))+1:=by omega
   rw[this];simpa using h2
 | [],ms,i,j,x,h=>by simp[gH]at h
 |_::_,[],i,j,x,h=>by simp[gH]at h
theorem aaS{t:TypeId}{x k:Operand}(h:Rel w G s a)(hP:G.P=P)(hop:o.op= .mapEntry t x k)(ho:mapEntryOp P s t x k=some (sv,es)):jP P o w G s a sv es:=by
 unfold mapEntryOp at ho
 split at ho
 ·rename_i kt e ht
  simp only[ae]at ho
  obtain⟨d,hd,kd,hk,td,htd,z,hz,ho⟩:=ho
  split at ho
  ·rename_i hkey
   split at ho
   ·rename_i l
    simp only[ae,sJ,pJ]at ho
    obtain⟨ents,hm,rfl,rfl⟩:=ho
    have hu0:=h.optVal hd
    have hku:=h.optVal hk
    obtain⟨zv,_,_,_,hzr,hzv,_⟩:=qj (P:=P) (w:=w) (G:=G) hz
    rcases h.entries hP htd hu0 hm with⟨he,_⟩|⟨l',hl',he,hat,ms,clock,hwl,⟨hsz,hclk,hborn⟩,hkeys,hr⟩
    ·rw[he]at hu0;cases hu0
    ·cases hl'
     have htag:=h.tag hat
     have W:=fun ob=>te (w:=w) (G:=G) (b:=G.ι l) (by rw[htag];intro e;cases e) (by rw[htag];intro e;cases e) ob
     have hblt:G.ι l < w.heap.size:=im hwl
     have hszl:ms.toList.length=ents.length:=by simpa using hsz
     have fin:∀(ms':Array MapEntry) (clock':Nat) (v:Value),(Instr.mapEntry t (a.eval x) (a.eval k)).run P w= .ok (.tuple #[v,.int .i64 (tn kd ents)]) (fw w (G.ι l) (.map ms' clock'))→cU w G ((fy kd ents).getD z) v→(ms'.size=(qI kd ((fy kd ents).getD z) ents).length∧clock'=(qI kd ((fy kd ents).getD z) ents).length∧∀(i:Nat) (m:MapEntry),ms'[i]? =some m→m.born=i)→
       (∀e∈qI kd ((fy kd ents).getD z) ents,isKey P kt td e.1=true)→(∀(i:Nat) (e:au×au) (m:MapEntry),(qI kd ((fy kd ents).getD z) ents)[i]? =some e→ms'[i]? =some m→cU w G e.1 m.key∧cU w G e.2 m.val)→jP P o w G s a (.tup [(fy kd ents).getD z,.int .i64 (tn kd ents)]) [.setMap l kt (qI kd ((fy kd ents).getD z) ents)]:=fun ms' clock' v hrun hv hsz' hk' hr'=>by
      refine⟨.tuple #[v,.int .i64 (tn kd ents)],fw w (G.ι l) (.map ms' clock'),G,.inl ?_,(W _).kept,?_,?_⟩
      ·simp only[execOp,hop,Sem.run_bind,hrun,Result.andThen_ok,Sem.run_pure]
      ·exact h.setMap (es':=qI kd ((fy kd ents).getD z) ents) hat (W (.map ms' clock')) ⟨htag,⟨td,by rw[hP];exact htd,by rw[hP];exact hk'⟩,ms',clock',by simp[fw,hblt],hsz',fun i e m h1 h2=>⟨((hr' i e m h1 h2).1).mono (W _).kept.mono,((hr' i e m h1 h2).2).mono (W _).kept.mono⟩⟩
      ·refine⟨_,rfl,rfl,fun j d u hd hu=>?_⟩
       match j with
       |0=>simp at hd hu;subst hd;subst hu;exact hv.mono (W _).kept.mono
       |1=>simp at hd hu;subst hd;subst hu;exact .int _ _
       |j+2=>simp at hd
     have hfk:=mG (P:=P) htd hkey hku hkeys (ms:=ms.toList) hszl hr
     obtain⟨hr2,hr3⟩:=wF (w:=w) (G:=G) (k:=kd) (es:=ents) (ms:=ms.toList) 0 hszl hr
     obtain⟨hi1,hi2⟩:=aj3 (k:=kd) (es:=ents) (ms:=ms.toList) 0 hszl
     rcases aaZ (k:=kd) (v:=(fy kd ents).getD z) (es:=ents) (ms:=ms.toList) 0 hszl with⟨g1,g2⟩|⟨j,xv,g1,g2,⟨yv,g3⟩,g4⟩
     ·have hnone:fy kd ents=none:=by
       cases hf:fy kd ents with
       |none=>rfl
       |some v=>obtain⟨j,xv,he3,_⟩:=hr3 v hf;rw[g1]at he3;cases he3
      have hix:=hi1 g1
      rw[g1]at hfk
      refine fin (ms.push { key:=a.eval k,val:=zv,born:=clock }) (clock+1) zv ?_ (by rw[hnone];exact hzv) (by rw[g2];exact⟨by simp[hsz],by simp[hclk],yH (hsz.trans hclk.symm) hborn⟩) ?_ ?_
      ·simp[Instr.mapEntry,Sem.run_bind,run_underlying ht,he,getObj,setObj,Sem.run,hwl,gv (P:=P) hkey hku htd,hfk,fw,hzr,goInt,hix,hclk]
      ·rw[g2]
       intro e he
       rcases List.mem_append.1 he with he|he
       ·exact hkeys e he
       ·simp at he;subst he;exact hkey
      ·rw[g2]
       intro i e m h1 h2
       rw[Array.getElem?_push]at h2
       rw[List.getElem?_append]at h1
       by_cases hi:i < ents.length
       ·rw[if_pos hi]at h1
        rw[if_neg (by omega)]at h2
        exact hr i e m h1 (by simpa using h2)
       ·rw[if_neg hi]at h1
        have:i=ms.size:=by
         have:=(List.getElem?_eq_some_iff.1 h1).1
         simp at this;omega
        rw[if_pos this]at h2
        cases h2
        have h0:i - ents.length=0:=by omega
        rw[h0]at h1
        simp at h1;subst h1
        exact⟨hku,by rw[hnone];exact hzv⟩
     ·rw[Nat.zero_add]at g1
      have hix:=hi2 _ _ g1
      rw[Nat.zero_add]at hix
      obtain⟨m0,hm0⟩:∃m0,ms[j]? =some m0:=by
       have:j < ms.size:=by omega
       exact⟨ms[j],by simp[this]⟩
      have hrj:=hr j _ m0 g3 (by simpa using hm0)
      have hcur:cU w G ((fy kd ents).getD z) xv∧cU w G ((fy kd ents).getD z) m0.val:=by
       cases hf:fy kd ents with
       |none=>rw[hr2 hf]at g1;cases g1
       |some v=>
        obtain⟨j',xv',he3,hv⟩:=hr3 v hf
        rw[g1]at he3
        cases he3
        refine⟨hv,?_⟩
        have hx:=(alv (k:=kd) (es:=ents) (ms:=ms.toList) 0 g1).2
        rw[Nat.sub_zero]at hx
        have:xv=m0.val:=by
         have h3:ms.toList[j]? =some m0:=by simpa using hm0
         rw[h3]at hx;simpa using hx.symm
        rw[← this];exact hv
      have hsame:=rH (P:=P) (w:=w) (G:=G) hkey hrj.1 hku
      have hb0:=hborn j m0 hm0
      rw[g1]at hfk
      refine fin (ms.modify j fun e=>{ e with key:=a.eval k }) clock xv ?_ hcur.1 (by rw[g4];exact⟨by simp[hsz],by simp[hclk],oI (fun _=>rfl) hborn⟩) ?_ ?_
      ·simp[Instr.mapEntry,Sem.run_bind,run_underlying ht,he,getObj,setObj,Sem.run,hwl,gv (P:=P) hkey hku htd,hfk,fw,hm0,Instr.keyThatStays,hsame,goInt,hix,hb0]
      ·rw[g4]
       intro e he
       rcases List.mem_or_eq_of_mem_set he with he|rfl
       ·exact hkeys e he
       ·exact hkey
      ·rw[g4]
       intro i e m h1 h2
       rw[set_getElem?]at h1
       rw[Array.getElem?_modify]at h2
       by_cases hij:j=i
       ·subst hij
        rw[if_pos ⟨rfl,g2⟩]at h1
        rw[if_pos rfl,hm0]at h2
        cases h1;cases h2
        exact⟨hku,hcur.2⟩
       ·rw[if_neg (fun e=>hij e.1)]at h1
        rw[if_neg hij]at h2
        exact hr i e m h1 (by simpa using h2)
   ·cases ho
  ·cases ho
 ·cases ho
theorem wN{t:TypeId}{x n y:Operand}(h:Rel w G s a)(hP:G.P=P)(hop:o.op= .entryStore t x n y)(ho:entryStoreOp P s x n y=some (sv,es)):jP P o w G s a sv es:=by
 unfold entryStoreOp at ho
 simp only[ae]at ho
 obtain⟨d,hd,⟨ki,n0⟩,hn,⟨vd,e1⟩,hv,ho⟩:=ho
 split at ho
 ·rename_i l
  split at ho
  ·rename_i kt ents hat
   split at ho
   ·rename_i hlt
    simp only[sJ,pJ]at ho
    obtain⟨rfl,rfl⟩:=ho
    obtain⟨G1,hw,hvv⟩:=h.asVal hv
    have hu0:=h.optVal hd
    have hn0:=h.asInt hn
    generalize hu:a.eval x=u at hu0
    cases hu0 with
    |map _ hl=>
    obtain⟨_,_,⟨td,htd,hkeys⟩,ms,clock,hwl,⟨hsz,hclk,hborn⟩,hr⟩:=h.heap.obj l _ hat
    have hat1:=uo hv kt l hat
    have hlt':l < G.n:=by rw[h.heap.n];exact(h.heap.obj l _ hat).1
    have hι:G1.ι l=G.ι l:=hw.kept.ι l hlt'
    have hP1:G1.P=G.P:=hw.kept.P
    have htag:=hw.rel.tag hat1
    have W:=fun ob=>te (w:=w) (G:=G1) (b:=G1.ι l) (by rw[htag];intro e;cases e) (by rw[htag];intro e;cases e) ob
    have hblt:G1.ι l < w.heap.size:=by rw[hι];exact im hwl
    obtain⟨m0,hm0⟩:∃m0,ms[n0.toNat]? =some m0:=by
     have:n0.toNat < ms.size:=by omega
     exact⟨ms[n0.toNat],by simp[this]⟩
    have hfi:ms.findIdx? (fun e=>(e.born:Int)==n0)=some n0.toNat:=by
     rw[Array.findIdx?_eq_some_iff_getElem]
     refine⟨by omega,?_,fun j hj=>?_⟩
     ·have:=hborn n0.toNat _ (Array.getElem?_eq_getElem (by omega))
      simp only[this,beq_iff_eq];omega
     ·have:=hborn j _ (Array.getElem?_eq_getElem (by omega))
      simp only[this,beq_iff_eq];omega
    have hj:=hr n0.toNat _ m0 (gE (by omega)) hm0
    have hgd:ents.getD n0.toNat default=ents[n0.toNat]'(by omega):=by rw[gD,gE (by omega)];rfl
    refine⟨undef,fw w (G.ι l) (.map (ms.modify n0.toNat fun e=>{ e with val:=a.eval y }) clock),G1,.inr ⟨?_,rfl⟩,?_,?_,rfl⟩
    ·simp[execOp,hop,Instr.entryStore,Sem.run_bind,hu,getObj,setObj,Sem.run,hwl,asInt,asIntOf,hn0,hfi,fw]
    ·rw[← hι];exact hw.kept.trans (W _).kept
    ·rw[eX]
     have:=hw.rel.setMap (es':=ents.set n0.toNat ((ents.getD n0.toNat default).1,vd)) hat1 (W (.map (ms.modify n0.toNat fun e=>{ e with val:=a.eval y }) clock)) ⟨htag,⟨td,by rw[hP1];exact htd,fun e he=>by
      rw[hP1]
      rcases List.mem_or_eq_of_mem_set he with he|rfl
      ·exact hkeys e he
      ·rw[hgd];exact hkeys (ents[n0.toNat]'(by omega)) (gM _)⟩,ms.modify n0.toNat fun e=>{ e with val:=a.eval y },clock,by simp[fw,hblt],⟨by simp[hsz],by simp[hclk],oI (fun _=>rfl) hborn⟩,fun i e m h1 h2=>by
       rw[set_getElem?]at h1
       rw[Array.getElem?_modify]at h2
       have M:=(hw.kept.trans (W (.map (ms.modify n0.toNat fun e=>{ e with val:=a.eval y }) clock)).kept).mono
       by_cases hij:n0.toNat=i
       ·subst hij
        rw[if_pos ⟨rfl,by omega⟩]at h1
        rw[if_pos rfl,hm0]at h2
        cases h1;cases h2
        exact⟨by rw[hgd];exact hj.1.mono M,hvv.mono (W _).kept.mono⟩
       ·rw[if_neg (fun e=>hij e.1)]at h1
        rw[if_neg hij]at h2
        exact⟨(hr i e m h1 h2).1.mono M,(hr i e m h1 h2).2.mono M⟩⟩
     rw[hι]at this
     exact this
   ·cases ho
  ·cases ho
 ·cases ho
variable{P:Program}{o:Oper}{w w':World}{G:Gh}{s:St}{a:Act}{sv:SV}{es:List Eff}
structure qk(w:World)(G:Gh)(b:Nat)(w':World):Prop where
 imm:G.g b= .imm
 heap:∀k,k≠b→w'.heap[k]? =w.heap[k]?
 cell:∀ad,w'.cell? ad=w.cell? ad
 size:w'.heap.size=w.heap.size
mutual
theorem cU.marked{b:Nat}(M:qk w G b w'):∀{d:au} {v:Value},cU w G d v→cU w' G d v
 |_,_,.int k n=>.int k n
 |_,_,.bool b=>.bool b
 |_,_,.str s=>.str s
 |_,_,.agg cs vs h=>.agg cs vs (h.marked M)
 |_,_,.nilptr=>.nilptr
 |_,_,.ptr l off h=>.ptr l off h
 |_,_,.nilmap=>.nilmap
 |_,_,.map l h=>.map l h
 |_,_,.nilfn=>.nilfn
 |_,_,.fn f as bs us vs h1 h2=>.fn f as bs us vs (h1.marked M) (h2.marked M)
 |_,_,.nilsl a cap=>.nilsl a cap
 |_,_,.sl xs ad cap k vs hne hcap hg hb hs hk hr hc=>.sl xs ad cap k vs hne hcap hg (by rw[M.size];exact hb) hs hk (hr.marked M) (fun i v hv=>by rw[M.cell];exact hc i v hv)
theorem cn.marked{b:Nat}(M:qk w G b w'):∀{ds:List au} {vs:List Value},cn w G ds vs→cn w' G ds vs
 |_,_,.nil=>.nil
 |_,_,.cons d v ds vs h1 h2 h3=>.cons d v ds vs h1 (h2.marked M) (h3.marked M)
end
theorem cp.marked{b:Nat}(M:qk w G b w'){t:Tag}(ht:t≠ .imm){k:Nat}{xs:List au}{v:Value}(h:cp w G t k xs v):cp w' G t k xs v:=by
 rcases h with h|⟨b',cap,arr,h1,h2,h3,h4,h5,h6,h7,h8⟩
 ·exact .inl h
 ·have hne:b'≠b:=fun e=>by subst e;rw[M.imm]at h2;exact ht h2.symm
  exact .inr ⟨b',cap,arr,h1,h2,by rw[M.heap b' hne];exact h3,h4,h5,h6,h7,h8.marked M⟩
theorem dK.marked{b:Nat}(M:qk w G b w'){t:Tag}(ht:t≠ .imm){c:CV}{v:Value}(h:dK w G t c v):dK w' G t c v:=by
 cases c with
 |val d=>exact cU.marked M h
 |nil=>exact h
 |row k xs=>exact cp.marked M ht h
 |dead=>trivial
theorem gG.marked{b:Nat}(M:qk w G b w'){l:Nat}{ob:dB}(h:gG w G l ob):gG w' G l ob:=by
 cases ob with
 |cells cs=>
  obtain⟨h1,arr,e,fr,h2,h3,h4⟩:=h
  have hne:G.ι l≠b:=fun e=>by rw[e,M.imm]at h1;cases h1
  exact⟨h1,arr,e,fr,by rw[M.heap _ hne];exact h2,h3,h4.1,fun i c v hc hv=>⟨(h4.2 i c v hc hv).1.marked M (by intro e;cases e),(h4.2 i c v hc hv).2⟩⟩
 |map kt es=>
  obtain⟨h1,h2,ents,clock,h3,h4,h5⟩:=h
  have hne:G.ι l≠b:=fun e=>by rw[e,M.imm]at h1;cases h1
  exact⟨h1,h2,ents,clock,by rw[M.heap _ hne];exact h3,h4,fun i e m he hm=>⟨(h5 i e m he hm).1.marked M,(h5 i e m he hm).2.marked M⟩⟩
theorem dn.marked{b:Nat}(M:qk w G b w'){r:fb}{v:Value}(h:dn w G a r v):dn w' G a r v:=by
 cases r with
 |slot i=>exact h
 |cell l i=>show w'.cell? _=_;rw[M.cell];exact h
theorem ez.marked{b:Nat}(M:qk w G b w'){t:Tag}(ht:t≠ .imm){v:Value}(h:ez w G s a t sv v):ez w' G s a t sv v:=by
 cases sv with
 |cv c=>exact dK.marked M ht h
 |undef=>exact h
 |alias r=>exact⟨h.1,h.2.marked M⟩
 |imm cs=>
  obtain⟨ad,vs,h1,h2,h3,h4,h5,h6⟩:=h
  exact⟨ad,vs,h1,h2,h3,by rw[M.size];exact h4,h5.marked M,fun i v hv=>by rw[M.cell];exact h6 i v hv⟩
 |elt r j off=>
  obtain⟨k,xs,b',n,cap,h1,h2,h3,h4⟩:=h
  exact⟨k,xs,b',n,cap,h1,h2,h3.marked M,h4⟩
 |bld cs=>
  obtain⟨vs,h1,h2,h3⟩:=h
  exact⟨vs,h1,h2,fun j c u hc hu=>⟨(h3 j c u hc hu).1,(h3 j c u hc hu).2.1.marked M (by intro e;cases e),(h3 j c u hc hu).2.2⟩⟩
 |tup ds=>
  obtain⟨vs,h1,h2,h3⟩:=h
  exact⟨vs,h1,h2,fun j d u hd hu=>(h3 j d u hd hu).marked M⟩
theorem Rel.marked{b:Nat}(M:qk w G b w')(h:Rel w G s a):Rel w' G s a:=
 ⟨fun i=>(h.slots i).marked M (by intro e;cases e),⟨h.heap.n,fun l ob ho=>⟨(h.heap.obj l ob ho).1,(h.heap.obj l ob ho).2.marked M⟩⟩,fun b hb=>h.fresh b (by rw[← M.size];exact hb)⟩
theorem aci{b n:Nat}{arr:Array Value}{e:TypeId}(h:w.heap[b]? =some (.cells arr e (0,0))):(w.freeze ⟨b,n,none⟩ 1).heap[b]? =some (.cells arr e (n,n+1)):=by
 unfold World.freeze
 rw[if_neg (by decide)]
 simp only[Array.getElem?_modify,if_true,h,Option.map_some]
 rfl
theorem kW{b n k:Nat}(h:k≠b):(w.freeze ⟨b,n,none⟩ 1).heap[k]? =w.heap[k]? :=by
 unfold World.freeze
 rw[if_neg (by decide)]
 simp only[Array.getElem?_modify]
 rw[if_neg (fun e=>h e.symm)]
theorem acT{b n:Nat}{arr:Array Value}{e:TypeId}(h:w.heap[b]? =some (.cells arr e (0,0)))(ad:Addr):(w.freeze ⟨b,n,none⟩ 1).cell? ad=w.cell? ad:=by
 by_cases hb:ad.block=b
 ·unfold World.cell?
  rw[hb,aci h,h]
 ·exact lZ (kW hb)
theorem th{b n:Nat}:(w.freeze ⟨b,n,none⟩ 1).heap.size=w.heap.size:=by
 unfold World.freeze
 rw[if_neg (by decide)]
 simp
theorem wt{src dst:TypeId}{x:Operand}{e e':TypeId}(h:Rel w G s a)(hop:o.op= .convert src dst x)(ho:convertOp P s src dst x=some (sv,es))(hd:P.underlying dst=some (.slice e))(hs:P.underlying src=some (.slice e')):jP P o w G s a sv es:=by
 unfold convertOp at ho
 rw[hs,hd]at ho
 simp only at ho
 split at ho
 ·rename_i hc
  rw[bA,decide_eq_true_eq]at hc
  obtain⟨rfl,hu⟩:=hc
  unfold an1 at ho
  split at ho
  ·rename_i k d0 ds0 he
   generalize hxs:d0::ds0=xs at he ho
   have hne:xs≠[]:=by rw[← hxs];simp
   ·simp only[sJ,pJ]at ho
    obtain⟨rfl,rfl⟩:=ho
    have hu8:=wK hu
    rw[hs]at hd
    cases hd
    have hx:=h.opv x
    rw[he]at hx
    obtain⟨t,rfl⟩:=il he (fun v=>jB v k xs) (fun f e=>by cases e) (fun e=>by cases e)
    have hr:=Rel.rowAt_slot (s:=s) (t:=t) he
    have hfix:=cp.fixed hx (t:=.slot t) (by intro e;cases e)
    rcases hx with⟨h0,_⟩|⟨b,cap,arr,hv,hg,hb,hsz,hcap,hmx,hk,hrel⟩
    ·exact absurd h0 hne
    ·have hg':G.g b=Tag.slot t:=hg
     have hrun:(convert src src (a.eval (.tmp t))).run P w= .ok (a.eval (.tmp t)) (w.freeze ⟨b,arr.size,none⟩ 1):=by
      rw[hv]
      have hsh:w.shape? b=some (k,arr.size):=by unfold World.shape?;rw[hb]
      simp[convert,Sem.run_bind,run_underlying hs,run_underlying hu8,markStringish,hsh]
     have M:qk w (G.re (eC (.slot t)) .imm) b (w.freeze ⟨b,arr.size,none⟩ 1):=⟨by show(if G.g b=Tag.slot t then Tag.imm else _)=_;rw[if_pos hg'],fun k hk=>kW hk,fun ad=>acT hb ad,th⟩
     refine⟨a.eval (.tmp t),w.freeze ⟨b,arr.size,none⟩ 1,G.re (eC (.slot t)) .imm,.inl ?_,?_,(h.fix hr).marked M,?_⟩
     ·simp only[execOp,hop,Sem.run_bind,hrun,Result.andThen_ok,Sem.run_pure]
     ·have K:=dJ w G (.slot t) .imm
      have hti:∀b',G.g b'= .imm→b'≠b:=fun b' h1 e=>by subst e;rw[hg']at h1;cases h1
      have hto:∀b',G.g b'= .other→b'≠b:=fun b' h1 e=>by subst e;rw[hg']at h1;cases h1
      exact⟨by unfold World.freeze;rw[if_neg (by decide)],by unfold World.freeze;rw[if_neg (by decide)],by unfold World.freeze;rw[if_neg (by decide)],by rw[th];exact nR _,fun b' h1 h2=>⟨(K.imm b' h1 h2).1,kW (hti b' h1)⟩,fun b' h1 h2=>⟨(K.other b' h1 h2).1,kW (hto b' h1)⟩,K.n,K.ι,K.P⟩
     ·exact cU.marked M hfix
  ·cases ho
 ·cases ho
variable{P:Program}{o:Oper}{w:World}{G:Gh}{s:St}{a:Act}{sv:SV}{es:List Eff}
theorem zY(h:Rel w G s a)(hP:G.P=P)(ho:aop P s o=some (sv,es)):jP P o w G s a sv es:=by
 unfold aop at ho
 split at ho
 case h_1 hop=>exact wv h ho (by simp only[execOp,hop,Sem.run_pure])
 case h_2 hop=>exact akp h ho (by simp only[execOp,hop,Sem.run_pure])
 case h_3 hop=>exact ar6 h hop ho
 case h_4 hop=>exact aqN h hop ho
 case h_5 hop=>exact anI h hop ho
 case h_6 src dst x hop=>
  by_cases hd:∃e,P.underlying dst=some (.slice e)
  ·obtain⟨e,hd⟩:=hd
   by_cases hsl:∃e',P.underlying src=some (.slice e')
   ·obtain⟨e',hs'⟩:=hsl
    exact wt h hop ho hd hs'
   have hs:P.underlying src=some .string:=by
    unfold convertOp at ho
    rw[hd]at ho
    split at ho
    ·rename_i h1;cases h1
    ·rename_i h1;cases h1
    ·rename_i h1;cases h1
    ·assumption
    ·rename_i hs2 _;exact absurd ⟨_,hs2⟩ hsl
    ·cases ho
   exact uk h hop ho hd hs
  ·exact ahm h hop ho (fun e he=>hd ⟨e,he⟩)
 case h_7 hop=>exact ahS h hop ho
 case h_8 hop=>exact aaY h hop ho
 case h_9 hop=>exact ym h hop ho
 case h_10 hop=>exact apy h hop ho
 case h_11 hop=>exact aaA h hP hop ho
 case h_12 hop=>exact anM h hop ho
 case h_13 hop=>exact ok_slice h hop ho
 case h_14 hop=>exact asZ h hP hop ho
 case h_15 hop=>exact anc h hP hop ho
 case h_16 hop=>exact aob h hop ho
 case h_17 hop=>exact auL h hop ho
 case h_18 hop=>exact am9 h hop ho
 case h_19 hop=>exact xP h hP hop ho
 case h_20 hop=>exact yN h hP hop ho
 case h_21 hop=>exact afg h hP hop ho
 case h_22 hop=>exact aa0 h hop ho
 case h_23 hop=>exact amJ h hP hop ho
 case h_24 hop=>exact rR h hP (.inl hop) ho
 case h_25 args ts hop=>
  split at ho
  ·rename_i x t h1 h2
   have e1:args= #[x]:=by apply Array.ext';simpa using h1
   have e2:ts= #[t]:=by apply Array.ext';simpa using h2
   subst e1;subst e2
   exact avM h hop ho
  ·cases ho
 case h_26 args ts hop=>
  split at ho
  ·rename_i x y t ty h1 h2
   have e1:args= #[x,y]:=by apply Array.ext';simpa using h1
   have e2:ts= #[t,ty]:=by apply Array.ext';simpa using h2
   subst e1;subst e2
   exact aiJ h hP hop ho
  ·cases ho
 case h_27 args ts hop=>exact aao (mx:=false) h hop ho
 case h_28 args ts hop=>exact aao (mx:=true) h hop ho
 case h_29 hop=>exact rR h hP (.inr hop) ho
 case h_30 hop=>exact aaS h hP hop ho
 case h_31 hop=>exact wN h hP hop ho
 case h_32=>cases ho
variable{P:Program}{w:World}{G:Gh}{s s':St}{a:Act}
theorem uR{sv:SV}(h:dX sv=true):∃k xs,sv= .cv (.row k xs):=by
 unfold dX at h
 split at h
 ·exact⟨_,_,rfl⟩
 ·cases h
theorem aeN{c:CV}{d:au}(h:c.fits (.val d)):c= .val d∨(c= .nil∧d= .sl []):=by
 cases c <;> cases d <;> first|exact .inl h|(have h':_=[]:=h;subst h';exact .inr ⟨rfl,rfl⟩)
theorem sB{sv:SV}{k:TypeId}{xs:List au}(h:sv.fits (.cv (.row k xs))):sv= .cv (.row k xs)∨(sv= .cv .nil∧xs=[]):=by
 cases sv with
 |cv c=>
  cases c with
  |nil=>exact .inr ⟨rfl,h⟩
  |val d=>
   have h':CV.val d=CV.row k xs:=h
   cases h'
  |row k' xs'=>
   have h':CV.row k' xs'=CV.row k xs:=h
   exact .inl (by rw[h'])
  |dead=>
   have h':CV.dead=CV.row k xs:=h
   cases h'
 |_=>
  exact .inl h
theorem Rel.weaken(h:Rel w G s a)(hb:s'.box=s.box)(hg:∀i,(s.get i).fits (s'.get i))(hr:∀i,(s'.get i).rooted s'):Rel w G s' a:=by
 have roots:∀r q,s.rowAt r=some q→(∀i,r= .slot i→dX (s'.get i)=true)→s'.rowAt r=some q:=fun r q hq hi=>by
  cases r with
  |slot i=>
   obtain⟨k,xs,he⟩:=uR (hi i rfl)
   have hf:=hg i
   rw[he]at hf
   simp only[St.rowAt,he]at hq ⊢
   rcases sB hf with e|⟨e,_⟩
   ·rw[e]at hq;exact hq
   ·rw[e]at hq;cases hq
  |cell l i=>simpa only[St.rowAt,hb]using hq
 refine⟨fun i=>?_,by rw[hb];exact h.heap,h.fresh⟩
 have hs:=h.slots i
 have hf:=hg i
 have hri:=hr i
 generalize hs':s'.get i=sv' at hf hri ⊢
 generalize hs0:s.get i=sv at hs hf
 cases sv' with
 |cv c'=>
  cases c' with
  |dead=>trivial
  |val d=>
   cases sv with
   |cv c=>
    rcases aeN hf with e|⟨e,rfl⟩
    ·rw[e]at hs;exact hs
    ·rw[e]at hs
     obtain⟨b,hb⟩:=hs
     rw[hb];exact .nilsl b 0
   |_=>
    have hf':_=SV.cv (CV.val d):=hf
    cases hf'
  |nil=>
   cases sv with
   |cv c=>
    have hf':c=CV.nil:=by cases c <;> exact hf
    subst hf';exact hs
   |_=>
    have hf':_=SV.cv (CV.nil):=hf
    cases hf'
  |row k xs=>
   rcases sB hf with e|⟨e,hx⟩
   ·rw[e]at hs;exact hs
   ·rw[e]at hs;subst hx
    exact .inl ⟨rfl,hs⟩
 |undef=>
  have e:sv= .undef:=by cases sv <;> exact hf
  subst e;exact hs
 |alias r=>
  have e:sv= .alias r:=by cases sv <;> exact hf
  subst e
  obtain⟨⟨q,hq⟩,hv⟩:=hs
  refine⟨⟨q,roots r q hq (fun i e=>?_)⟩,by cases r <;> exact hv⟩
  subst e;exact hri
 |imm cs=>
  have e:sv= .imm cs:=by cases sv <;> exact hf
  subst e;exact hs
 |elt r j off=>
  have e:sv= .elt r j off:=by cases sv <;> exact hf
  subst e
  obtain⟨k,xs,b,n,cap,h1,h2,h3,h4⟩:=hs
  exact⟨k,xs,b,n,cap,roots r _ h1 (fun i e=>by subst e;exact hri),h2,by cases r <;> exact h3,h4⟩
 |bld cs=>
  have e:sv= .bld cs:=by cases sv <;> exact hf
  subst e;exact hs
 |tup ds=>
  have e:sv= .tup ds:=by cases sv <;> exact hf
  subst e;exact hs
theorem yt(sv:SV):sv.fits sv:=by
 cases sv with
 |cv c=>
  cases c with
  |nil=>rfl
  |val d=>cases d <;> exact rfl
  |row k xs=>exact rfl
  |dead=>trivial
 |_=>rfl
theorem Rel.rooted(h:Rel w G s a)(i:Nat):(s.get i).rooted s:=by
 have hs:=h.slots i
 generalize s.get i=sv at hs
 cases sv with
 |alias r=>
  cases r with
  |cell l j=>trivial
  |slot j=>
   obtain⟨⟨q,hq⟩,_⟩:=hs
   simp only[St.rowAt]at hq
   simp only[SV.rooted]
   split at hq
   ·rename_i k xs e;rw[e];rfl
   ·cases hq
 |elt r j off=>
  cases r with
  |cell l j=>trivial
  |slot j=>
   obtain⟨k,xs,b,n,cap,hq,_⟩:=hs
   simp only[St.rowAt]at hq
   simp only[SV.rooted]
   split at hq
   ·rename_i k xs e;rw[e];rfl
   ·cases hq
 |_=>trivial
theorem Rel.congr(h:Rel w G s a)(hb:s'.box=s.box)(hg:∀i,s'.get i=s.get i):Rel w G s' a:=
 h.weaken hb (fun i=>by rw[hg];exact yt _) (fun i=>by
  have:=h.rooted i
  rw[hg]
  cases hh:s.get i with
  |alias r=>cases r with
   |slot j=>rw[hh]at this;simp only[SV.rooted,hg]at this ⊢;exact this
   |cell l j=>trivial
  |elt r j off=>cases r with
   |slot j=>rw[hh]at this;simp only[SV.rooted,hg]at this ⊢;exact this
   |cell l j=>trivial
  |_=>trivial)
theorem qh:∀(l:List (Nat×SV)) (i:Nat),look l i= .cv .dead∨∃p∈l,p.1=i∧look l i=p.2
 | [],i=>.inl rfl
 |(j,v)::l,i=>by
  simp only[look]
  by_cases e:j=i
  ·rw[if_pos e];exact .inr ⟨(j,v),by simp,e,rfl⟩
  ·rw[if_neg e]
   rcases qh l i with h|⟨p,hp,h1,h2⟩
   ·exact .inl h
   ·exact .inr ⟨p,by simp[hp],h1,h2⟩
theorem lH{n:Nat}:∀{xs:List au},cc n xs→∀x∈xs,x.under n
 | [],_,x,hx=>by cases hx
 |y::ys,h,x,hx=>by
  rcases List.mem_cons.1 hx with rfl|hx
  ·exact h.1
  ·exact lH h.2 x hx
theorem sN{n:Nat}:∀{xs:List au},(∀x∈xs,x.under n)→cc n xs
 | [],_=>trivial
 |y::ys,h=>⟨h y (by simp),sN fun x hx=>h x (by simp[hx])⟩
theorem adl{n:Nat}{d:au}(h:d.under n):cc n d.cells:=by
 cases d <;> first|exact h|exact⟨h,trivial⟩
theorem oG{n:Nat}{xs:List au}(h:cc n xs):cc n (bx xs):=sN fun x hx=>by
 simp only[bx,List.mem_flatMap]at hx
 obtain⟨y,hy,hx⟩:=hx
 exact lH (adl (lH h y hy)) x hx
theorem mA{n:Nat}:∀{xs:List CV},gw n xs→∀x∈xs,x.under n
 | [],_,x,hx=>by cases hx
 |y::ys,h,x,hx=>by
  rcases List.mem_cons.1 hx with rfl|hx
  ·exact h.1
  ·exact mA h.2 x hx
theorem vh{n:Nat}:∀{xs:List CV},(∀x∈xs,x.under n)→gw n xs
 | [],_=>trivial
 |y::ys,h=>⟨h y (by simp),vh fun x hx=>h x (by simp[hx])⟩
theorem oU{n:Nat}:∀{xs:List (au×au)},lc n xs→∀x∈xs,x.1.under n∧x.2.under n
 | [],_,x,hx=>by cases hx
 |y::ys,h,x,hx=>by
  rcases List.mem_cons.1 hx with rfl|hx
  ·exact h.1
  ·exact oU h.2 x hx
theorem vA{n:Nat}:∀{xs:List (au×au)},(∀x∈xs,x.1.under n∧x.2.under n)→lc n xs
 | [],_=>trivial
 |y::ys,h=>⟨h y (by simp),vA fun x hx=>h x (by simp[hx])⟩
structure avD(w:World)(G G':Gh):Prop where
 g:∀b,G.g b= .imm→G'.g b= .imm
 ι:∀l,G'.ι l=G.ι l
 P:G'.P=G.P
mutual
theorem cU.less{w:World}{G G':Gh}(M:avD w G G'):∀{d:au} {v:Value},cU w G d v→d.under G'.n→cU w G' d v
 |_,_,.int k n,_=>.int k n
 |_,_,.bool b,_=>.bool b
 |_,_,.str s,_=>.str s
 |_,_,.agg cs vs h,u=>.agg cs vs (h.less M u)
 |_,_,.nilptr,_=>.nilptr
 |_,_,.ptr l off h,u=>by rw[← M.ι l];exact .ptr l off u
 |_,_,.nilmap,_=>.nilmap
 |_,_,.map l h,u=>by rw[← M.ι l];exact .map l u
 |_,_,.nilfn,_=>.nilfn
 |_,_,.fn f as bs us vs h1 h2,u=>.fn f as bs us vs (h1.less M u.1) (h2.less M u.2)
 |_,_,.nilsl a cap,_=>.nilsl a cap
 |_,_,.sl xs ad cap k vs hne hcap hg hb hs hk hr hc,u=>.sl xs ad cap k vs hne hcap (M.g _ hg) hb hs hk (hr.less M (oG u)) hc
theorem cn.less{w:World}{G G':Gh}(M:avD w G G'):∀{ds:List au} {vs:List Value},cn w G ds vs→cc G'.n ds→cn w G' ds vs
 |_,_,.nil,_=>.nil
 |_,_,.cons d v ds vs h1 h2 h3,u=>.cons d v ds vs h1 (h2.less M u.1) (h3.less M u.2)
end
theorem cp.less{G G':Gh}(M:avD w G G'){t:Tag}{k:TypeId}{xs:List au}{v:Value}(ht:∀b,G.g b=t→G'.g b=t)(h:cp w G t k xs v)(u:cc G'.n xs):cp w G' t k xs v:=by
 rcases h with h|⟨b,cap,arr,h1,h2,h3,h4,h5,h6,h7,h8⟩
 ·exact .inl h
 ·exact .inr ⟨b,cap,arr,h1,ht b h2,h3,by rw[M.P];exact h4,h5,h6,by rw[M.P];exact h7,by rw[M.P];exact h8.less M (oG u)⟩
theorem dK.less{G G':Gh}(M:avD w G G'){t:Tag}{c:CV}{v:Value}(ht:∀b,G.g b=t→G'.g b=t)(h:dK w G t c v)(u:c.under G'.n):dK w G' t c v:=by
 cases c with
 |val d=>exact cU.less M h u
 |nil=>exact h
 |row k xs=>exact cp.less M ht h u
 |dead=>trivial
theorem dK.fits{t:Tag}{c c':CV}{v:Value}(h:dK w G t c v)(hf:c.fits c'):dK w G t c' v:=by
 cases c' with
 |dead=>trivial
 |val d=>
  rcases aeN hf with e|⟨e,rfl⟩
  ·rw[e]at h;exact h
  ·rw[e]at h
   obtain⟨b,hb⟩:=h
   rw[hb];exact .nilsl b 0
 |nil=>
  have:c=CV.nil:=by cases c <;> exact hf
  subst this;exact h
 |row k xs=>
  rcases sB (sv:=.cv c) hf with e|⟨e,hx⟩
  ·cases e;exact h
  ·cases e;subst hx;exact .inl ⟨rfl,h⟩
theorem tN:∀{cs cs':List CV},CV.fitsL cs cs'→cs.length=cs'.length
 | [],[],_=>rfl
 |_::_,_::_,h=>by simp[tN h.2]
 | [],_::_,h=>h.elim
 |_::_,[],h=>h.elim
theorem sT:∀{cs cs':List CV},CV.fitsL cs cs'→∀(i:Nat) (c':CV),cs'[i]? =some c'→∃c,cs[i]? =some c∧c.fits c'
 | [],[],_,i,c',h=>by simp at h
 |c::_,c'::_,h,0,d,hd=>by simp at hd;subst hd;exact⟨c,rfl,h.1⟩
 |_::_,_::_,h,i+1,d,hd=>by simpa using sT h.2 i d (by simpa using hd)
 | [],_::_,h,_,_,_=>h.elim
 |_::_,[],h,_,_,_=>h.elim
def Gh.less(G:Gh)(n:Nat):Gh:=⟨G.P,fun b=>match G.g b with|.box l=>if l < n then .box l else .other|.cell l i=>if l < n then .cell l i else .other|t=>t,G.ι,n⟩
theorem Gh.less_box{n l b:Nat}(hl:l < n)(h:G.g b= .box l):(G.less n).g b= .box l:=by simp[Gh.less,h,hl]
theorem Gh.less_cell{n l i b:Nat}(hl:l < n)(h:G.g b= .cell l i):(G.less n).g b= .cell l i:=by simp[Gh.less,h,hl]
theorem Gh.less_slot{n i b:Nat}(h:G.g b= .slot i):(G.less n).g b= .slot i:=by simp[Gh.less,h]
theorem Gh.less_Less(n:Nat):avD w G (G.less n):=⟨fun b h=>by simp[Gh.less,h],fun _=>rfl,rfl⟩
structure nf(m:Nat)(w:World)(G:Gh)(w':World)(G':Gh):Prop where
 os:w'.os=w.os
 tape:w'.tape=w.tape
 output:w'.output=w.output
 size:w.heap.size≤w'.heap.size
 imm:∀b,G.g b= .imm→b < w.heap.size→G'.g b= .imm∧w'.heap[b]? =w.heap[b]?
 other:∀b,G.g b= .other→b < w.heap.size→G'.g b= .other∧w'.heap[b]? =w.heap[b]?
 n:m≤G.n→m≤G'.n
 ι:∀l,l < m→m≤G.n→G'.ι l=G.ι l
 P:G'.P=G.P
theorem Kept.toM{m:Nat}{w:World}{G:Gh}{w':World}{G':Gh}(h:Kept w G w' G'):nf m w G w' G':=
 ⟨h.os,h.tape,h.output,h.size,h.imm,h.other,fun hm=>Nat.le_trans hm h.n,fun l hl hm=>h.ι l (Nat.lt_of_lt_of_le hl hm),h.P⟩
theorem nf.toK{w:World}{G:Gh}{w':World}{G':Gh}(h:nf G.n w G w' G'):Kept w G w' G':=
 ⟨h.os,h.tape,h.output,h.size,h.imm,h.other,h.n (nR _),fun l hl=>h.ι l hl (nR _),h.P⟩
theorem nf.refl(m:Nat)(w:World)(G:Gh):nf m w G w G:=(Kept.refl w G).toM
theorem nf.trans{m:Nat}{w1 w2 w3:World}{G1 G2 G3:Gh}(h:nf m w1 G1 w2 G2)(k:nf m w2 G2 w3 G3):nf m w1 G1 w3 G3 where
 os:=k.os.trans h.os
 tape:=k.tape.trans h.tape
 output:=k.output.trans h.output
 size:=Nat.le_trans h.size k.size
 imm b hb hl:=by
  obtain⟨h1,h2⟩:=h.imm b hb hl
  obtain⟨h3,h4⟩:=k.imm b h1 (Nat.lt_of_lt_of_le hl h.size)
  exact⟨h3,h4.trans h2⟩
 other b hb hl:=by
  obtain⟨h1,h2⟩:=h.other b hb hl
  obtain⟨h3,h4⟩:=k.other b h1 (Nat.lt_of_lt_of_le hl h.size)
  exact⟨h3,h4.trans h2⟩
 n hm:=k.n (h.n hm)
 ι l hl hm:=(k.ι l hl (h.n hm)).trans (h.ι l hl hm)
 P:=k.P.trans h.P
theorem qo{s s':St}{l i:Nat}(h:s'.box.cell l i=s.box.cell l i):s'.rowAt (.cell l i)=s.rowAt (.cell l i):=by
 simp only[St.rowAt,h]
theorem Rel.shrinks{m:Nat}(h:Rel w G s a)(hs:s.Shrinks m s'):∃G',Rel w G' s' a∧nf m w G w G':=by
 have hnn:s.box.n=G.n:=h.heap.n.symm
 refine⟨G.less s'.box.n,⟨fun i=>?_,⟨rfl,fun l o' ho'=>?_⟩,fun b hb=>?_⟩,rfl,rfl,rfl,nR _,fun b hb _=>⟨by simp[Gh.less,hb],rfl⟩,fun b hb _=>⟨by simp[Gh.less,hb],rfl⟩,fun _=>hs.lo,fun _ _ _=>rfl,rfl⟩
 ·have hsi:=h.slots i
  rcases qh s'.slots i with e|⟨p,hp,h1,h2⟩
  ·show ez _ _ _ _ _ (look s'.slots i) _
   rw[e];trivial
  ·show ez _ _ _ _ _ (look s'.slots i) _
   obtain⟨hf,hr,hu⟩:=hs.slots p hp
   have hroot:=hs.roots p hp
   rw[h1]at hf
   rw[h2]
   have slotrow:∀j q,dX (s'.get j)=true→s.rowAt (.slot j)=some q→s'.rowAt (.slot j)=some q:=fun j q hj hq=>by
    obtain⟨k,xs,he⟩:=uR hj
    have hfit:(s.get j).fits (s'.get j):=by
     rcases qh s'.slots j with e|⟨p',hp',h1',h2'⟩
     ·have:s'.get j= .cv .dead:=e
      rw[this]at he;cases he
     ·have:s'.get j=p'.2:=h2'
      rw[this,← h1'];exact(hs.slots p' hp').1
    rw[he]at hfit
    simp only[St.rowAt,he]at hq ⊢
    rcases sB hfit with e|⟨e,_⟩
    ·rw[e]at hq;exact hq
    ·rw[e]at hq;cases hq
   generalize hp2:p.2=sv' at hf hr hu hroot
   generalize s.get i=sv at hf hsi
   cases sv' with
   |cv c'=>
    cases sv with
    |cv c=>exact dK.less (Gh.less_Less _) (fun b hb=>Gh.less_slot hb) (dK.fits hsi (by cases c <;> cases c' <;> exact hf)) hu
    |_=>
     cases c' with
     |dead=>trivial
     |_=>cases hf
   |undef=>
    have e:sv= .undef:=by cases sv <;> exact hf
    subst e;exact hsi
   |alias r=>
    have e:sv= .alias r:=by cases sv <;> exact hf
    subst e
    obtain⟨⟨q,hq⟩,hv⟩:=hsi
    cases r with
    |slot j=>exact⟨⟨q,slotrow j q hr hq⟩,hv⟩
    |cell l j=>exact⟨⟨q,by rw[qo hroot];exact hq⟩,hv⟩
   |imm cs=>
    have e:sv= .imm cs:=by cases sv <;> exact hf
    subst e
    obtain⟨ad,vs,g1,g2,g3,g4,g5,g6⟩:=hsi
    exact⟨ad,vs,g1,g2,by simp[Gh.less,g3],g4,g5.less (Gh.less_Less _) hu,g6⟩
   |elt r j off=>
    have e:sv= .elt r j off:=by cases sv <;> exact hf
    subst e
    obtain⟨k,xs,b,n,cap,g1,g2,g3,g4⟩:=hsi
    cases r with
    |slot j'=>exact⟨k,xs,b,n,cap,slotrow j' _ hr g1,g2,g3,g4⟩
    |cell l j'=>exact⟨k,xs,b,n,cap,by rw[qo hroot];exact g1,g2,g3,g4⟩
   |bld cs=>
    have e:sv= .bld cs:=by cases sv <;> exact hf
    subst e
    obtain⟨vs,g1,g2,g3⟩:=hsi
    refine⟨vs,g1,g2,fun j c u hc hu'=>?_⟩
    obtain⟨k1,k2,k3⟩:=g3 j c u hc hu'
    refine⟨k1,?_,k3⟩
    have hcu:=mA (n:=s'.box.n) hu c (List.mem_of_getElem? hc)
    cases c with
    |val d=>exact cU.less (Gh.less_Less _) k2 hcu
    |nil=>exact k2
    |row _ _=>simp at k1
    |dead=>trivial
   |tup ds=>
    have e:sv= .tup ds:=by cases sv <;> exact hf
    subst e
    obtain⟨vs,g1,g2,g3⟩:=hsi
    exact⟨vs,g1,g2,fun j d u hd hu'=>cU.less (Gh.less_Less _) (g3 j d u hd hu') (lH (n:=s'.box.n) hu d (List.mem_of_getElem? hd))⟩
 ·obtain⟨hl,hu,o,ho,hf⟩:=hs.obj l o' ho'
  obtain⟨_,hobj⟩:=h.heap.obj l o ho
  refine⟨hl,?_⟩
  cases o' with
  |cells cs'=>
   cases o with
   |map _ _=>cases hf
   |cells cs=>
    obtain⟨g1,arr,e,fr,g2,g3,g4,g5⟩:=hobj
    refine⟨Gh.less_box hl g1,arr,e,fr,g2,g3,by rw[g4];exact tN hf,fun i c' v hc' hv=>?_⟩
    obtain⟨c,hc,hfc⟩:=sT hf i c' hc'
    obtain⟨k1,k2⟩:=g5 i c v hc hv
    exact⟨dK.less (Gh.less_Less _) (fun b hb=>Gh.less_cell hl hb) (dK.fits k1 hfc) (mA hu c' (List.mem_of_getElem? hc')),k2⟩
  |map kt es=>
   have e:o= .map kt es:=by cases o <;> exact hf
   subst e
   obtain⟨g1,gk,ents,clock,g2,g3,g4⟩:=hobj
   refine⟨Gh.less_box hl g1,gk,ents,clock,g2,g3,fun i e m he hm=>?_⟩
   obtain⟨k1,k2⟩:=g4 i e m he hm
   obtain⟨u1,u2⟩:=oU hu e (List.mem_of_getElem? he)
   exact⟨cU.less (Gh.less_Less _) k1 u1,cU.less (Gh.less_Less _) k2 u2⟩
 ·simp[Gh.less,h.fresh b hb]
theorem uI{n:Nat}{d:au}(h:cc n d.cells):d.under n:=by
 cases d <;> first|exact h|exact h.1
theorem nX{n:Nat}:∀{xs ys:List au},cc n (xs++ys)→cc n xs∧cc n ys
 | [],_,h=>⟨trivial,h⟩
 |_::_,_,h=>⟨⟨h.1,(nX h.2).1⟩,(nX h.2).2⟩
theorem ni{n:Nat}:∀{xs:List au},cc n (bx xs)→cc n xs
 | [],_=>trivial
 |x::xs,h=>by
  simp only[bx,List.flatMap_cons]at h
  exact⟨uI (nX h).1,ni (nX h).2⟩
mutual
theorem cU.under{w:World}{G:Gh}:∀{d:au} {v:Value},cU w G d v→d.under G.n
 |_,_,.int k n=>trivial
 |_,_,.bool b=>trivial
 |_,_,.str s=>trivial
 |_,_,.agg cs vs h=>h.under
 |_,_,.nilptr=>trivial
 |_,_,.ptr l off h=>h
 |_,_,.nilmap=>trivial
 |_,_,.map l h=>h
 |_,_,.nilfn=>trivial
 |_,_,.fn f as bs us vs h1 h2=>⟨h1.under,h2.under⟩
 |_,_,.nilsl a cap=>trivial
 |_,_,.sl xs ad cap k vs hne hcap hg hb hs hk hr hc=>ni hr.under
theorem cn.under{w:World}{G:Gh}:∀{ds:List au} {vs:List Value},cn w G ds vs→cc G.n ds
 |_,_,.nil=>trivial
 |_,_,.cons d v ds vs h1 h2 h3=>⟨h2.under,h3.under⟩
end
theorem dK.under{t:Tag}{c:CV}{v:Value}(h:dK w G t c v):c.under G.n:=by
 cases c with
 |val d=>exact cU.under h
 |nil=>trivial
 |dead=>trivial
 |row k xs=>
  rcases h with⟨rfl,_⟩|⟨b,cap,arr,h1,h2,h3,h4,h5,h6,h7,h8⟩
  ·trivial
  ·exact ni h8.under
theorem nj.wf{h:bn}(hh:nj w G h):h.WF:=fun l o ho=>by
 obtain⟨hl,hobj⟩:=hh.obj l o ho
 refine⟨hl,?_⟩
 rw[← hh.n]
 cases o with
 |cells cs=>
  obtain⟨g1,arr,e,fr,g2,g3,g4,g5⟩:=hobj
  refine vh fun c hc=>?_
  obtain⟨i,hi⟩:=List.getElem?_of_mem hc
  have:i < arr.toList.length:=by rw[g4];exact(List.getElem?_eq_some_iff.1 hi).1
  exact dK.under (g5 i c _ hi (gE this)).1
 |map kt es=>
  obtain⟨g1,gk,ents,clock,g2,g3,g4⟩:=hobj
  refine vA fun e he=>?_
  obtain⟨i,hi⟩:=List.getElem?_of_mem he
  have:i < ents.size:=by rw[g3.1];exact(List.getElem?_eq_some_iff.1 hi).1
  have:=g4 i e _ hi (Array.getElem?_eq_getElem this)
  exact⟨this.1.under,this.2.under⟩
theorem Rel.to{m:Nat}(h:Rel w G s a)(ht:St.To m s s'):∃G',Rel w G' s' a∧nf m w G w G':=by
 induction ht generalizing G with
 |refl s=>exact⟨G,h,nf.refl m w G⟩
 |weak s s1 sl hsl _ ih=>
  refine ih (h.weaken rfl (fun i=>?_) (fun i=>?_))
  ·show(s.get i).fits (look sl i)
   rcases qh sl i with e|⟨p,hp,h1,h2⟩
   ·rw[e];cases s.get i <;> trivial
   ·rw[h2,← h1];exact(hsl p hp).1
  ·show(look sl i).rooted _
   rcases qh sl i with e|⟨p,hp,h1,h2⟩
   ·rw[e];trivial
   ·rw[h2];exact(hsl p hp).2
 |fix s s1 r k xs hr _ ih=>
  obtain⟨G',h1,h2⟩:=ih (h.fix hr)
  exact⟨G',h1,(dJ w G r .imm).toM.trans h2⟩
 |shrink s s' s1 hs _ ih=>
  obtain⟨G1,g1,k1⟩:=h.shrinks hs
  obtain⟨G',h1,h2⟩:=ih g1
  exact⟨G',h1,k1.trans h2⟩
variable{P:Program}{o:Oper}{w:World}{G:Gh}{s:St}{a:Act}{sv:SV}{es:List Eff}
inductive dq(w:World)(G:Gh)(t:Nat→Tag):Nat→List SV→List Value→Prop
 |nil (i:Nat):dq w G t i [] []
 |cons (i:Nat) (c:CV) (v:Value) (as:List SV) (vs:List Value):dK w G (t i) c v→dq w G t (i+1) as vs→dq w G t i (.cv c::as) (v::vs)
inductive dD(w:World)(G:Gh):List SV→List Value→Prop
 |nil:dD w G [] []
 |cons (c:CV) (v:Value) (os:List SV) (vs:List Value):dK w G .ret c v→dD w G os vs→dD w G (.cv c::os) (v::vs)
def pP:List Value→Value
 | [v]=>v
 |vs=>.tuple vs.toArray
def Enters(P:Program)(f:FuncId):Prop:=∃fn code,P.funcs[f]? =some fn∧fn.body=some code∧(fn.name== "runtime.NumGoroutine")=false
def fk(P:Program):dm:=fun f args h Q=>
 Enters P f∧∀(w:World) (G:Gh) (vs:List Value),G.P=P→dq w G .slot 0 args vs→nj w G h→(∀b,w.heap.size≤b→G.g b= .other)→
  Calls P f vs.toArray w fun e w'=>∃us out h' G',e= .returned (pP us)∧Q out h'∧dD w' G' out us∧nj w' G' h'∧(∀b,w'.heap.size≤b→G'.g b= .other)∧Kept w G w' G'
def Gh.call(G:Gh):Gh:=⟨G.P,fun b=>match G.g b with|.slot _=>.other|.ret=>.other|.arg p=>.slot p|t=>t,G.ι,G.n⟩
def pS:Tag→Bool
 |.slot _=>true
 |_=>false
def Gh.back(G:Gh)(n:Nat)(G':Gh):Gh:=⟨G'.P,fun b=>if b < n∧pS (G.g b)=true then G.g b else match G'.g b with|.slot _=>.other|.arg _=>.other|t=>t,G'.ι,G'.n⟩
theorem zS(w:World)(G:Gh):uw w G w G.call where
 g b hb _:=⟨by simp only[Gh.call,hb],rfl⟩
 size:=nR _
 n:=nR _
 ι _ _:=rfl
 P:=rfl
theorem cp.tags{w:World}{G G':Gh}{t t':Tag}{k:TypeId}{xs:List au}{v:Value}(M:uw w G w G')(ht:∀b,G.g b=t→G'.g b=t')(h:cp w G t k xs v):cp w G' t' k xs v:=by
 rcases h with h|⟨b,cap,arr,h1,h2,h3,h4,h5,h6,h7,h8⟩
 ·exact .inl h
 ·exact .inr ⟨b,cap,arr,h1,ht b h2,h3,by rw[M.P];exact h4,h5,h6,by rw[M.P];exact h7,by rw[M.P];exact h8.mono M⟩
theorem dK.tags{w:World}{G G':Gh}{t t':Tag}{c:CV}{v:Value}(M:uw w G w G')(ht:∀b,G.g b=t→G'.g b=t')(h:dK w G t c v):dK w G' t' c v:=by
 cases c with
 |val d=>exact cU.mono M h
 |nil=>exact h
 |row k xs=>exact cp.tags M ht h
 |dead=>trivial
theorem dq.tags{w:World}{G G':Gh}{t t':Nat→Tag}(M:uw w G w G')(ht:∀i b,G.g b=t i→G'.g b=t' i):∀{i:Nat} {as:List SV} {vs:List Value},dq w G t i as vs→dq w G' t' i as vs
 |_,_,_,.nil i=>.nil i
 |_,_,_,.cons i c v as vs h1 h2=>.cons i c v as vs (h1.tags M (ht i)) (h2.tags M ht)
theorem gG.tags{w:World}{G G':Gh}{l:Nat}{ob:dB}(M:uw w G w G')(hι:∀l,G'.ι l=G.ι l)(hb:∀b l,G.g b= .box l→G'.g b= .box l)(hc:∀b l i,G.g b= .cell l i→G'.g b= .cell l i)(h:gG w G l ob):gG w G' l ob:=by
 cases ob with
 |cells cs=>
  obtain⟨h1,arr,e,fr,h2,h3,h4,h5⟩:=h
  exact⟨by rw[hι];exact hb _ _ h1,arr,e,fr,by rw[hι];exact h2,h3,h4,fun i c v hci hv=>⟨((h5 i c v hci hv).1).tags M (fun b=>hc b l i),(h5 i c v hci hv).2⟩⟩
 |map kt es=>
  obtain⟨h1,hk,ents,clock,h2,h3,h4⟩:=h
  exact⟨by rw[hι];exact hb _ _ h1,by rw[M.P];exact hk,ents,clock,by rw[hι];exact h2,h3,fun i e m he hm=>⟨((h4 i e m he hm).1).mono M,((h4 i e m he hm).2).mono M⟩⟩
theorem nj.tags{w:World}{G G':Gh}{h:bn}(M:uw w G w G')(hn:G'.n=G.n)(hι:∀l,G'.ι l=G.ι l)(hb:∀b l,G.g b= .box l→G'.g b= .box l)(hc:∀b l i,G.g b= .cell l i→G'.g b= .cell l i)(hh:nj w G h):nj w G' h:=
 ⟨by rw[hn];exact hh.n,fun l ob ho=>⟨(hh.obj l ob ho).1,(hh.obj l ob ho).2.tags M hι hb hc⟩⟩
section back
variable{w':World}{G':Gh}
theorem ajG{b j:Nat}(hb:b < w.heap.size)(hg:G.g b= .slot j):(G.back w.heap.size G').g b= .slot j:=by
 simp only[Gh.back,hg,pS,hb,and_self,if_true]
theorem nk(K:Kept w G.call w' G'){b:Nat}(h1:∀j,G'.g b≠ .slot j)(h2:∀j,G'.g b≠ .arg j)(h3:G'.g b≠ .other):(G.back w.heap.size G').g b=G'.g b:=by
 simp only[Gh.back]
 split
 ·rename_i hc
  exfalso
  obtain⟨hlt,hs⟩:=hc
  have:G.call.g b= .other:=by
   simp only[Gh.call]
   cases hg:G.g b <;> simp_all[pS]
  exact h3 (K.other b this hlt).1
 ·first
  |rfl
  |(split
    ·rename_i hh;exact absurd hh (h1 _)
    ·rename_i hh;exact absurd hh (h2 _)
    ·rfl)
theorem vx(K:Kept w G.call w' G'):uw w' G' w' (G.back w.heap.size G') where
 g b hb _:=⟨by rw[nk K (by rw[hb];intro j e;cases e) (by rw[hb];intro j e;cases e) (by rw[hb];intro e;cases e)];exact hb,rfl⟩
 size:=nR _
 n:=nR _
 ι _ _:=rfl
 P:=rfl
theorem zI(K:Kept w G.call w' G'):Kept w G w' (G.back w.heap.size G') where
 os:=K.os
 tape:=K.tape
 output:=K.output
 size:=K.size
 imm b hb hl:=by
  obtain⟨h1,h2⟩:=K.imm b (by simp only[Gh.call,hb]) hl
  exact⟨by rw[nk K (by rw[h1];intro j e;cases e) (by rw[h1];intro j e;cases e) (by rw[h1];intro e;cases e)];exact h1,h2⟩
 other b hb hl:=by
  obtain⟨h1,h2⟩:=K.other b (by simp only[Gh.call,hb]) hl
  refine⟨?_,h2⟩
  simp only[Gh.back]
  rw[if_neg (by rw[hb];simp[pS])]
  rw[h1]
 n:=K.n
 ι l hl:=K.ι l hl
 P:=K.P
end back
theorem yh{h':bn}{i:Nat}{q:TypeId×List au}(hq:s.rowAt (.slot i)=some q):St.rowAt ⟨dy SV.uncell s.slots,h'⟩ (.slot i)=some q:=by
 simp only[St.rowAt,St.get]at hq ⊢
 rw[ic _ rfl]
 split at hq
 ·rename_i k xs e
  rw[e];simpa[SV.uncell,SV.drop]using hq
 ·cases hq
theorem Rel.after(h:Rel w G s a){w':World}{G':Gh}{h':bn}(K:Kept w G.call w' G')(hh:nj w' G' h')(hf:∀b,w'.heap.size≤b→G'.g b= .other):
  Rel w' (G.back w.heap.size G') ⟨dy SV.uncell s.slots,h'⟩ a:=by
 have KB:=zI K
 refine⟨fun j=>?_,?_,fun b hb=>?_⟩
 ·have hg:St.get ⟨dy SV.uncell s.slots,h'⟩ j=(s.get j).drop fb.isCell:=by
   simp only[St.get];rw[ic _ rfl];rfl
  rw[hg]
  refine ez.move _ KB.mono (fun k xs _ hr=>?_) (fun r hr q hq=>?_) (h.slots j)
  ·rcases hr with hr|⟨b,cap,arr,h1,h2,h3,h4,h5,h6,h7,h8⟩
   ·exact .inl hr
   ·have hlt:=im h3
    have ho:=(K.other b (by simp only[Gh.call,h2]) hlt).2
    exact .inr ⟨b,cap,arr,h1,ajG hlt h2,by rw[ho];exact h3,by rw[KB.P];exact h4,h5,h6,by rw[KB.P];exact h7,by rw[KB.P];exact h8.mono KB.mono⟩
  ·cases r with
   |cell l i=>simp[fb.isCell]at hr
   |slot i=>exact⟨yh hq,fun v hv=>hv⟩
 ·exact hh.tags (vx K) rfl (fun _=>rfl) (fun b l hb=>by rw[nk K (by rw[hb];intro j e;cases e) (by rw[hb];intro j e;cases e) (by rw[hb];intro e;cases e)];exact hb)
   (fun b l i hb=>by rw[nk K (by rw[hb];intro j e;cases e) (by rw[hb];intro j e;cases e) (by rw[hb];intro e;cases e)];exact hb)
 ·have hlt:¬ b < w.heap.size:=by have:=K.size;omega
  simp only[Gh.back,hlt,false_and,if_false,hf b hb]
theorem dD.back{w':World}{G':Gh}(K:Kept w G.call w' G'):∀{os:List SV} {vs:List Value},dD w' G' os vs→dD w' (G.back w.heap.size G') os vs
 |_,_,.nil=>.nil
 |_,_,.cons c v os vs h1 h2=>.cons c v os vs (h1.tags (vx K) (fun b hb=>by rw[nk K (by rw[hb];intro j e;cases e) (by rw[hb];intro j e;cases e) (by rw[hb];intro e;cases e)];exact hb)) (h2.back K)
theorem aaB{w:World}{G:Gh}:∀{os:List SV} {ds:List au} {vs:List Value},afO os=some ds→dD w G os vs→vs.length=ds.length∧∀(j:Nat) (d:au) (u:Value),ds[j]? =some d→vs[j]? =some u→cU w G d u
 | [],ds,[],hd,.nil=>by
  simp only[afO,sJ]at hd;subst hd
  exact⟨rfl,fun j d u h=>by simp at h⟩
 |.cv c::os,ds,v::vs,hd,.cons _ _ _ _ h1 h2=>by
  cases c with
  |val d0=>
   simp only[afO,ae,sJ]at hd
   obtain⟨ds',hd',rfl⟩:=hd
   obtain⟨g1,g2⟩:=aaB hd' h2
   refine⟨by simp[g1],fun j d u hj hu=>?_⟩
   cases j with
   |zero=>simp at hj hu;subst hj;subst hu;exact h1
   |succ j=>simp at hj hu;exact g2 j d u hj hu
  |_=>simp[afO]at hd
theorem lJ{os:List SV}{vs:List Value}(hp:packed os=some sv)(h:dD w G os vs):ez w G s a .ret sv (pP vs):=by
 cases h with
 |nil=>simp only[packed,sJ]at hp;subst hp;rfl
 |cons c v os vs h1 h2=>
  cases h2 with
  |nil=>simp only[packed,sJ]at hp;subst hp;exact h1
  |cons c2 v2 os vs h3 h4=>
   simp only[packed,ae,sJ]at hp
   obtain⟨ds,hd,rfl⟩:=hp
   obtain⟨g1,g2⟩:=aaB hd (.cons c v _ _ h1 (.cons c2 v2 os vs h3 h4))
   refine⟨(v::v2::vs).toArray,rfl,by simpa using g1,fun j d u hj hu=>g2 j d u hj (by simpa using hu)⟩
variable{P:Program}{o:Oper}{w:World}{G:Gh}{s:St}{a:Act}{sv:SV}{es:List Eff}
def fY(G G':Gh):Prop:=∀b p,G.g b= .arg p→G'.g b= .arg p
theorem fY.refl(G:Gh):fY G G:=fun _ _ h=>h
theorem fY.trans{G1 G2 G3:Gh}(h:fY G1 G2)(h':fY G2 G3):fY G1 G3:=fun b p hb=>h' b p (h b p hb)
theorem fY.re{t t':Tag}(h:∀p,t≠ .arg p):fY G (G.re t t'):=fun b p hb=>by
 simp only[Gh.re,hb];rw[if_neg (fun e=>h p e.symm)]
theorem xb(r:fb):∀p,eC r≠ .arg p:=by intro p;cases r <;> (intro e;cases e)
theorem Rel.asVal2(h:Rel w G s a){x:Operand}{d:au}(hd:s.asVal x=some (d,es)):
  ∃G',uM w G s a es G'∧cU w G' d (a.eval x)∧fY G G':=by
 have ho:=h.opv x
 unfold St.asVal at hd
 split at hd
 ·rename_i d' he
  simp only[sJ,pJ]at hd
  obtain⟨rfl,rfl⟩:=hd
  rw[he]at ho
  exact⟨G,.none h,ho,.refl G⟩
 ·rename_i he
  simp only[sJ,pJ]at hd
  obtain⟨rfl,rfl⟩:=hd
  rw[he]at ho
  obtain⟨b,hb⟩:=ho
  rw[hb]
  exact⟨G,.none h,.nilsl b 0,.refl G⟩
 ·rename_i k xs he
  simp only[sJ,pJ]at hd
  obtain⟨rfl,rfl⟩:=hd
  obtain⟨t,rfl⟩:=il he (fun v=>jB v k xs) (fun f e=>by cases e) (fun e=>by cases e)
  have hr:=Rel.rowAt_slot (s:=s) (t:=t) he
  rw[he]at ho
  exact⟨_,⟨h.fix hr,dJ w G (.slot t) .imm⟩,cp.fixed ho (by intro e;cases e),.re (xb _)⟩
 ·rename_i r he
  rw[he]at ho
  cases hr:s.rowAt r with
  |none=>rw[hr]at hd;simp at hd
  |some p=>
   rw[hr]at hd
   simp only[oB,sJ,pJ]at hd
   obtain⟨rfl,rfl⟩:=hd
   obtain⟨v,hv,hrow⟩:=h.row (k:=p.1) (xs:=p.2) hr
   obtain⟨_,hv'⟩:=ho
   rw[cJ hv' hv]
   exact⟨_,⟨h.fix (k:=p.1) hr,dJ w G r .imm⟩,hrow.fixed (by cases r <;> (intro e;cases e)),.re (xb _)⟩
 ·rename_i cs he
  rw[he]at ho
  cases hc:je cs with
  |none=>rw[hc]at hd;simp at hd
  |some ds=>
   rw[hc]at hd
   simp only[oB,sJ,pJ]at hd
   obtain⟨rfl,rfl⟩:=hd
   exact⟨G,.none h,wG ho hc,.refl G⟩
 ·cases hd
theorem Rel.retag(h:Rel w G s a)(p:Nat):Rel w (G.re .ret (.arg p)) s a:=by
 refine⟨fun j=>?_,h.heap.re (by decide) (by intro l e;cases e) (by intro l i e;cases e),fun b hb=>?_⟩
 ·have:=ez.move (s':=s) (a':=a) (fun _=>false) (ik w G (t:=.ret) (t':=.arg p) (by decide)) (u':=.slot j) (fun k xs _ hr=>cp.re hr (by decide) (by intro e;cases e)) (fun r _ q hq=>⟨hq,fun v hv=>by cases r <;> exact hv⟩) (h.slots j)
  rwa[nl]at this
 ·simp only[Gh.re,h.fresh b hb];rw[if_neg (by decide)]
theorem aaF(h:Rel w G s a){how:How}{x:Operand}(hd:argOf s how x=some (sv,es))(p:Nat):
  ∃G' c,sv= .cv c∧uM w G s a es G'∧dK w G' (.arg p) c (a.eval x)∧fY G G':=by
 unfold argOf at hd
 split at hd
 ·simp only[ae,sJ,pJ]at hd
  obtain⟨⟨d,e⟩,hx,rfl,rfl⟩:=hd
  obtain⟨G',g1,g2,g3⟩:=h.asVal2 hx
  exact⟨G',.val d,rfl,g1,g2,g3⟩
 ·have ho:=h.opv x
  have fin:∀(r:fb) (k:TypeId) (xs:List au),cp w G (eC r) k xs (a.eval x)→∃G',uM w G s a [.kill r] G'∧dK w G' (.arg p) (.row k xs) (a.eval x)∧fY G G':=fun r k xs hr=>by
   refine⟨(G.re (eC r) .ret).re .ret (.arg p),⟨(h.kill r).retag p,(dJ w G r .ret).trans (nm w _ (by decide) (by decide))⟩,?_,(fY.re (xb r)).trans (fY.re (by intro p e;cases e))⟩
   exact cp.retag (cp.retag hr (by cases r <;> (intro e;cases e))) (by decide)
  split at hd
  ·rename_i he
   simp only[sJ,pJ]at hd
   obtain⟨rfl,rfl⟩:=hd
   rw[he]at ho
   exact⟨G,.nil,rfl,.none h,ho,.refl G⟩
  ·rename_i k xs he
   simp only[sJ,pJ]at hd
   obtain⟨rfl,rfl⟩:=hd
   obtain⟨t,rfl⟩:=il he (fun v=>jB v k xs) (fun f e=>by cases e) (fun e=>by cases e)
   rw[he]at ho
   obtain⟨G',g1,g2,g3⟩:=fin (.slot t) k xs ho
   exact⟨G',_,rfl,g1,g2,g3⟩
  ·rename_i r he
   rw[he]at ho
   simp only[ae,sJ,pJ]at hd
   obtain⟨q,hq,rfl,rfl⟩:=hd
   obtain⟨v,hv,hrow⟩:=h.row (k:=q.1) (xs:=q.2) hq
   obtain⟨_,hv'⟩:=ho
   rw[← cJ hv' hv]at hrow
   obtain⟨G',g1,g2,g3⟩:=fin r q.1 q.2 hrow
   exact⟨G',_,rfl,g1,g2,g3⟩
  ·cases hd
theorem uM.trans{G1 G2:Gh}{e1 e2:List Eff}(h:uM w G s a e1 G1)(h':uM w G1 (s.effs e1) a e2 G2):uM w G s a (e1++e2) G2:=
 ⟨by rw[eX];exact h'.rel,h.kept.trans h'.kept⟩
theorem va{C:Ctx}{f:FuncId}:∀{xs:List Operand} {i:Nat} {G:Gh} {s:St} {as:List SV} {es:List Eff},Rel w G s a→iT C f s i xs=some (as,es)→
  ∃G',uM w G s a es G'∧dq w G' .arg i as (xs.map a.eval)∧fY G G'
 | [],i,G,s,as,es,h,hd=>by
  simp only[iT,sJ,pJ]at hd
  obtain⟨rfl,rfl⟩:=hd
  exact⟨G,.none h,.nil i,.refl G⟩
 |x::xs,i,G,s,as,es,h,hd=>by
  simp only[iT,ae,sJ,pJ]at hd
  obtain⟨⟨sv,e1⟩,hx,⟨as',e2⟩,hxs,rfl,rfl⟩:=hd
  obtain⟨G1,c,hc,g1,g2,g3⟩:=aaF h hx i
  subst hc
  obtain⟨G2,k1,k2,k3⟩:=va g1.rel hxs
  exact⟨G2,g1.trans k1,.cons i c _ _ _ (g2.tags k1.kept.mono (fun b hb=>k3 b i hb)) k2,g3.trans k3⟩
theorem ny{t:Nat→Tag}:∀{ds:List au} {vs:List Value} {as:List SV} {us:List Value} {i:Nat},cn w G ds vs→dq w G t (i+ds.length) as us→dq w G t i (jI ds++as) (vs++us)
 |_,_,_,_,i,.nil,h=>by simpa[jI]using h
 |_,_,_,_,i,.cons d v ds vs h1 h2 h3,h=>by
  refine .cons i (.val d) v _ _ h2 (ny (i:=i+1) h3 ?_)
  simp only[lC]at h
  have:i+1+ds.length=i+(ds.length+1):=by omega
  rw[this];exact h
theorem pd{t:Nat→Tag}:∀{as bs:List SV} {us vs:List Value} {i:Nat},dq w G t i as us→dq w G t (i+as.length) bs vs→dq w G t i (as++bs) (us++vs)
 |_,_,_,_,i,.nil _,h=>by simpa using h
 |_,_,_,_,i,.cons _ c v as vs h1 h2,h=>by
  refine .cons i c v _ _ h1 (pd h2 ?_)
  simp only[lC]at h
  have:i+1+as.length=i+(as.length+1):=by omega
  rw[this];exact h
theorem kT{f:FuncId}(he:Enters P f)(args:Array Value):(callFunc f args).run P w= .ok (.enter f args) w:=by
 obtain⟨fn,code,h1,h2,h3⟩:=he
 have h3':¬ (fn.name= "runtime.NumGoroutine"):=by simpa using h3
 simp[callFunc,Sem.run_bind,run_program,h1,h2,h3']
theorem oa(h:Rel w G s a){x:Operand}{g:FuncId}{fs cs:List au}(hc:callee s x=some (g,fs,cs)):
  ∃us vs,a.eval x= .func (.func g) us vs∧cn w G fs us.toList∧cn w G cs vs.toList:=by
 have ho:=h.opv x
 unfold callee at hc
 split at hc
 ·simp only[sJ,pJ]at hc
  obtain⟨rfl,rfl,rfl⟩:=hc
  exact⟨#[],#[],rfl,.nil,.nil⟩
 ·split at hc
  ·rename_i he
   simp only[sJ,pJ]at hc
   obtain⟨rfl,rfl,rfl⟩:=hc
   rw[he]at ho
   have ho':cU w G (.fn _ _ _) (a.eval x):=ho
   generalize hu:a.eval x=u at ho'
   cases ho' with
   |fn _ _ _ us vs h1 h2=>exact⟨us,vs,rfl,h1,h2⟩
  ·cases hc
def Left(w:World)(G:Gh)(a:Act)(K:St→Prop)(a':Act)(w':World):Prop:=
 ∃s' G',K s'∧Rel w' G' s' a'∧Kept w G w' G'∧a'.tmps.size=a.tmps.size∧a'.defers=a.defers
theorem jp(a:Act)(d:Option Nat)(v:Value):(a.put d v).tmps.size=a.tmps.size:=by cases d <;> simp[Act.put]
theorem put_defers(a:Act)(d:Option Nat)(v:Value):(a.put d v).defers=a.defers:=by cases d <;> rfl
theorem Rel.putO(h:Rel w G s a){d:Option Nat}{x:Value}(hv:ez w G s a .ret sv x)(hd:∀i,d=some i→i < a.tmps.size):∃G',Rel w G' (s.put d sv) (a.put d x)∧Kept w G w G':=by
 cases d with
 |none=>exact⟨G,h,Kept.refl w G⟩
 |some i=>exact⟨_,h.put hv (hd i rfl),nm w G (by decide) (by decide)⟩
def Gh.lend(G:Gh):Gh:=⟨G.P,fun b=>match G.g b with|.imm=>.imm|.slot _=>.imm|.cell _ _=>.imm|_=>.other,G.ι,G.n⟩
theorem tJ(w:World)(G:Gh):uw w G w G.lend where
 g b hb _:=⟨by simp only[Gh.lend,hb],rfl⟩
 size:=nR _
 n:=nR _
 ι _ _:=rfl
 P:=rfl
theorem anu(G:Gh)(b:Nat):G.lend.g b= .imm∨G.lend.g b= .other:=by
 simp only[Gh.lend]
 cases G.g b <;> simp
theorem cp.lent{t:Tag}{k:Nat}{xs:List au}{v:Value}(h:cp w G t k xs v)(ht:(∃i,t= .slot i)∨∃l i,t= .cell l i):cU w G.lend (.sl xs) v:=by
 rcases h with⟨rfl,a,rfl⟩|⟨b,cap,arr,rfl,h2,h3,h4,h5,h6,h7,h8⟩
 ·exact .nilsl a 0
 ·by_cases hx:xs=[]
  ·subst hx;exact .nilsl _ _
  ·refine .sl xs _ cap (G.P.cellsOf k) (arr.toList.take (xs.length*G.P.cellsOf k)) hx h5 ?_ (Array.getElem?_eq_some_iff.1 h3).1 rfl h7 (h8.mono (tJ w G)) (fun i v hv=>?_)
   ·simp only[Gh.lend,h2]
    rcases ht with⟨i,rfl⟩|⟨l,i,rfl⟩ <;> rfl
   ·have hadd:(⟨b,0,none⟩:Addr).add i=⟨b,i,none⟩:=by unfold Addr.add;split <;> simp_all
    rw[hadd]
    unfold World.cell?
    rw[h3]
    rw[List.getElem?_take]at hv
    split at hv
    ·simpa using hv
    ·cases hv
theorem agA(h:Rel w G s a){x:Operand}{d:au}(hd:nw s x=some d):cU w G.lend d (a.eval x):=by
 have ho:=h.opv x
 unfold nw at hd
 split at hd
 ·rename_i d' he
  injection hd with hd;subst hd
  rw[he]at ho
  exact cU.mono (tJ w G) ho
 ·rename_i he
  injection hd with hd;subst hd
  rw[he]at ho
  obtain⟨b,hb⟩:=ho
  rw[hb];exact .nilsl b 0
 ·rename_i k xs he
  injection hd with hd;subst hd
  obtain⟨t,rfl⟩:=il he (fun v=>jB v k xs) (fun f e=>by cases e) (fun e=>by cases e)
  rw[he]at ho
  exact cp.lent ho (.inl ⟨t,rfl⟩)
 ·rename_i r he
  rw[he]at ho
  simp only[ae,sJ]at hd
  obtain⟨p,hp,rfl⟩:=hd
  obtain⟨v,hv,hrow⟩:=h.row (k:=p.1) (xs:=p.2) hp
  obtain⟨_,hv'⟩:=ho
  rw[cJ hv' hv]
  exact hrow.lent (by cases r with
   |slot i=>exact .inl ⟨i,rfl⟩
   |cell l i=>exact .inr ⟨l,i,rfl⟩)
 ·cases hd
theorem tQ(h:Rel w G s a){t:Nat→Tag}:∀{xs:List Operand} {ds:List au} {i:Nat},nh s xs=some ds→dq w G.lend t i (jI ds) (xs.map a.eval)
 | [],ds,i,hd=>by
  simp only[nh,sJ]at hd
  subst hd;exact .nil i
 |x::xs,ds,i,hd=>by
  simp only[nh,ae,sJ]at hd
  obtain⟨d,hx,ds',hxs,rfl⟩:=hd
  exact .cons i (.val d) _ _ _ (agA h hx) (tQ h hxs)
theorem dD.scalars{w':World}{G' G2:Gh}:∀{os:List SV} {vs:List Value},dD w' G' os vs→os.all scalar=true→dD w' G2 os vs
 |_,_,.nil,_=>.nil
 |_,_,.cons c v os vs h1 h2,h=>by
  rw[List.all_cons,bA]at h
  refine .cons c v os vs ?_ (h2.scalars h.2)
  cases c with
  |val d=>
   cases d with
   |int k n=>cases (show cU _ _ _ _ from h1);exact .int k n
   |bool b=>cases (show cU _ _ _ _ from h1);exact .bool b
   |str b=>cases (show cU _ _ _ _ from h1);exact .str b
   |_=>exact absurd h.1 (by simp[scalar])
  |_=>exact absurd h.1 (by simp[scalar])
def Gh.hide(G:Gh):Gh:=⟨G.P,fun b=>match G.g b with|.imm=>.imm|_=>.other,G.ι,G.n⟩
theorem zn(w:World)(G:Gh):uw w G w G.hide where
 g b hb _:=⟨by simp only[Gh.hide,hb],rfl⟩
 size:=nR _
 n:=nR _
 ι _ _:=rfl
 P:=rfl
theorem aeU(G:Gh)(b:Nat):(G.hide.g b= .imm∧G.g b= .imm)∨G.hide.g b= .other:=by
 simp only[Gh.hide]
 cases G.g b <;> simp
theorem vN(h:Rel w G s a){t:Nat→Tag}:∀{xs:List Operand} {ds:List au} {i:Nat},nh s xs=some ds→xs.all (tx s)=true→dq w G.hide t i (jI ds) (xs.map a.eval)
 | [],ds,i,hd,_=>by
  simp only[nh,sJ]at hd
  subst hd;exact .nil i
 |x::xs,ds,i,hd,hb=>by
  simp only[nh,ae,sJ]at hd
  obtain⟨d,hx,ds',hxs,rfl⟩:=hd
  rw[List.all_cons,bA]at hb
  refine .cons i (.val d) _ _ _ ?_ (vN h hxs hb.2)
  have ho:=h.opv x
  have hb1:=hb.1
  unfold tx at hb1
  unfold nw at hx
  split at hx
  ·rename_i d' he
   injection hx with hx;subst hx
   rw[he]at ho
   exact cU.mono (zn w G) ho
  ·rename_i he
   injection hx with hx;subst hx
   rw[he]at ho
   obtain⟨b,hb⟩:=ho
   rw[hb];exact .nilsl b 0
  ·rename_i he;rw[he]at hb1;cases hb1
  ·rename_i he;rw[he]at hb1;cases hb1
  ·cases hx
theorem ahg{C:Ctx}{R:dm}(hR:∀f as h Q,R f as h Q→fk P f as h Q)(hP:G.P=P)(h:Rel w G s a){f:Operand}{args:Array Operand}{ts:Array TypeId}(hop:o.op= .call ⟨.value f,args,ts⟩)
  (hd:∀i,o.dst=some i→i < a.tmps.size) {K:St→Prop} (hs:aeW C R s o.dst f args.toList K) (next:Act→World→Prop) (hn:∀a' w',Left w G a K a' w'→next a' w') (Q:Exit→Act→World→Prop):o.wp P a w next Q:=by
 obtain⟨g,fs,cs,ds,b,h1,h2,hb,h3⟩:=hs
 obtain⟨us,vs,hf,hfs,hcs⟩:=oa h h1
 obtain⟨hent,hcall⟩:=hR _ _ _ _ h3
 have harr:us++Array.map a.eval args++vs=(us.toList++args.toList.map a.eval++vs.toList).toArray:=by
  apply Array.ext';simp
 have two:∀(G0:Gh),uw w G w G0→G0.P=P→G0.n=G.n→(∀b,G.g b= .other→G0.g b= .other)→dq w G0 .slot (0+fs.length) (jI ds) (args.toList.map a.eval)→
   (∀e w',(∃us out h' G',e=Ending.returned (pP us)∧(∃v,packed out=some v∧((b=true→out.all scalar=true)∧(b=false→h'=s.box.shut))∧K (s.put o.dst v))∧dD w' G' out us∧nj w' G' h'∧(∀b,w'.heap.size≤b→G'.g b= .other)∧Kept w G0 w' G')→∃x,e=Ending.returned x∧next (a.put o.dst x) w')→o.wp P a w next Q:=by
  intro G0 M hP0 hn0 hf0 hargs hfin
  have hall:dq w G0 .slot 0 (jI fs++jI ds++jI cs) (us.toList++args.toList.map a.eval++vs.toList):=by
   refine pd (ny (hfs.mono M) hargs) ?_
   have:=ny (t:=Tag.slot) (i:=0+(jI fs++jI ds).length) (as:=[]) (us:=[]) (hcs.mono M) (.nil _)
   simpa using this
  have hin:=hcall w G0 (us.toList++args.toList.map a.eval++vs.toList) hP0 hall ⟨hn0.trans h.heap.n,fun l o ho=>by cases ho⟩ (fun b hb=>hf0 b (h.fresh b hb))
  unfold Oper.wp execOp
  simp only[hop,resolve,hf,Deferred.ofValue,invoke,Sem.run_bind,Sem.run_pure,Result.andThen_ok,harr,kT hent,Oper.upon]
  refine Calls.mono hin fun e w' he=>?_
  obtain⟨x,rfl,hx⟩:=hfin e w' he
  exact hx
 cases b with
 |true=>
  refine two G.lend (tJ w G) hP rfl (fun b hb=>by simp only[Gh.lend,hb]) (tQ h h2) fun e w' ⟨ous,out,h',G',he,⟨v,hv,hsc,hK⟩,ho,hh,hfr,hk⟩=>?_
  have hgr:jb w G w' G:={
   os:=hk.os
   tape:=hk.tape
   output:=hk.output
   size:=hk.size
   heap:=fun b hb=>by
    rcases anu G b with e|e
    ·exact(hk.imm b e hb).2
    ·exact(hk.other b e hb).2
   g:=fun _ _=>rfl
   fresh:=fun b hb=>h.fresh b (Nat.le_trans hk.size hb)
   n:=nR _
   ι:=fun _ _=>rfl
   P:=rfl }
  have hrel:=hgr.rel rfl h
  obtain⟨G2,g1,g2⟩:=hrel.putO (lJ (s:=s) (a:=a) hv (ho.scalars (hsc.1 rfl))) hd
  exact⟨_,he,hn _ _ ⟨_,G2,hK,g1,hgr.kept.trans g2,jp _ _ _,put_defers _ _ _⟩⟩
 |false=>
  refine two G.hide (zn w G) hP rfl (fun b hb=>by simp only[Gh.hide,hb]) (vN h h2 (hb rfl)) fun e w' ⟨ous,out,h',G',he,⟨v,hv,hsc,hK⟩,ho,hh,hfr,hk⟩=>?_
  have e1:=hsc.2 rfl
  have hn1:G'.n=G.n:=by rw[hh.n,e1];exact h.heap.n.symm
  have hgr:jb w G w' ⟨G.P,fun b=>if b < w.heap.size then G.g b else G'.g b,G'.ι,G.n⟩:={
   os:=hk.os
   tape:=hk.tape
   output:=hk.output
   size:=hk.size
   heap:=fun b hb=>by
    rcases aeU G b with⟨e,_⟩|e
    ·exact(hk.imm b e hb).2
    ·exact(hk.other b e hb).2
   g:=fun b hb=>by simp only;rw[if_pos hb]
   fresh:=fun b hb=>by
    simp only
    rw[if_neg (by have:=hk.size;omega)]
    exact hfr b hb
   n:=nR _
   ι:=fun l hl=>hk.ι l hl
   P:=rfl }
  have old:∀b,b < w.heap.size→(G'.g b= .imm∧G.g b= .imm)∨G'.g b= .other:=fun b hb=>by
   rcases aeU G b with⟨e,e2⟩|e
   ·exact .inl ⟨(hk.imm b e hb).1,e2⟩
   ·exact .inr (hk.other b e hb).1
  have M1:uw w' G' w' ⟨G.P,fun b=>if b < w.heap.size then G.g b else G'.g b,G'.ι,G.n⟩:={
   g:=fun b hb _=>⟨by
    simp only
    split
    ·rename_i hlt
     rcases old b hlt with⟨_,e⟩|e
     ·exact e
     ·rw[hb]at e;cases e
    ·exact hb,rfl⟩
   size:=nR _
   n:=by show G'.n≤G.n;omega
   ι:=fun _ _=>rfl
   P:=hk.P.symm }
  have outs:∀{os:List SV} {vs:List Value},dD w' G' os vs→dD w' ⟨G.P,fun b=>if b < w.heap.size then G.g b else G'.g b,G'.ι,G.n⟩ os vs:=by
   intro os vs ho
   induction ho with
   |nil=>exact .nil
   |cons c v os vs h1 h2 ih=>
    refine .cons c v os vs (h1.tags M1 fun b hb=>?_) ih
    simp only
    rw[if_neg fun hlt=>by
     rcases old b hlt with⟨e,_⟩|e
     ·rw[hb]at e;cases e
     ·rw[hb]at e;cases e]
    exact hb
  have hrel:=hgr.rel rfl h
  obtain⟨G2,g1,g2⟩:=hrel.putO (lJ (s:=s) (a:=a) hv (outs ho)) hd
  exact⟨_,he,hn _ _ ⟨_,G2,hK,g1,hgr.kept.trans g2,jp _ _ _,put_defers _ _ _⟩⟩
structure fF(C:Ctx):Prop where
 hand:∀f a h o h',C.hand f a h o h'→fk C.P f a h fun o1 h1=>o1=o∧h1=h'
 look:∀g ds h out,C.look g ds h out→Enters C.P g∧∀(w:World) (G:Gh) (vs:List Value),G.P=C.P→dq w G.lend .slot 0 (jI ds) vs→nj w G h→
  Calls C.P g vs.toArray w fun e w'=>∃us,e= .returned (pP us)∧dD w' G out us∧w'.os=w.os∧w'.tape=w.tape∧w'.output=w.output∧w.heap.size≤w'.heap.size∧∀b,b < w.heap.size→w'.heap[b]? =w.heap[b]?
 ext:∀g ds k zs ys,C.ext g ds k zs=some ys→Enters C.P g∧
 ∀(w:World) (G:Gh) (t:Tag) (v:Value) (vs:List Value),G.P=C.P→cp w G t k zs v→cn w G ds vs→
  Calls C.P g (v::vs).toArray w fun e w'=>e= .returned (.tuple #[])∧w'.os=w.os∧w'.tape=w.tape∧w'.output=w.output∧w.heap.size≤w'.heap.size∧
   ((zs=[]∧ys=[]∧∀b,b < w.heap.size→w'.heap[b]? =w.heap[b]?)∨
    zs≠[]∧∃b cap arr arr',v= .slice (some ⟨b,0,none⟩) zs.length cap∧w.heap[b]? =some (.cells arr k (0,0))∧w'.heap[b]? =some (.cells arr' k (0,0))∧arr'.size=arr.size∧ys.length=zs.length∧
     (∀y∈ys,y.cells.length=C.P.cellsOf k)∧cn w G (bx ys) (arr'.toList.take (ys.length*C.P.cellsOf k))∧∀b',b' < w.heap.size→b'≠b→w'.heap[b']? =w.heap[b']?)
theorem rP(h:Rel w G s a):∀{xs:List Operand} {ds:List au},optVals s xs=some ds→ds.all au.one=true→cn w G ds (xs.map a.eval)
 | [],ds,hd,_=>by
  simp only[optVals,sJ]at hd
  subst hd;exact .nil
 |x::xs,ds,hd,h1=>by
  simp only[optVals,ae,sJ]at hd
  obtain⟨d,hx,ds',hxs,rfl⟩:=hd
  simp only[List.all_cons,bA]at h1
  exact .cons d _ _ _ h1.1 (h.optVal hx) (rP h hxs h1.2)
theorem air(h:Rel w G s a){x:Operand}{r:fb}{k:Nat}{zs:List au}(hx:rootOf s x=some r)(hr:s.rowAt r=some (k,zs)):dn w G a r (a.eval x)∧cp w G (eC r) k zs (a.eval x):=by
 have ho:=h.opv x
 obtain⟨v,hv,hrow⟩:=h.row hr
 unfold rootOf at hx
 split at hx
 ·rename_i k' xs' he
  injection hx with hx;subst hx
  obtain⟨t,rfl⟩:=il he (fun v=>jB v k' xs') (fun f e=>by cases e) (fun e=>by cases e)
  have hv':dn w G a (.slot t) (a.eval (.tmp t)):=rfl
  rw[cJ (r:=.slot t) hv' hv]
  exact⟨hv,hrow⟩
 ·rename_i r' he
  injection hx with hx;subst hx
  rw[he]at ho
  obtain⟨_,hv'⟩:=ho
  rw[cJ hv' hv]
  exact⟨hv,hrow⟩
 ·cases hx
theorem afy(h:Rel w G s a){r:fb}{k:Nat}(hr:s.rowAt r=some (k,[])):Rel w G (s.eff (.setRow r k [])) a:=by
 cases r with
 |slot i=>
  refine h.congr rfl fun j=>?_
  rw[iK]
  split
  ·rename_i e;subst e
   simp only[St.rowAt]at hr
   split at hr
   ·rename_i k' xs' he;injection hr with hr;injection hr with h1 h2;subst h1;subst h2;rw[he]
   ·cases hr
  ·rfl
 |cell l i=>
  have hb:(s.eff (.setRow (.cell l i) k [])).box=s.box:=by
   simp only[St.rowAt]at hr
   split at hr
   ·rename_i k' xs' hcc
    injection hr with hr;injection hr with h1 h2;subst h1;subst h2
    obtain⟨cs',hcs',hj⟩:=gj hcc (by simp)
    simp only[St.eff,St.setRoot,bn.setCell,hcs']
    have hset:cs'.set i (.row k' [])=cs':=by
     apply List.ext_getElem?
     intro n
     rw[List.getElem?_set]
     split
     ·rename_i e;subst e
      split
      ·exact hj.symm
      ·rename_i hlt
       rw[gN (by omega)]
     ·rfl
    rw[hset]
    have:s.box.upd l (.cells cs')=s.box:=by
     cases hbx:s.box with
     |mk n at_=>
      simp only[bn.upd,bn.mk.injEq,true_and]
      funext m
      split
      ·rename_i e;subst e;rw[hbx]at hcs';exact hcs'.symm
      ·rfl
    exact this
   ·cases hr
  exact h.congr hb fun j=>rfl
theorem alk{C:Ctx}(hX:fF C)(hP:G.P=C.P)(h:Rel w G s a){f:Operand}{args:Array Operand}{ts:Array TypeId}(hop:o.op= .call ⟨.value f,args,ts⟩)
  (hd:∀i,o.dst=some i→i < a.tmps.size) {K:St→Prop} (hs:akL C s o.dst f args.toList K) (next:Act→World→Prop) (hn:∀a' w',Left w G a K a' w'→next a' w') (Q:Exit→Act→World→Prop):o.wp C.P a w next Q:=by
 obtain⟨g,x,xs,r,k,zs,ds,ys,h1,h2,h3,h4,h5,h6,h7,hK⟩:=hs
 obtain⟨us,vs,hf,hfs,hcs⟩:=oa h h1
 obtain⟨hent,hcall⟩:=hX.ext _ _ _ _ _ h7
 obtain⟨hv,hrow⟩:=air h h3 h4
 have hin:=hcall w G (eC r) (a.eval x) (xs.map a.eval) hP hrow (rP h h5 h6)
 have hu:us= #[]:=by
  cases hu:us.toList with
  |nil=>exact Array.toList_inj.1 hu
  |cons u l=>rw[hu]at hfs;cases hfs
 have hv0:vs= #[]:=by
  cases hu:vs.toList with
  |nil=>exact Array.toList_inj.1 hu
  |cons u l=>rw[hu]at hcs;cases hcs
 subst hu;subst hv0
 unfold Oper.wp execOp
 have harr:#[]++Array.map a.eval args++ #[]=(a.eval x::xs.map a.eval).toArray:=by
  apply Array.ext'
  simp[h2]
 simp only[hop,resolve,hf,Deferred.ofValue,invoke,Sem.run_bind,Sem.run_pure,Result.andThen_ok,harr,kT hent,Oper.upon]
 refine Calls.mono hin fun e w' ⟨he,g1,g2,g3,g4,g5⟩=>?_
 subst he
 have fin:Rel w' G (s.eff (.setRow r k ys)) a→Kept w G w' G→next (a.put o.dst (.tuple #[])) w':=fun hrel hkept=>by
  obtain⟨G2,k1,k2⟩:=hrel.putO (sv:=.undef) (lJ (os:=[]) (s:=s.eff (.setRow r k ys)) (a:=a) rfl .nil) hd
  exact hn _ _ ⟨_,G2,hK,k1,hkept.trans k2,jp _ _ _,put_defers _ _ _⟩
 rcases g5 with⟨rfl,rfl,hh⟩|⟨hne,b,cap,arr,arr',e1,e2,e3,e4,e5,e6,e7,e8⟩
 ·have hgr:jb w G w' G:=⟨g1,g2,g3,g4,hh,fun _ _=>rfl,fun b hb=>h.fresh b (Nat.le_trans g4 hb),nR _,fun _ _=>rfl,rfl⟩
  exact fin (afy (hgr.rel rfl h) h4) hgr.kept
 ·have hb:G.g b=eC r∧arr.size=cap*G.P.cellsOf k∧zs.length≤cap∧cap≤maxLen∨zs=[]:=by
   rcases hrow with⟨hz,_⟩|⟨b1,c1,arr1,q1,q2,q3,q4,q5,q6,_⟩
   ·exact .inr hz
   ·rw[e1]at q1
    cases q1
    rw[e2]at q3
    cases q3
    exact .inl ⟨q2,q4,q5,q6⟩
  have hbl:=im e2
  rcases hb with⟨hb,hsz,hl1,hl2⟩|hz
  ·have hown:G.g b≠ .imm∧G.g b≠ .other:=by rw[hb];cases r <;> exact⟨(by intro e;cases e),(by intro e;cases e)⟩
   have W:om w G b { w with heap:=w.heap.setIfInBounds b (.cells arr' k (0,0)) } G:=⟨rfl,rfl,rfl,by simp,fun j hj=>by simp[Array.getElem?_setIfInBounds,Ne.symm hj],hown,fun _ _=>rfl,rfl,fun _=>rfl,rfl⟩
   have hrow':cp { w with heap:=w.heap.setIfInBounds b (.cells arr' k (0,0)) } G (eC r) k ys (.slice (some ⟨b,0,none⟩) zs.length cap):=by
    refine .inr ⟨b,cap,arr',by rw[e5],hb,by simp[Array.getElem?_setIfInBounds,hbl],by rw[e4];exact hsz,by rw[e5];exact hl1,hl2,by rw[hP];exact e6,?_⟩
    rw[hP]
    exact e7.mono W.kept.mono
   rw[e1]at hv
   have hrel:=h.setRow h4 hv hb W hrow'
   have hgr:jb { w with heap:=w.heap.setIfInBounds b (.cells arr' k (0,0)) } G w' G:=by
    refine⟨g1,g2,g3,by simpa using g4,fun j hj=>?_,fun _ _=>rfl,fun j hj=>h.fresh j (Nat.le_trans g4 hj),nR _,fun _ _=>rfl,rfl⟩
    have hj':j < w.heap.size:=by simpa using hj
    by_cases e:j=b
    ·subst e;simp[Array.getElem?_setIfInBounds,hbl,e3]
    ·rw[e8 j hj' e];simp[Array.getElem?_setIfInBounds,Ne.symm e]
   exact fin (hgr.rel rfl hrel) (W.kept.trans hgr.kept)
  ·exact absurd hz hne
theorem ahY{C:Ctx}(hX:fF C)(hP:G.P=C.P)(h:Rel w G s a){f:Operand}{args:Array Operand}{ts:Array TypeId}(hop:o.op= .call ⟨.value f,args,ts⟩)
  (hd:∀i,o.dst=some i→i < a.tmps.size) {K:St→Prop} (hs:aes C s o.dst f args.toList K) (next:Act→World→Prop) (hn:∀a' w',Left w G a K a' w'→next a' w') (Q:Exit→Act→World→Prop):o.wp C.P a w next Q:=by
 obtain⟨g,ds,out,v,h1,h2,h3,hsc,hv,hK⟩:=hs
 obtain⟨us,vs,hf,hfs,hcs⟩:=oa h h1
 obtain⟨hent,hcall⟩:=hX.look _ _ _ _ h3
 have hargs:dq w G.lend .slot 0 (jI ds) (args.toList.map a.eval):=tQ h h2
 have hin:=hcall w G (args.toList.map a.eval) hP hargs h.heap
 have hu:us= #[]:=by
  cases hu:us.toList with
  |nil=>exact Array.toList_inj.1 hu
  |cons u l=>rw[hu]at hfs;cases hfs
 have hv0:vs= #[]:=by
  cases hu:vs.toList with
  |nil=>exact Array.toList_inj.1 hu
  |cons u l=>rw[hu]at hcs;cases hcs
 subst hu;subst hv0
 unfold Oper.wp execOp
 have harr:#[]++Array.map a.eval args++ #[]=(args.toList.map a.eval).toArray:=by
  apply Array.ext';simp
 simp only[hop,resolve,hf,Deferred.ofValue,invoke,Sem.run_bind,Sem.run_pure,Result.andThen_ok,harr,kT hent,Oper.upon]
 refine Calls.mono hin fun e w' ⟨ous,he,ho,g1,g2,g3,g4,g5⟩=>?_
 subst he
 have hgr:jb w G w' G:=⟨g1,g2,g3,g4,g5,fun _ _=>rfl,fun b hb=>h.fresh b (Nat.le_trans g4 hb),nR _,fun _ _=>rfl,rfl⟩
 have hrel:=hgr.rel rfl h
 obtain⟨G2,k1,k2⟩:=hrel.putO (lJ (s:=s) (a:=a) hv (ho.scalars hsc)) hd
 exact hn _ _ ⟨_,G2,hK,k1,hgr.kept.trans k2,jp _ _ _,put_defers _ _ _⟩
theorem ahA{C:Ctx}{R:dm}(hX:fF C)(hR:∀f as h Q,R f as h Q→fk C.P f as h Q)(hP:G.P=C.P)(h:Rel w G s a){f:Operand}{args:Array Operand}{ts:Array TypeId}(hop:o.op= .call ⟨.value f,args,ts⟩)
  (hd:∀i,o.dst=some i→i < a.tmps.size) {K:St→Prop} (hs:wQ C R s o.dst f args.toList K) (next:Act→World→Prop) (hn:∀a' w',Left w G a K a' w'→next a' w') (Q:Exit→Act→World→Prop):o.wp C.P a w next Q:=by
 rcases hs with((hs|hs)|hs)|⟨g,fs,cs,as,es,h1,h2,h3⟩
 ·exact ahg hR hP h hop hd hs next hn Q
 ·exact ahY hX hP h hop hd hs next hn Q
 ·exact alk hX hP h hop hd hs next hn Q
 obtain⟨us,vs,hf,hfs,hcs⟩:=oa h h1
 obtain⟨G1,hw,hargs,_⟩:=va h h2
 obtain⟨hent,hcall⟩:=hR _ _ _ _ (h3 hw.rel.heap.wf)
 have M:=hw.kept.mono
 have hl:as.length=(args.toList.map a.eval).length:=by
  have:∀{t:Nat→Tag} {i:Nat} {as:List SV} {vs:List Value},dq w G1 t i as vs→as.length=vs.length:=by
   intro t i as vs h
   induction h with
   |nil=>rfl
   |cons _ _ _ _ _ _ _ ih=>simp[ih]
  exact this hargs
 have hall:dq w G1 .arg 0 (jI fs++as++jI cs) (us.toList++args.toList.map a.eval++vs.toList):=by
  refine pd (ny (hfs.mono M) (by rw[Nat.zero_add];exact hargs)) ?_
  have:=ny (t:=Tag.arg) (i:=0+(jI fs++as).length) (as:=[]) (us:=[]) (hcs.mono M) (.nil _)
  simpa using this
 have hin:=hcall w G1.call (us.toList++args.toList.map a.eval++vs.toList) (by show G1.P=C.P;rw[hw.kept.P];exact hP) (hall.tags (zS w G1) (fun i b hb=>by simp only[Gh.call,hb]))
  (hw.rel.heap.tags (zS w G1) rfl (fun _=>rfl) (fun b l hb=>by simp only[Gh.call,hb]) (fun b l i hb=>by simp only[Gh.call,hb])) (fun b hb=>by simp only[Gh.call,hw.rel.fresh b hb])
 unfold Oper.wp execOp
 have harr:us++Array.map a.eval args++vs=(us.toList++args.toList.map a.eval++vs.toList).toArray:=by
  apply Array.ext';simp
 simp only[hop,resolve,hf,Deferred.ofValue,invoke,Sem.run_bind,Sem.run_pure,Result.andThen_ok,harr,kT hent,Oper.upon]
 refine Calls.mono hin fun e w' ⟨ous,out,h',G',he,hQ,ho,hh,hfr,hk⟩=>?_
 subst he
 obtain⟨v,hv,hK⟩:=hQ
 have hrel:=hw.rel.after hk hh hfr
 have hkb:=zI hk
 obtain⟨G2,g1,g2⟩:=hrel.putO (lJ (s:=⟨dy SV.uncell (s.effs es).slots,h'⟩) (a:=a) hv (ho.back hk)) hd
 exact hn _ _ ⟨_,G2,hK,g1,(hw.kept.trans hkb).trans g2,jp _ _ _,put_defers _ _ _⟩
theorem zZ{d:Nat}{t:TypeId}{e:TypeId}{ad:Option Addr}{n cap:Nat}(ht:P.underlying t=some (.slice e)):(Op.equalIn (d+1) t (.slice ad n cap) (.slice none 0 0)).run P w= .ok ad.isNone w:=by
 cases ad <;> simp[Op.equalIn,Sem.run_bind,run_underlying ht]
theorem pD{t:TypeId}{e:TypeId}{ad:Option Addr}{n cap:Nat}(ht:P.underlying t=some (.slice e)):(binOp .eql t (.slice ad n cap) (.slice none 0 0)).run P w= .ok (.bool ad.isNone) w:=by
 have h:(Op.equal t (.slice ad n cap) (.slice none 0 0)).run P w= .ok ad.isNone w:=by
  unfold Op.equal Op.maxDepth
  exact zZ ht
 simp only[binOp,Sem.run_bind,h,Result.andThen_ok,Sem.run_pure]
theorem aab(hP:G.P=P)(h:Rel w G s a)(hd:∀i,o.dst=some i→i < a.tmps.size){K:St→Prop}(hs:apP P s o K)(next:Act→World→Prop)(hn:∀a' w',Left w G a K a' w'→next a' w')(Q:Exit→Act→World→Prop):o.wp P a w next Q:=by
 obtain⟨t,x,ty,xs,e,hop,ht,hx,hK⟩:=hs
 have hv:=h.optVal hx
 have hg:(eqGuard .eql t x (.const (.slice none 0 0)) (a.eval x) (.slice none 0 0)).run P w= .ok () w:=jj (fun z e=>by rw[e]at hv;cases hv) (oY hv)
 have key:∃b,(xs≠[]→b=false)∧(do eqGuard .eql t x (.const (.slice none 0 0)) (a.eval x) (.slice none 0 0);binOp .eql t (a.eval x) (.slice none 0 0):Sem Value).run P w= .ok (.bool b) w:=by
  generalize a.eval x=v at hv hg
  cases hv with
  |nilsl ad cap=>
   refine⟨ad.isNone,fun h=>absurd rfl h,?_⟩
   rw[Sem.run_bind,hg]
   exact pD ht
  |sl _ ad cap k vs h1 h2 h3 h4 h5 h6 h7 h8=>
   refine⟨false,fun _=>rfl,?_⟩
   rw[Sem.run_bind,hg]
   exact pD ht
 obtain⟨b,hb,hrun⟩:=key
 obtain⟨G2,g1,g2⟩:=h.putO (sv:=.cv (.val (.bool b))) (x:=.bool b) (cU.bool b) hd
 have fin:=hn _ _ ⟨_,G2,hK b hb,g1,g2,jp _ _ _,put_defers _ _ _⟩
 have hex:(execOp a.eval o).run P w= .ok (.value (.bool b)) w:=by
  simp only[execOp,hop]
  have e:a.eval (.const (.slice none 0 0))= .slice none 0 0:=rfl
  rw[e,Sem.run_bind,hrun];rfl
 unfold Oper.wp
 rw[hex]
 exact fin
theorem vS{C:Ctx}{R:dm}(hX:fF C)(hR:∀f as h Q,R f as h Q→fk C.P f as h Q)(hP:G.P=C.P)(h:Rel w G s a)
  (hd:∀i,o.dst=some i→i < a.tmps.size) {K:St→Prop} (hs:kQ C R s o K) (next:Act→World→Prop) (hn:∀a' w',Left w G a K a' w'→next a' w') (Q:Exit→Act→World→Prop):o.wp C.P a w next Q:=by
 unfold kQ at hs
 split at hs
 ·rename_i f args ts hop
  exact ahA hX hR hP h hop hd hs next hn Q
 ·rcases hs with hs|⟨v,es,ho,hK⟩
  ·exact aab hP h hd hs next hn Q
  obtain⟨x,w',G',hrun,hk,hrel,hv⟩:=zY h hP ho
  obtain⟨G2,g1,g2⟩:=hrel.putO hv hd
  have fin:=hn _ _ ⟨_,G2,hK,g1,hk.trans g2,jp _ _ _,put_defers _ _ _⟩
  unfold Oper.wp
  rcases hrun with hrun|⟨hrun,rfl⟩
  ·rw[hrun];exact fin
  ·rw[hrun];exact fin
variable{P:Program}{o:Oper}{w:World}{G:Gh}{s t:St}{a:Act}{sv:SV}{es:List Eff}{M:Nat→Bool}
structure MEq(M:Nat→Bool)(s t:St):Prop where
 box:t.box=s.box
 get:∀i,M i=false→t.get i=s.get i
 dead:∀i,M i=true→dX (t.get i)=false
 root:∀i,(t.get i).rooted t
def free(M:Nat→Bool)(x:Operand):Prop:=∀i,x= .tmp i→M i=false
theorem MEq.opv(E:MEq M s t){x:Operand}(hx:free M x):t.opv x=s.opv x:=by
 cases x with
 |tmp i=>exact E.get i (hx i rfl)
 |_=>rfl
theorem MEq.rowSlot(E:MEq M s t){j:Nat}(h:dX (t.get j)=true):t.rowAt (.slot j)=s.rowAt (.slot j):=by
 have:M j=false:=by
  cases hm:M j with
  |false=>rfl
  |true=>rw[E.dead j hm]at h;cases h
 simp only[St.rowAt,E.get j this]
theorem MEq.rowCell(E:MEq M s t)(l i:Nat):t.rowAt (.cell l i)=s.rowAt (.cell l i):=by simp only[St.rowAt,E.box]
theorem MEq.row(E:MEq M s t){x:Operand}(hx:free M x){r:fb}(h:s.opv x= .alias r):t.rowAt r=s.rowAt r:=by
 cases r with
 |cell l i=>exact E.rowCell l i
 |slot j=>
  obtain⟨i,rfl⟩:=il h (fun v=>zN v _) (fun f e=>by cases e) (fun e=>by cases e)
  have hr:=E.root i
  have:t.get i= .alias (.slot j):=(E.get i (hx i rfl)).trans h
  rw[this]at hr
  exact E.rowSlot hr
theorem ar1(v:Value)(r:fb)(i o:Nat):lit v≠ .elt r i o:=by unfold lit;split <;> (intro e;cases e)
theorem MEq.rowE(E:MEq M s t){x:Operand}(hx:free M x){r:fb}{k off:Nat}(h:s.opv x= .elt r k off):t.rowAt r=s.rowAt r:=by
 cases r with
 |cell l i=>exact E.rowCell l i
 |slot j=>
  obtain⟨i,rfl⟩:=il h (fun v=>ar1 v _ _ _) (fun f e=>by cases e) (fun e=>by cases e)
  have hr:=E.root i
  have:t.get i= .elt (.slot j) k off:=(E.get i (hx i rfl)).trans h
  rw[this]at hr
  exact E.rowSlot hr
theorem MEq.list(E:MEq M s t){x:Operand}(hx:free M x):t.list (t.opv x)=s.list (s.opv x):=by
 rw[E.opv hx]
 unfold St.list
 split
 ·rfl
 ·rfl
 ·rfl
 ·rename_i r h;rw[E.row hx h]
 ·rfl
theorem MEq.asVal(E:MEq M s t){x:Operand}(hx:free M x):t.asVal x=s.asVal x:=by
 unfold St.asVal
 rw[E.opv hx]
 split
 all_goals first|rfl|(rename_i r h;rw[E.row hx h])
theorem MEq.asCells(E:MEq M s t){x:Operand}(hx:free M x):t.asCells x=s.asCells x:=by
 unfold St.asCells
 rw[E.opv hx]
 split
 all_goals first|rfl|(rename_i r h;rw[E.row hx h])
theorem MEq.asRow(E:MEq M s t){k:TypeId}{x:Operand}(hx:free M x):t.asRow k x=s.asRow k x:=by
 unfold St.asRow
 rw[E.opv hx]
 split
 all_goals first|rfl|(rename_i r h;rw[E.row hx h])
theorem MEq.asInt(E:MEq M s t){x:Operand}(hx:free M x):t.asInt x=s.asInt x:=by
 unfold St.asInt;rw[E.opv hx]
theorem MEq.optVal(E:MEq M s t){x:Operand}(hx:free M x):optVal t x=optVal s x:=by
 unfold Val.optVal;rw[E.opv hx]
theorem MEq.moveOp(E:MEq M s t){x:Operand}(hx:free M x):moveOp t x=moveOp s x:=by
 unfold Val.moveOp;rw[E.opv hx]
theorem MEq.assignOp(E:MEq M s t){x:Operand}(hx:free M x):assignOp t x=assignOp s x:=by
 unfold Val.assignOp
 rw[E.opv hx,E.moveOp hx]
 split
 all_goals first|rfl|(rename_i r h;rw[E.row hx h])
theorem MEq.loadOp(E:MEq M s t){ty:TypeId}{x:Operand}(hx:free M x):loadOp P t ty x=loadOp P s ty x:=by
 unfold Val.loadOp
 rw[E.opv hx,E.box]
 split
 ·rfl
 ·split
  ·rfl
  ·rfl
  ·rename_i r i off h;rw[E.rowE hx h]
  ·rfl
theorem MEq.storeOp(E:MEq M s t){ty:TypeId}{x y:Operand}(hx:free M x)(hy:free M y):storeOp P t ty x y=storeOp P s ty x y:=by
 unfold Val.storeOp
 rw[E.opv hx,E.box,E.asCells hy,E.asVal hy]
 split
 ·rfl
 ·split
  ·rfl
  ·rename_i r i off h;rw[E.rowE hx h]
  ·rfl
theorem MEq.indexAddrOp(E:MEq M s t){ty:TypeId}{x y:Operand}(hx:free M x)(hy:free M y):indexAddrOp P t ty x y=indexAddrOp P s ty x y:=by
 unfold Val.indexAddrOp
 rw[E.asInt hy,E.opv hx]
 congr 1
 funext p
 obtain⟨k,i⟩:=p
 simp only
 by_cases h0:i < 0
 ·rw[if_pos h0,if_pos h0]
 ·rw[if_neg h0,if_neg h0]
  split
  ·rename_i e he
   split
   ·rfl
   ·split
    all_goals first|rfl|(rename_i r h;rw[E.row hx h])
  ·rfl
  ·rfl
theorem MEq.fieldAddrOp(E:MEq M s t){ty:TypeId}{x:Operand}{f:Nat}(hx:free M x):fieldAddrOp P t ty x f=fieldAddrOp P s ty x f:=by
 unfold Val.fieldAddrOp;rw[E.opv hx]
theorem MEq.fieldOp(E:MEq M s t){ty:TypeId}{x:Operand}{f:Nat}(hx:free M x):fieldOp P t ty x f=fieldOp P s ty x f:=by
 unfold Val.fieldOp;rw[E.optVal hx]
theorem MEq.indexOp(E:MEq M s t){ty:TypeId}{x y:Operand}(hx:free M x)(hy:free M y):indexOp P t ty x y=indexOp P s ty x y:=by
 unfold Val.indexOp;rw[E.optVal hx,E.asInt hy]
theorem MEq.boundOf(E:MEq M s t){len d:Nat}{x:Option Operand}(hx:∀y,x=some y→free M y):boundOf t len d x=boundOf s len d x:=by
 cases x with
 |none=>rfl
 |some y=>simp only[Val.boundOf];rw[E.asInt (hx y rfl)]
theorem MEq.sliceOp(E:MEq M s t){ty:TypeId}{x:Operand}{lo hi mx:Option Operand}(hx:free M x)(hl:∀y,lo=some y→free M y)(hh:∀y,hi=some y→free M y)(hm:∀y,mx=some y→free M y):
  sliceOp P t ty x lo hi mx=sliceOp P s ty x lo hi mx:=by
 have b1:∀n d,Val.boundOf t n d lo=Val.boundOf s n d lo:=fun n d=>E.boundOf hl
 have b2:∀n d,Val.boundOf t n d hi=Val.boundOf s n d hi:=fun n d=>E.boundOf hh
 cases mx with
 |none=>
  unfold Val.sliceOp
  simp only[E.optVal hx,E.asVal hx,b1,b2]
  cases P.underlying ty with
  |none=>rfl
  |some td=>cases td <;> rfl
 |some m=>
  unfold Val.sliceOp
  simp only[E.list hx,E.asInt (hm m rfl),b1,b2]
  cases P.underlying ty with
  |none=>rfl
  |some td=>
   cases td
   case slice e=>simp only[E.list hx,E.asInt (hm m rfl)]
   all_goals rfl
theorem MEq.lenOp(E:MEq M s t){ty:TypeId}{x:Operand}(hx:free M x):lenOp P t ty x=lenOp P s ty x:=by
 unfold Val.lenOp;simp only[E.optVal hx,E.list hx,E.box]
theorem MEq.appendOp(E:MEq M s t){ty ty':TypeId}{x y:Operand}(hx:free M x)(hy:free M y):appendOp P t ty ty' x y=appendOp P s ty ty' x y:=by
 unfold Val.appendOp;simp only[E.optVal hy,E.list hy,E.asRow hx,E.asInt hy]
theorem MEq.makeSliceOp(E:MEq M s t){ty:TypeId}{x y:Operand}(hx:free M x)(hy:free M y):makeSliceOp P t ty x y=makeSliceOp P s ty x y:=by
 unfold Val.makeSliceOp;simp only[E.asInt hx,E.asInt hy]
theorem MEq.convertOp(E:MEq M s t){ty ty':TypeId}{x:Operand}(hx:free M x):convertOp P t ty ty' x=convertOp P s ty ty' x:=by
 unfold Val.convertOp;simp only[E.optVal hx,E.list hx,E.asInt hx];rw[E.opv hx]
theorem MEq.extractOp(E:MEq M s t){x:Operand}{i:Nat}(hx:free M x):extractOp t x i=extractOp s x i:=by
 unfold Val.extractOp;rw[E.opv hx]
theorem MEq.mapAt(E:MEq M s t){kt:TypeId}(d:au):mapAt t kt d=mapAt s kt d:=by
 unfold Val.mapAt;rw[E.box]
theorem MEq.lookupOp(E:MEq M s t){ty:TypeId}{x y:Operand}{ok:Bool}(hx:free M x)(hy:free M y):lookupOp P t ty x y ok=lookupOp P s ty x y ok:=by
 unfold Val.lookupOp;simp only[E.optVal hx,E.optVal hy,E.mapAt]
theorem MEq.mapEntryOp(E:MEq M s t){ty:TypeId}{x y:Operand}(hx:free M x)(hy:free M y):mapEntryOp P t ty x y=mapEntryOp P s ty x y:=by
 unfold Val.mapEntryOp;simp only[E.optVal hx,E.optVal hy,E.mapAt]
theorem MEq.entryStoreOp(E:MEq M s t){x y z:Operand}(hx:free M x)(hy:free M y)(hz:free M z):entryStoreOp P t x y z=entryStoreOp P s x y z:=by
 unfold Val.entryStoreOp;simp only[E.optVal hx,E.asInt hy,E.asVal hz,E.box]
theorem MEq.mapUpdateOp(E:MEq M s t){ty:TypeId}{x y z:Operand}(hx:free M x)(hy:free M y)(hz:free M z):mapUpdateOp P t ty x y z=mapUpdateOp P s ty x y z:=by
 unfold Val.mapUpdateOp;simp only[E.optVal hx,E.optVal hy,E.asVal hz,E.mapAt]
theorem MEq.optVals(E:MEq M s t):∀{xs:List Operand},(∀x∈xs,free M x)→optVals t xs=optVals s xs
 | [],_=>rfl
 |x::xs,h=>by simp only[Val.optVals];rw[E.optVal (h x (by simp)),E.optVals (fun y hy=>h y (by simp[hy]))]
theorem MEq.asInts(E:MEq M s t):∀{xs:List Operand},(∀x∈xs,free M x)→asInts t xs=asInts s xs
 | [],_=>rfl
 |x::xs,h=>by simp only[Val.asInts];rw[E.asInt (h x (by simp)),E.asInts (fun y hy=>h y (by simp[hy]))]
theorem MEq.partCells(E:MEq M s t){x:Operand}(hx:free M x):partCells t x=partCells s x:=by
 unfold Val.partCells;simp only[E.opv hx,E.asVal hx]
theorem MEq.buildElems(E:MEq M s t){k:Nat}:∀{ps:List (Nat×Operand)} {j:Nat} {ds:List au},(∀p∈ps,free M p.2)→buildElems P s k j ps=some (ds,[])→buildElems P t k j ps=some (ds,[])
 | [],j,ds,_,h=>h
 |(i,x)::ps,j,ds,hf,h=>by
  simp only[Val.buildElems]at h ⊢
  split at h
  ·rename_i hij
   rw[if_pos hij,E.asVal (hf (i,x) (by simp))]
   simp only[ae]at h ⊢
   obtain⟨⟨d,e1⟩,hd,h⟩:=h
   refine⟨(d,e1),hd,?_⟩
   split at h
   ·rename_i hl
    rw[if_pos hl]
    simp only[ae,sJ,pJ,List.append_eq_nil_iff]at h ⊢
    obtain⟨⟨ds',e2⟩,hr,rfl,rfl,rfl⟩:=h
    exact⟨(ds',[]),E.buildElems (fun p hp=>hf p (by simp[hp])) hr,rfl,rfl,rfl⟩
   ·cases h
  ·cases h
theorem MEq.buildCells(E:MEq M s t){ty:TypeId}:∀{ps:List (Nat×Operand)} {cs rs:List CV},(∀p∈ps,free M p.2)→buildCells P s ty cs ps=some (rs,[])→buildCells P t ty cs ps=some (rs,[])
 | [],cs,rs,_,h=>h
 |(i,x)::ps,cs,rs,hf,h=>by
  simp only[Val.buildCells,ae]at h ⊢
  obtain⟨p,hp,⟨c,e1⟩,hc,h⟩:=h
  refine⟨p,hp,(c,e1),by rw[E.partCells (hf (i,x) (by simp))];exact hc,?_⟩
  split at h
  ·rename_i hl
   rw[if_pos hl]
   simp only[ae,sJ,pJ,List.append_eq_nil_iff]at h ⊢
   obtain⟨⟨rs',e2⟩,hr,rfl,rfl,rfl⟩:=h
   exact⟨(rs',[]),E.buildCells (fun p hp=>hf p (by simp[hp])) hr,rfl,rfl,rfl⟩
  ·cases h
theorem MEq.aop(E:MEq M s t)(hf:∀x∈o.op.operands.toList,free M x)(he:pass o=true→es=[])(ho:aop P s o=some (sv,es)):aop P t o=some (sv,es):=by
 have key:∀x,x∈o.op.operands.toList→free M x:=hf
 unfold Val.aop at ho ⊢
 split at ho
 case h_1 x hop=>
  try simp only[hop]at ho ⊢
  rw[E.moveOp (key x (by simp[hop,Op.operands]))];exact ho
 case h_2 x hop=>
  try simp only[hop]at ho ⊢
  rw[E.assignOp (key x (by simp[hop,Op.operands]))];exact ho
 case h_3 c x y hop=>
  try simp only[hop]at ho ⊢
  rw[E.opv (key c (by simp[hop,Op.operands])),E.moveOp (key x (by simp[hop,Op.operands])),E.moveOp (key y (by simp[hop,Op.operands]))];exact ho
 case h_4 op ty x hop=>
  try simp only[hop]at ho ⊢
  rw[E.optVal (key x (by simp[hop,Op.operands]))];exact ho
 case h_5 op ty x y ty' hop=>
  try simp only[hop]at ho ⊢
  rw[E.optVal (key x (by simp[hop,Op.operands])),E.optVal (key y (by simp[hop,Op.operands]))];exact ho
 case h_6 src dst x hop=>
  try simp only[hop]at ho ⊢
  rw[E.convertOp (key x (by simp[hop,Op.operands]))];exact ho
 case h_7 x i hop=>
  try simp only[hop]at ho ⊢
  rw[E.extractOp (key x (by simp[hop,Op.operands]))];exact ho
 case h_8 x hop=>
  try simp only[hop]at ho ⊢
  rw[E.opv (key x (by simp[hop,Op.operands]))];exact ho
 case h_9 ty x f hop=>
  try simp only[hop]at ho ⊢
  rw[E.fieldAddrOp (key x (by simp[hop,Op.operands]))];exact ho
 case h_10 ty x f hop=>
  try simp only[hop]at ho ⊢
  rw[E.fieldOp (key x (by simp[hop,Op.operands]))];exact ho
 case h_11 ty x i hop=>
  try simp only[hop]at ho ⊢
  rw[E.indexAddrOp (key x (by simp[hop,Op.operands])) (key i (by simp[hop,Op.operands]))];exact ho
 case h_12 ty x i hop=>
  try simp only[hop]at ho ⊢
  rw[E.indexOp (key x (by simp[hop,Op.operands])) (key i (by simp[hop,Op.operands]))];exact ho
 case h_13 ty x lo hi mx hop=>
  try simp only[hop]at ho ⊢
  rw[E.sliceOp (key x (by simp[hop,Op.operands])) (fun y hy=>key y (by simp[hop,Op.operands,hy])) (fun y hy=>key y (by simp[hop,Op.operands,hy])) (fun y hy=>key y (by simp[hop,Op.operands,hy]))];exact ho
 case h_14 ty x hop=>
  try simp only[hop]at ho ⊢
  rw[E.loadOp (key x (by simp[hop,Op.operands]))];exact ho
 case h_15 ty x y hop=>
  try simp only[hop]at ho ⊢
  rw[E.storeOp (key x (by simp[hop,Op.operands])) (key y (by simp[hop,Op.operands]))];exact ho
 case h_16 ty hop=>
  try simp only[hop]at ho ⊢
  rw[E.box];exact ho
 case h_17 ty x hop=>
  try simp only[hop]at ho ⊢
  rw[E.box,E.asCells (key x (by simp[hop,Op.operands]))];exact ho
 case h_18 ty ps hop=>
  have h0:=he (by simp[pass,hop])
  subst h0
  simp only[hop,ae]at ho ⊢
  obtain⟨z,hz,ho⟩:=ho
  refine⟨z,hz,?_⟩
  split at ho
  ·rename_i hc
   rw[if_pos hc]
   simp only[ae,sJ,pJ]at ho ⊢
   obtain⟨⟨r,e1⟩,hr,rfl,rfl⟩:=ho
   exact⟨(r,[]),E.buildCells (fun p hp=>key p.2 (by simp only[hop,Op.operands];simp only[List.mem_map];exact⟨p,hp,rfl⟩)) hr,rfl,rfl⟩
  ·cases ho
 case h_19 ty n ps hop=>
  have h0:=he (by simp[pass,hop])
  subst h0
  try simp only[hop]at ho ⊢
  split at ho
  ·simp only[ae]at ho ⊢
   obtain⟨⟨r,e1⟩,hr,ho⟩:=ho
   split at ho
   ·rename_i hc
    simp only[sJ,pJ]at ho
    obtain⟨rfl,rfl⟩:=ho
    exact⟨(r,[]),E.buildElems (fun p hp=>key p.2 (by simp only[hop,Op.operands];simp only[List.mem_map];exact⟨p,hp,rfl⟩)) hr,by rw[if_pos hc]⟩
   ·cases ho
  ·cases ho
 case h_20 ty n m hop=>
  try simp only[hop]at ho ⊢
  rw[E.makeSliceOp (key n (by simp[hop,Op.operands])) (key m (by simp[hop,Op.operands]))];exact ho
 case h_21 ty hop=>
  try simp only[hop]at ho ⊢
  rw[E.box];exact ho
 case h_22 f first caps hop=>
  try simp only[hop]at ho ⊢
  rw[E.optVals (fun x hx=>key x (by simp[hop,Op.operands];exact .inl (by simpa using hx))),E.optVals (fun x hx=>key x (by simp[hop,Op.operands];exact .inr (by simpa using hx)))];exact ho
 case h_23 ty x k ok hop=>
  try simp only[hop]at ho ⊢
  rw[E.lookupOp (key x (by simp[hop,Op.operands])) (key k (by simp[hop,Op.operands]))];exact ho
 case h_24 ty x k y hop=>
  try simp only[hop]at ho ⊢
  rw[E.mapUpdateOp (key x (by simp[hop,Op.operands])) (key k (by simp[hop,Op.operands])) (key y (by simp[hop,Op.operands]))];exact ho
 case h_25 args ts hop=>
  try simp only[hop]at ho ⊢
  split at ho
  ·rename_i x ty h1 h2
   try simp only[h1,h2]
   rw[E.lenOp (key x (by simp[hop,Op.operands,Call.operands];exact Array.mem_def.2 (by rw[h1];simp)))];exact ho
  ·cases ho
 case h_26 args ts hop=>
  try simp only[hop]at ho ⊢
  split at ho
  ·rename_i x y ty ty' h1 h2
   try simp only[h1,h2]
   rw[E.appendOp (key x (by simp[hop,Op.operands,Call.operands];exact Array.mem_def.2 (by rw[h1];simp))) (key y (by simp[hop,Op.operands,Call.operands];exact Array.mem_def.2 (by rw[h1];simp)))];exact ho
  ·cases ho
 case h_27 args ts hop=>
  try simp only[hop]at ho ⊢
  rw[E.asInts (fun x hx=>key x (by simp[hop,Op.operands,Call.operands];exact Array.mem_def.2 hx))];exact ho
 case h_28 args ts hop=>
  try simp only[hop]at ho ⊢
  rw[E.asInts (fun x hx=>key x (by simp[hop,Op.operands,Call.operands];exact Array.mem_def.2 hx))];exact ho
 case h_29 ty x k y hop=>
  try simp only[hop]at ho ⊢
  rw[E.mapUpdateOp (key x (by simp[hop,Op.operands])) (key k (by simp[hop,Op.operands])) (key y (by simp[hop,Op.operands]))];exact ho
 case h_30 ty x k hop=>
  try simp only[hop]at ho ⊢
  rw[E.mapEntryOp (key x (by simp[hop,Op.operands])) (key k (by simp[hop,Op.operands]))];exact ho
 case h_31 ty x k y hop=>
  try simp only[hop]at ho ⊢
  rw[E.entryStoreOp (key x (by simp[hop,Op.operands])) (key k (by simp[hop,Op.operands])) (key y (by simp[hop,Op.operands]))];exact ho
 case h_32=>cases ho
variable{ex:Nat×Nat}{ops:Array Oper}{tab:List (Nat×Nat)}{plan:List Nat}
theorem zF:∀{rest done l1 l2:List Nat} {i:Nat},rU ex ops tab done rest=true→rest=l1++i::l2→qc ex ops tab (l1.reverse++done) i=true
 | [],done,l1,l2,i,h,e=>by cases l1 <;> simp at e
 |r::rest,done,[],l2,i,h,e=>by
  simp only[List.nil_append,List.cons.injEq]at e
  obtain⟨rfl,rfl⟩:=e
  simp only[rU,bA]at h
  simpa using h.1
 |r::rest,done,x::l1,l2,i,h,e=>by
  simp only[List.cons_append,List.cons.injEq]at e
  obtain⟨rfl,rfl⟩:=e
  simp only[rU,bA]at h
  have:=zF h.2 rfl (l1:=l1) (l2:=l2) (i:=i)
  simpa[List.reverse_cons,List.append_assoc]using this
theorem vt:∀{rest done:List Nat},rU ex ops tab done rest=true→∀i,i < ops.size→i∈done∨i∈rest
 | [],done,h,i,hi=>by
  simp only[rU,List.all_eq_true,List.mem_range]at h
  exact .inl (by simpa using h i hi)
 |r::rest,done,h,i,hi=>by
  simp only[rU,bA]at h
  rcases vt h.2 i hi with h'|h'
  ·rcases List.mem_cons.1 h' with rfl|h'
   ·exact .inr (by simp)
   ·exact .inl h'
  ·exact .inr (by simp[h'])
structure amR(ex:Nat×Nat)(ops:Array Oper)(tab:List (Nat×Nat))(plan:List Nat):Prop where
 all:∀i,i < ops.size→i∈plan
 lt:∀i∈plan,∃o,ops[i]? =some o
 fresh:∀l1 i l2,plan=l1++i::l2→i∉l1
 topo:∀l1 i l2,plan=l1++i::l2→∀o,ops[i]? =some o→∀e∈o.after,Region.binds .any e=true→e.on∈l1
 act:∀l1 i l2,plan=l1++i::l2→∀j∈l1,∀q,ops[j]? =some q→pass q=false→(ep tab i).testBit j=true∨(ex=(i,j)∨ex=(j,i))
 dst:∀(i j:Nat) (oi oj:Oper) (d:Nat),i≠j→ops[i]? =some oi→ops[j]? =some oj→pass oi=true→oi.dst=some d→oj.dst≠some d
 has:∀(i:Nat) (o:Oper),ops[i]? =some o→pass o=true→∃d,o.dst=some d
 reads:∀(i j:Nat) (oi oj:Oper),ops[i]? =some oi→ops[j]? =some oj→pass oj=true→(ep tab i).testBit j=true∨((∀d,oj.dst=some d→d∉slotsOf oi)∧(∀g b,oi.guard=some (g,b)→g≠j))
 len:plan.length=ops.size
theorem iy{done:List Nat}{i:Nat}(h:qc ex ops tab done i=true):∃o,ops[i]? =some o∧i∉done∧(∀e∈o.after,Region.binds .any e=true→e.on∈done)∧
  (∀j∈done,∃q,ops[j]? =some q∧(pass q=true∨((ep tab i).testBit j=true∨(ex=(i,j)∨ex=(j,i))))∧(pass o=true→o.dst≠q.dst)∧(pass q=true→q.dst≠o.dst))∧(pass o=true→∃d,o.dst=some d)∧
  (∀j q,ops[j]? =some q→pass q=true→(ep tab i).testBit j=true∨((∀d,q.dst=some d→d∉slotsOf o)∧(∀g b,o.guard=some (g,b)→g≠j))):=by
 unfold qc at h
 split at h
 ·cases h
 ·rename_i o ho
  simp only[bA]at h
  obtain⟨⟨⟨⟨h1,h2⟩,h3⟩,h4⟩,h5⟩:=h
  refine⟨o,ho,by simpa using h1,fun e he hb=>?_,fun j hj=>?_,fun hp=>?_,fun j q hq hp=>?_⟩
  ·have:=List.all_eq_true.1 h2 e (by simpa using he)
   simp only[hb,Bool.not_true,Bool.false_or]at this
   simpa using this
  ·have:=List.all_eq_true.1 h3 j hj
   cases hq:ops[j]? with
   |none=>simp[hq]at this
   |some q=>
    simp only[hq,bA,Bool.or_eq_true,Bool.not_eq_true',bne_iff_ne,beq_iff_eq]at this
    refine⟨q,rfl,or_assoc.1 this.1.1,fun hp=>?_,fun hp=>?_⟩
    ·rcases this.1.2 with h|h
     ·rw[hp]at h;cases h
     ·exact h
    ·rcases this.2 with h|h
     ·rw[hp]at h;cases h
     ·exact h
  ·simp only[hp,Bool.not_true,Bool.false_or]at h4
   exact Option.isSome_iff_exists.1 h4
  ·have hlt:j < ops.size:=(Array.getElem?_eq_some_iff.1 hq).1
   have:=List.all_eq_true.1 h5 j (List.mem_range.2 hlt)
   simp only[hq,hp,Bool.not_true,Bool.false_or,Bool.or_eq_true,bA]at this
   rcases this with h|⟨ha,hb⟩
   ·exact .inl h
   ·refine .inr ⟨fun d hd=>?_,fun g b hg=>?_⟩
    ·simp only[hd]at ha;simpa using ha
    ·simp only[hg]at hb;simpa using hb
theorem acK(h:ma ex ops plan=true):amR ex ops (dP ops plan []) plan:=by
 simp only[ma,bA,beq_iff_eq]at h
 obtain⟨hlen,h⟩:=h
 generalize dP ops plan []=tab at h
 have hat:∀l1 i l2,plan=l1++i::l2→qc ex ops tab l1.reverse i=true:=fun l1 i l2 e=>by
  have:=zF h e;simpa using this
 have hall:∀i,i < ops.size→i∈plan:=fun i hi=>by
  rcases vt h i hi with h'|h'
  ·cases h'
  ·exact h'
 have split:∀i∈plan,∃l1 l2,plan=l1++i::l2:=fun i hi=>List.append_of_mem hi
 have mem:∀i o,ops[i]? =some o→i∈plan:=fun i o ho=>hall i (Array.getElem?_eq_some_iff.1 ho).1
 refine⟨hall,fun i hi=>?_,fun l1 i l2 e=>?_,fun l1 i l2 e o ho ed he hb=>?_,fun l1 i l2 e j hj q hq hp=>?_,fun i j oi oj d hij hi hj hp hd=>?_,fun i o ho hp=>?_,fun i j oi oj hi hj hp=>?_,hlen⟩
 ·obtain⟨l1,l2,e⟩:=split i hi
  obtain⟨o,ho,_⟩:=iy (hat l1 i l2 e)
  exact⟨o,ho⟩
 ·obtain⟨o,ho,h1,_⟩:=iy (hat l1 i l2 e)
  simpa using h1
 ·obtain⟨o',ho',_,h2,_⟩:=iy (hat l1 i l2 e)
  rw[ho]at ho';cases ho'
  simpa using h2 ed he hb
 ·obtain⟨o',ho',_,_,h3,_⟩:=iy (hat l1 i l2 e)
  obtain⟨q',hq',h4,_⟩:=h3 j (by simpa using hj)
  rw[hq]at hq';cases hq'
  rcases h4 with h4|h4
  ·rw[hp]at h4;cases h4
  ·exact h4
 ·
  obtain⟨l1,l2,e⟩:=split i (mem i oi hi)
  rcases List.mem_append.1 (e ▸ mem j oj hj)with hj1|hj2
  ·obtain⟨o',ho',_,_,h3,_⟩:=iy (hat l1 i l2 e)
   rw[hi]at ho';cases ho'
   obtain⟨q',hq',_,h5,_⟩:=h3 j (by simpa using hj1)
   rw[hj]at hq';cases hq'
   intro hc;exact h5 hp (by rw[hd,hc])
  ·have hj3:j∈l2:=by
    rcases List.mem_cons.1 hj2 with h'|h'
    ·exact absurd h'.symm hij
    ·exact h'
   obtain⟨k1,k2,e2⟩:=List.append_of_mem hj3
   have e3:plan=(l1++i::k1)++j::k2:=by rw[e,e2];simp
   obtain⟨o',ho',_,_,h3,_⟩:=iy (hat _ j k2 e3)
   rw[hj]at ho';cases ho'
   obtain⟨q',hq',_,_,h6⟩:=h3 i (by simp)
   rw[hi]at hq';cases hq'
   intro hc;exact h6 hp (by rw[hd,hc])
 ·obtain⟨l1,l2,e⟩:=split i (mem i o ho)
  obtain⟨o',ho',_,_,_,h4,_⟩:=iy (hat l1 i l2 e)
  rw[ho]at ho';cases ho'
  exact h4 hp
 ·obtain⟨l1,l2,e⟩:=split i (mem i oi hi)
  obtain⟨o',ho',_,_,_,_,h5⟩:=iy (hat l1 i l2 e)
  rw[hi]at ho';cases ho'
  exact h5 j oj hj hp
def Down(ops:Array Oper)(L:Nat→Bool):Prop:=∀i o,ops[i]? =some o→L i=true→∀e∈o.after,Region.binds .any e=true→L e.on=true
def arV(ops:Array Oper)(tab:List (Nat×Nat)):Prop:=∀p∈tab,∃o,ops[p.1]? =some o∧∀j,p.2.testBit j=true→∀L,Down ops L→(∀e∈o.after,Region.binds .any e=true→L e.on=true)→L j=true
theorem rl:∀{tab:List (Nat×Nat)} {i m:Nat},tab.lookup i=some m→(i,m)∈tab
 | [],_,_,h=>by cases h
 |(k,v)::tab,i,m,h=>by
  simp only[List.lookup]at h
  split at h
  ·rename_i e
   cases h
   have:i=k:=by simpa using e
   subst this;simp
  ·exact List.mem_cons_of_mem _ (rl h)
theorem amB(h:arV ops tab){o:Oper}{j:Nat}(hj:(awk tab o).testBit j=true)(L:Nat→Bool)(hd:Down ops L)(hl:∀e∈o.after,Region.binds .any e=true→L e.on=true):L j=true:=by
 have key:∀(es:List Edge) (acc:Nat),(∀e∈es,Region.binds .any e=true→L e.on=true)→(acc.testBit j=true→L j=true)→
   (es.foldl (fun acc e=>if Region.binds .any e then acc ||| (1 <<< e.on) ||| (tab.lookup e.on).getD 0 else acc) acc).testBit j=true→L j=true:=by
  intro es
  induction es with
  |nil=>intro acc _ ha h;exact ha h
  |cons e es ih=>
   intro acc he ha hfold
   simp only[List.foldl_cons]at hfold
   refine ih _ (fun x hx=>he x (by simp[hx])) ?_ hfold
   intro hb
   split at hb
   ·rename_i hbind
    simp only[Nat.testBit_or,Bool.or_eq_true]at hb
    rcases hb with(hb|hb)|hb
    ·exact ha hb
    ·rw[Nat.one_shiftLeft,Nat.testBit_two_pow]at hb
     have:e.on=j:=by simpa using hb
     rw[← this];exact he e (by simp) hbind
    ·cases hlk:tab.lookup e.on with
     |none=>rw[hlk]at hb;simp at hb
     |some m=>
      rw[hlk]at hb
      obtain⟨o',ho',hm⟩:=h _ (rl hlk)
      exact hm j (by simpa using hb) L hd (hd e.on o' ho' (he e (by simp) hbind))
   ·exact ha hb
 exact key o.after.toList 0 (fun e he=>hl e (by simpa using he)) (by simp) hj
theorem zf:∀(l:List Nat) {tab:List (Nat×Nat)},arV ops tab→arV ops (dP ops l tab)
 | [],_,h=>h
 |i::l,tab,h=>by
  simp only[dP]
  refine zf l ?_
  cases ho:ops[i]? with
  |none=>exact h
  |some o=>
   intro p hp
   rcases List.mem_cons.1 hp with rfl|hp
   ·exact⟨o,ho,fun j hj L hd hl=>amB h hj L hd hl⟩
   ·exact h p hp
theorem sC{plan:List Nat}{i j:Nat}{o:Oper}(ho:ops[i]? =some o)(hj:(ep (dP ops plan []) i).testBit j=true)(L:Nat→Bool)(hd:Down ops L)
  (hl:∀e∈o.after,Region.binds .any e=true→L e.on=true):L j=true:=by
 have ht:=zf (ops:=ops) plan (tab:=[]) (fun p hp=>by cases hp)
 unfold ep at hj
 cases hlk:(dP ops plan []).lookup i with
 |none=>rw[hlk]at hj;simp at hj
 |some m=>
  rw[hlk]at hj
  obtain⟨o',ho',hm⟩:=ht _ (rl hlk)
  simp only at ho'
  rw[ho]at ho';cases ho'
  exact hm j (by simpa using hj) L hd hl
variable{P:Program}{o:Oper}{w:World}{G:Gh}{s t:St}{a:Act}{sv:SV}{es:List Eff}{M:Nat→Bool}
structure M0(M:Nat→Bool)(s t:St):Prop where
 box:t.box=s.box
 get:∀i,M i=false→t.get i=s.get i
 dead:∀i,M i=true→dX (t.get i)=false
theorem M0.on(E:M0 M s t)(h:Rel w G t a):MEq M s t:=⟨E.box,E.get,E.dead,h.rooted⟩
theorem lY(sv:SV)(p:fb→Bool)(h:dX sv=false):dX (sv.drop p)=false:=by
 cases sv with
 |alias r=>simp only[SV.drop];split <;> rfl
 |elt r i o=>simp only[SV.drop];split <;> rfl
 |_=>exact h
theorem abf(sv:SV)(r:fb)(d:au)(h:dX sv=false):dX (sv.refix r d)=false:=by
 cases sv with
 |alias r=>simp only[SV.refix];split <;> rfl
 |elt r i o=>simp only[SV.refix];split <;> rfl
 |_=>exact h
theorem qH(s:St)(r:fb)(k:TypeId)(xs:List au)(j:Nat):(s.eff (.setRow r k xs)).get j=if r= .slot j then .cv (.row k xs)else s.get j:=by
 cases r with
 |slot i=>simp only[St.eff,St.setRoot,St.get,look,fb.slot.injEq]
 |cell l i=>simp[St.eff,St.setRoot,St.get]
theorem nv(s:St)(l i:Nat)(c:CV)(j:Nat):(s.eff (.setCell l i c)).get j=(match s.box.cell l i with|.row _ _=>(s.get j).drop (fun r=>decide (r= .cell l i))|_=>s.get j):=by
 cases hc:s.box.cell l i with
 |row k xs=>simp only[St.eff,St.get,hc];rw[ic _ rfl];rfl
 |_=>simp only[St.eff,St.get,hc]
theorem arW(s t:St)(h:t.box=s.box)(e:Eff):(t.eff e).box=(s.eff e).box:=by
 cases e with
 |kill r=>cases r <;> simp[St.eff,St.setRoot,h]
 |fix r d=>cases r <;> simp[St.eff,St.setRoot,h]
 |setRow r k xs=>cases r <;> simp[St.eff,St.setRoot,h]
 |setCell l i c=>simp[St.eff,h]
 |new ob=>simp[St.eff,h]
 |setMap l kt es=>simp[St.eff,h]
theorem M0.eff(E:M0 M s t)(e:Eff)(hs:∀j k xs,e= .setRow (.slot j) k xs→M j=false):M0 M (s.eff e) (t.eff e):=by
 refine⟨arW s t E.box e,fun i hi=>?_,fun i hi=>?_⟩
 ·cases e with
  |kill r=>rw[mi,mi,E.get i hi]
  |fix r d=>rw[tk,tk,E.get i hi]
  |setRow r k xs=>rw[qH,qH,E.get i hi]
  |setCell l j c=>rw[nv,nv,E.get i hi,E.box]
  |new ob=>exact E.get i hi
  |setMap l kt es=>exact E.get i hi
 ·have h0:=E.dead i hi
  cases e with
  |kill r=>
   rw[mi]
   split
   ·rfl
   ·exact lY _ _ h0
  |fix r d=>
   rw[tk]
   split
   ·rfl
   ·exact abf _ _ _ h0
  |setRow r k xs=>
   rw[qH]
   split
   ·rename_i hr;subst hr;rw[hs i k xs rfl]at hi;cases hi
   ·exact h0
  |setCell l j c=>
   rw[nv]
   split
   ·exact lY _ _ h0
   ·exact h0
  |new ob=>exact h0
  |setMap l kt es=>exact h0
def oo(es:List Eff):Prop:=∀e∈es,∀r k xs,e≠ .setRow r k xs
theorem M0.effs:∀{es:List Eff} {s t:St},M0 M s t→oo es→M0 M (s.effs es) (t.effs es)
 | [],_,_,E,_=>E
 |e::es,s,t,E,h=>M0.effs (es:=es) (E.eff e (fun j k xs he=>absurd he (h e (by simp) _ _ _))) (fun x hx=>h x (by simp[hx]))
theorem qP(s:St)(d:Nat)(v:SV)(i:Nat):(s.put (some d) v).get i=if d=i then v.drop (fun r=>decide (r= .slot d))else if dX (s.get d)=true then(s.get i).drop (fun r=>decide (r= .slot d))else s.get i:=by
 have hg:s.get d=look s.slots d:=rfl
 have hgi:s.get i=look s.slots i:=rfl
 rw[hg,hgi]
 simp only[St.put,St.get]
 cases hl:look s.slots d with
 |cv c=>
  cases c with
  |row k xs=>
   simp only[look,dX,if_true]
   split
   ·rfl
   ·rw[ic _ rfl];rfl
  |_=>simp only[look,dX];rfl
 |_=>simp only[look,dX];rfl
theorem M0.put(E:M0 M s t){d:Option Nat}(hd:∀i,d=some i→M i=false)(v:SV):M0 M (s.put d v) (t.put d v):=by
 cases d with
 |none=>exact E
 |some d=>
  have hd:=hd d rfl
  refine⟨by rw[qx,qx];exact E.box,fun i hi=>?_,fun i hi=>?_⟩
  ·rw[qP,qP,E.get d hd,E.get i hi]
  ·rw[qP]
   have hne:d≠i:=fun e=>by rw[e,hi]at hd;cases hd
   rw[if_neg hne]
   split
   ·exact lY _ _ (E.dead i hi)
   ·exact E.dead i hi
theorem M0.uncell(E:M0 M s t)(h':bn):M0 M ⟨dy SV.uncell s.slots,h'⟩ ⟨dy SV.uncell t.slots,h'⟩:=by
 have hg:∀(s:St) i,St.get ⟨dy SV.uncell s.slots,h'⟩ i=(s.get i).uncell:=fun s i=>by simp only[St.get];rw[ic _ rfl]
 exact⟨rfl,fun i hi=>by rw[hg,hg,E.get i hi],fun i hi=>by rw[hg];exact lY _ _ (E.dead i hi)⟩
theorem mN{x:Operand}{d:au}(h:s.asVal x=some (d,es)):oo es:=by
 unfold St.asVal at h
 split at h
 all_goals first
  |(simp only[sJ,pJ]at h;obtain⟨rfl,rfl⟩:=h;intro e he r k xs;simp at he;try (subst he;intro e;cases e))
  |(simp only[ae,sJ,pJ]at h;obtain⟨p,hp,rfl,rfl⟩:=h;intro e he r k xs;simp at he;try (subst he;intro e;cases e))
  |cases h
theorem pX{x:Operand}{d:List CV}(h:s.asCells x=some (d,es)):oo es:=by
 unfold St.asCells at h
 split at h
 all_goals first
  |(simp only[sJ,pJ]at h;obtain⟨rfl,rfl⟩:=h;intro e he r k xs;simp at he;try (subst he;intro e;cases e))
  |(simp only[ae,sJ,pJ]at h;obtain⟨p,hp,rfl,rfl⟩:=h;intro e he r k xs;simp at he;try (subst he;intro e;cases e))
  |cases h
theorem ac4{k:TypeId}{x:Operand}{d:List au}(h:s.asRow k x=some (d,es)):oo es:=by
 unfold St.asRow at h
 split at h
 ·simp only[sJ,pJ]at h;obtain⟨rfl,rfl⟩:=h;intro e he;simp at he
 ·split at h
  ·simp only[sJ,pJ]at h;obtain⟨rfl,rfl⟩:=h;intro e he r k xs;simp at he;subst he;intro e;cases e
  ·cases h
 ·simp only[ae]at h
  obtain⟨p,hp,h⟩:=h
  split at h
  ·simp only[sJ,pJ]at h;obtain⟨rfl,rfl⟩:=h;intro e he r k xs;simp at he;subst he;intro e;cases e
  ·cases h
 ·cases h
theorem oo.nil:oo []:=fun e he=>by cases he
theorem oo.append{a b:List Eff}(ha:oo a)(hb:oo b):oo (a++b):=fun e he=>by
 rcases List.mem_append.1 he with he|he
 ·exact ha e he
 ·exact hb e he
theorem oo.one{e:Eff}(h:∀r k xs,e≠ .setRow r k xs):oo [e]:=fun x hx=>by simp at hx;subst hx;exact h
theorem oA(l:Nat):∀(i:Nat) (cs:List CV),oo (setCells l i cs)
 |_,[]=>oo.nil
 |i,c::cs=>by
  have:=oA l (i+1) cs
  intro e he
  rcases List.mem_cons.1 he with rfl|he
  ·intro r k xs e;cases e
  ·exact this e he
theorem ai1(hp:pass o=false)(ho:aop P s o=some (sv,es)):oo es∨∃r k xs,es=[.setRow r k xs]∧∃q,s.rowAt r=some q:=by
 unfold aop at ho
 split at ho
 case h_2 x hop=>
  left
  unfold assignOp at ho
  split at ho
  ·simp only[sJ,pJ]at ho;obtain⟨rfl,rfl⟩:=ho;exact .one (by intro r k xs e;cases e)
  ·simp only[ae,sJ,pJ]at ho;obtain⟨p,hp,rfl,rfl⟩:=ho;exact .one (by intro r k xs e;cases e)
  ·unfold moveOp at ho
   split at ho
   all_goals first
    |(simp only[sJ,pJ]at ho;obtain⟨rfl,rfl⟩:=ho;exact .nil)
    |cases ho
 case h_15 ty x y hop=>
  unfold storeOp at ho
  split at ho
  ·cases ho
  split at ho
  ·split at ho
   ·simp only[ae]at ho
    obtain⟨⟨c,e1⟩,hc,ho⟩:=ho
    split at ho
    ·simp only[sJ,pJ]at ho
     obtain⟨rfl,rfl⟩:=ho
     exact .inl ((pX hc).append (oA _ _ _))
    ·cases ho
   ·cases ho
  ·simp only[ae]at ho
   obtain⟨p,hp,e,he,d,hd,ho⟩:=ho
   split at ho
   ·simp only[sJ,pJ]at ho
    obtain⟨rfl,rfl⟩:=ho
    exact .inr ⟨_,_,_,rfl,p,hp⟩
   ·cases ho
  ·cases ho
 case h_16 ty hop=>
  simp only[ae]at ho
  obtain⟨z,hz,ho⟩:=ho
  split at ho
  ·cases ho
  ·simp only[sJ,pJ]at ho
   obtain⟨rfl,rfl⟩:=ho
   exact .inl (.one (by intro r k xs e;cases e))
 case h_17 ty x hop=>
  simp only[ae]at ho
  obtain⟨⟨c,e1⟩,hc,ho⟩:=ho
  split at ho
  ·simp only[sJ,pJ]at ho
   obtain⟨rfl,rfl⟩:=ho
   exact .inl ((pX hc).append (.one (by intro r k xs e;cases e)))
  ·cases ho
 case h_21 ty hop=>
  split at ho
  ·split at ho
   ·simp only[sJ,pJ]at ho
    obtain⟨rfl,rfl⟩:=ho
    exact .inl (.one (by intro r k xs e;cases e))
   ·cases ho
  ·cases ho
 case h_24 ty x k y hop=>
  unfold mapUpdateOp at ho
  split at ho
  ·simp only[ae]at ho
   obtain⟨d,hd,kd,hk,td,htd,⟨vd,e1⟩,hv,ho⟩:=ho
   split at ho
   ·split at ho
    ·simp only[ae,sJ,pJ]at ho
     obtain⟨ents,hm,rfl,rfl⟩:=ho
     exact .inl ((mN hv).append (.one (by intro r k xs e;cases e)))
    ·cases ho
   ·cases ho
  ·cases ho
 case h_26 args ts hop=>
  split at ho
  ·unfold appendOp at ho
   split at ho
   ·simp only[ae]at ho
    obtain⟨⟨xs,e1⟩,hx,ys,hys,ho⟩:=ho
    split at ho
    ·simp only[sJ,pJ]at ho
     obtain⟨rfl,rfl⟩:=ho
     exact .inl (ac4 hx)
    ·cases ho
   ·cases ho
  ·cases ho
 case h_29 ty x k y hop=>
  unfold mapUpdateOp at ho
  split at ho
  ·simp only[ae]at ho
   obtain⟨d,hd,kd,hk,td,htd,⟨vd,e1⟩,hv,ho⟩:=ho
   split at ho
   ·split at ho
    ·simp only[ae,sJ,pJ]at ho
     obtain⟨ents,hm,rfl,rfl⟩:=ho
     exact .inl ((mN hv).append (.one (by intro r k xs e;cases e)))
    ·cases ho
   ·cases ho
  ·cases ho
 case h_30 ty x k hop=>
  unfold mapEntryOp at ho
  split at ho
  ·simp only[ae]at ho
   obtain⟨d,hd,kd,hk,td,htd,z,hz,ho⟩:=ho
   split at ho
   ·split at ho
    ·simp only[ae,sJ,pJ]at ho
     obtain⟨ents,hm,rfl,rfl⟩:=ho
     exact .inl (.one (by intro r k xs e;cases e))
    ·cases ho
   ·cases ho
  ·cases ho
 case h_31 ty x k y hop=>
  unfold entryStoreOp at ho
  simp only[ae]at ho
  obtain⟨d,hd,n,hn,⟨vd,e1⟩,hv,ho⟩:=ho
  split at ho
  ·split at ho
   ·split at ho
    ·simp only[sJ,pJ]at ho
     obtain⟨rfl,rfl⟩:=ho
     exact .inl ((mN hv).append (.one (by intro r k xs e;cases e)))
    ·cases ho
   ·cases ho
  ·cases ho
 case h_32=>cases ho
 all_goals (rename_i hop;simp[pass,hop]at hp)
theorem av7(h:Rel w G t a)(E:M0 M s t)(hf:∀x∈o.op.operands.toList,free M x)(hp:pass o=false)(ho:aop P s o=some (sv,es)):
  aop P t o=some (sv,es)∧M0 M (s.effs es) (t.effs es):=by
 have ht:=(E.on h).aop hf (fun hc=>by rw[hp]at hc;cases hc) ho
 refine⟨ht,?_⟩
 rcases ai1 hp ht with hn|⟨r,k,xs,rfl,q,hq⟩
 ·exact E.effs hn
 ·refine(?_:M0 M (s.eff (.setRow r k xs)) (t.eff (.setRow r k xs)))
  refine E.eff _ (fun j k' xs' he=>?_)
  cases he
  cases hm:M j with
  |false=>rfl
  |true=>
   have:=E.dead j hm
   simp only[St.rowAt]at hq
   split at hq
   ·rename_i k'' xs'' he';rw[he']at this;cases this
   ·cases hq
theorem acx{how:How}{x:Operand}(h:argOf s how x=some (sv,es)):oo es:=by
 unfold argOf at h
 split at h
 ·simp only[ae,sJ,pJ]at h
  obtain⟨⟨d,e⟩,hx,rfl,rfl⟩:=h
  exact mN hx
 ·split at h
  ·simp only[sJ,pJ]at h;obtain⟨rfl,rfl⟩:=h;exact .nil
  ·simp only[sJ,pJ]at h;obtain⟨rfl,rfl⟩:=h;exact .one (by intro r k xs e;cases e)
  ·simp only[ae,sJ,pJ]at h;obtain⟨p,hp,rfl,rfl⟩:=h;exact .one (by intro r k xs e;cases e)
  ·cases h
theorem MEq.argOf(E:MEq M s t){how:How}{x:Operand}(hx:free M x):argOf t how x=argOf s how x:=by
 unfold Val.argOf
 rw[E.asVal hx,E.opv hx]
 split
 ·rfl
 ·split
  all_goals first|rfl|(rename_i r h;rw[E.row hx h])
theorem xZ{C:Ctx}{f:FuncId}:∀{xs:List Operand} {i:Nat} {G:Gh} {s t:St} {as:List SV} {es:List Eff},Rel w G t a→M0 M s t→(∀x∈xs,free M x)→iT C f s i xs=some (as,es)→
  iT C f t i xs=some (as,es)∧M0 M (s.effs es) (t.effs es)
 | [],i,G,s,t,as,es,h,E,hf,hd=>by
  simp only[iT,sJ,pJ]at hd ⊢
  obtain⟨rfl,rfl⟩:=hd
  exact⟨⟨rfl,rfl⟩,E⟩
 |x::xs,i,G,s,t,as,es,h,E,hf,hd=>by
  simp only[iT,ae,sJ,pJ]at hd ⊢
  obtain⟨⟨sv,e1⟩,hx,⟨as',e2⟩,hxs,rfl,rfl⟩:=hd
  have hx':Val.argOf t (C.how f i) x=some (sv,e1):=by rw[(E.on h).argOf (hf x (by simp))];exact hx
  obtain⟨G1,c,hc,g1,g2,g3⟩:=aaF h hx' i
  obtain⟨k1,k2⟩:=xZ g1.rel (E.effs (acx hx)) (fun y hy=>hf y (by simp[hy])) hxs
  exact⟨⟨(sv,e1),hx',(as',e2),k1,rfl,rfl⟩,by rw[eX,eX];exact k2⟩
theorem fk.mono{f:FuncId}{as:List SV}{h:bn}{Q Q':List SV→bn→Prop}(hs:fk P f as h Q)(hq:∀o h,Q o h→Q' o h):fk P f as h Q':=by
 refine⟨hs.1,fun w G vs h1 h2 h3 h4=>Calls.mono (hs.2 w G vs h1 h2 h3 h4) fun e w' ⟨us,out,h',G',g1,g2,g3⟩=>⟨us,out,h',G',g1,hq _ _ g2,g3⟩⟩
theorem alE{C:Ctx}{K:St→Prop}(h:Rel w G t a)(E:M0 M s t)(hf:∀x∈o.op.operands.toList,free M x)(hp:pass o=false)(hd:∀d,o.dst=some d→M d=false)(hs:kQ C (fk P) s o K):
  kQ C (fk P) t o (fun t'=>∃s',K s'∧M0 M s' t'):=by
 unfold kQ at hs ⊢
 split at hs
 ·rename_i f args ts hop
  have key:∀x,x∈o.op.operands.toList→free M x:=hf
  simp only[wQ]at hs ⊢
  have hl:∀{xs:List Operand},(∀x∈xs,free M x)→nh t xs=nh s xs:=by
   intro xs
   induction xs with
   |nil=>intro _;rfl
   |cons x xs ih=>
    intro hx
    have h1:nw t x=nw s x:=by
     unfold nw
     rw[(E.on h).opv (hx x (by simp))]
     split
     any_goals rfl
     rename_i r he
     rw[(E.on h).row (hx x (by simp)) he]
    simp only[nh]
    rw[h1,ih fun y hy=>hx y (by simp[hy])]
  rcases hs with((⟨g,fs,cs,ds,b,h1,h2,hb,h3⟩|⟨g,ds,out,v,h1,h2,h3,hsc,hv,hK⟩)|⟨g,x,xs,r,k,zs,ds,ys,h1,h2,h3,h4,h5,h6,h7,h8⟩)|⟨g,fs,cs,as,es,h1,h2,h3⟩
  ·left;left;left
   have hcal:callee t f=callee s f:=by
    have:=(E.on h).opv (key f (by simp[hop,Op.operands,Call.operands]))
    cases f with
    |func g=>rfl
    |_=>simp only[callee];rw[this]
   refine⟨g,fs,cs,ds,b,by rw[hcal];exact h1,by rw[hl fun x hx=>key x (by simp[hop,Op.operands,Call.operands];exact .inr (Array.mem_def.2 hx))];exact h2,fun e=>?_,?_⟩
   ·have hb':=hb e
    rw[List.all_eq_true]at hb' ⊢
    intro x hx
    have:=hb' x hx
    unfold tx at this ⊢
    rw[(E.on h).opv (key x (by simp[hop,Op.operands,Call.operands];exact .inr (Array.mem_def.2 hx)))]
    exact this
   rw[E.box]
   exact fk.mono h3 fun out h' ⟨v,hv,hsc,hk⟩=>⟨v,hv,hsc,_,hk,E.put hd v⟩
  ·left;left;right
   have hcal:callee t f=callee s f:=by
    have:=(E.on h).opv (key f (by simp[hop,Op.operands,Call.operands]))
    cases f with
    |func g=>rfl
    |_=>simp only[callee];rw[this]
   refine⟨g,ds,out,v,by rw[hcal];exact h1,by rw[hl fun x hx=>key x (by simp[hop,Op.operands,Call.operands];exact .inr (Array.mem_def.2 hx))];exact h2,by rw[E.box];exact h3,hsc,hv,_,hK,E.put hd v⟩
  ·left;right
   have hcal:callee t f=callee s f:=by
    have:=(E.on h).opv (key f (by simp[hop,Op.operands,Call.operands]))
    cases f with
    |func g=>rfl
    |_=>simp only[callee];rw[this]
   have hin:∀y∈x::xs,free M y:=fun y hy=>key y (by simp[hop,Op.operands,Call.operands];exact .inr (Array.mem_def.2 (by rw[h2];exact hy)))
   have hx:=(E.on h).opv (hin x (by simp))
   have hr:rootOf t x=some r:=by unfold rootOf;rw[hx];exact h3
   have hq:t.rowAt r=s.rowAt r∧∀j,r= .slot j→M j=false:=by
    unfold rootOf at h3
    split at h3
    ·rename_i k' xs' he
     injection h3 with h3;subst h3
     obtain⟨j,rfl⟩:=il he (fun v=>jB v k' xs') (fun f e=>by cases e) (fun e=>by cases e)
     have hfr:=hin (.tmp j) (by simp)
     exact⟨by simp only[mc,St.rowAt];rw[E.get j (hfr j rfl)],fun i e=>by injection e with e;subst e;exact hfr _ rfl⟩
    ·rename_i r' he
     injection h3 with h3;subst h3
     exact⟨(E.on h).row (hin x (by simp)) he,fun j e=>by
      subst e
      cases hm:M j with
      |false=>rfl
      |true=>
       obtain⟨i,rfl⟩:=il he (fun v=>zN v _) (fun f e=>by cases e) (fun e=>by cases e)
       have hg:=(E.on h).root i
       have e2:t.get i= .alias (.slot j):=(E.get i (hin (.tmp i) (by simp) i rfl)).trans he
       rw[e2]at hg
       have hg':dX (t.get j)=true:=hg
       rw[E.dead j hm]at hg';cases hg'⟩
    ·cases h3
   refine⟨g,x,xs,r,k,zs,ds,ys,by rw[hcal];exact h1,h2,hr,by rw[hq.1];exact h4,by rw[(E.on h).optVals fun y hy=>hin y (by simp[hy])];exact h5,h6,h7,_,h8,?_⟩
   exact(E.eff _ (fun j k' xs' e=>hq.2 j (by injection e))).put hd .undef
  right
  have hcal:callee t f=callee s f:=by
   have:=(E.on h).opv (key f (by simp[hop,Op.operands,Call.operands]))
   cases f with
   |func g=>rfl
   |_=>simp only[callee];rw[this]
  obtain⟨k1,k2⟩:=xZ h E (fun x hx=>key x (by simp[hop,Op.operands,Call.operands];exact .inr (Array.mem_def.2 hx))) h2
  refine⟨g,fs,cs,as,es,by rw[hcal];exact h1,k1,?_⟩
  rw[k2.box]
  exact fun hwf=>fk.mono (h3 hwf) fun out h' ⟨v,hv,hk⟩=>⟨v,hv,_,hk,(k2.uncell h').put hd v⟩
 ·rcases hs with⟨_,_,_,_,_,ho,_⟩|⟨v,es,ho,hK⟩
  ·simp only[pass,ho]at hp;cases hp
  obtain⟨k1,k2⟩:=av7 h E hf hp ho
  exact .inr ⟨v,es,k1,_,hK,k2.put hd v⟩
theorem MEq.guardOf{ops:Array Oper}(E:MEq M s t)(hg:∀(j:Nat) (b:Bool) (q:Oper) (d:Nat),o.guard=some (j,b)→ops[j]? =some q→q.dst=some d→M d=false):guardOf ops t o=guardOf ops s o:=by
 unfold Val.guardOf
 split
 ·rfl
 ·rename_i j want hgd
  cases hj:ops[j]? with
  |none=>simp
  |some q=>
   simp only[oB]
   cases hq:q.dst with
   |none=>simp
   |some d=>simp only[oB];rw[E.get d (hg j want q d hgd hj hq)]
theorem uj{ops:Array Oper}{b:Bool}(h:Rel w G t a)(hg:guardOf ops t o=some b)(hsz:∀(j:Nat) (q:Oper) (d:Nat),ops[j]? =some q→q.dst=some d→d < a.tmps.size):Region.wanted o (yielded ops a.tmps)=b:=by
 unfold guardOf at hg
 unfold Region.wanted
 split at hg
 ·rename_i hgd;simp only[hgd];simpa using hg
 ·rename_i j want hgd
  simp only[hgd]
  simp only[ae]at hg
  obtain⟨d,⟨q,hj,hjd⟩,hg⟩:=hg
  have hlt:=hsz j q d hj hjd
  have hs:=h.slots d
  have hget:a.tmps.getD d undef=a.tmps[d]:=by simp[hlt]
  have hy:yielded ops a.tmps j=(match a.tmps.getD d undef with|.bool b=>some b|_=>none):=by
   unfold yielded
   simp only[hj,oB,hjd,hget]
   rw[Array.getElem?_eq_getElem hlt]
   cases a.tmps[d] <;> rfl
  rw[hy]
  split at hg
  ·rename_i x he
   rw[he]at hs
   have hs':cU w G (.bool x) (a.tmps.getD d undef):=hs
   generalize a.tmps.getD d undef=u at hs'
   cases hs'
   simp only[sJ]at hg
   subst hg
   cases x <;> cases want <;> rfl
  ·rename_i he
   rw[he]at hs
   have hs':a.tmps.getD d undef=undef:=hs
   rw[hs']
   simp only[sJ]at hg
   subst hg
   rfl
  ·cases hg
variable{ex:Nat×Nat}{P:Program}{w:World}{G:Gh}{s t:St}{a:Act}{ops:Array Oper}{tab:List (Nat×Nat)}{plan:List Nat}{C:Ctx}{K:St→Prop}
def al9(ops:Array Oper)(i d:Nat):Bool:=match ops[i]? with|some o=>o.dst==some d|none=>false
theorem akz{i d:Nat}:al9 ops i d=true↔∃o,ops[i]? =some o∧o.dst=some d:=by
 unfold al9
 split
 ·rename_i o ho;simp[ho]
 ·rename_i ho;simp[ho]
def gC(ops:Array Oper)(L:Nat→Bool)(pend:List Nat):Nat→Bool:=fun d=>pend.any fun i=>!L i&&al9 ops i d
theorem fg{L:Nat→Bool}{pend:List Nat}{d:Nat}:gC ops L pend d=true↔∃i∈pend,L i=false∧∃o,ops[i]? =some o∧o.dst=some d:=by
 simp only[gC,List.any_eq_true,bA,Bool.not_eq_true',akz]
theorem M0.masks{M M':Nat→Bool}(E:M0 M s t)(h:∀i,M' i=M i):M0 M' s t:=by
 have:M'=M:=funext h
 rw[this];exact E
structure kI(C:Ctx)(K:St→Prop)(ops:Array Oper)(plan:List Nat)(L:Nat→Bool)(done rest pend:List Nat)(s t:St):Prop where
 split:plan=done++rest
 todo:∀i∈rest,L i=false
 past:∀i∈done,L i=true∨i∈pend
 live:∀i∈pend,i∈done∧∀o,ops[i]? =some o→pass o=true
 eq:M0 (gC ops L pend) s t
 wp:di C (fk C.P) ops (dP ops plan []) pend rest K s
def ahk(ops:Array Oper)(rest:List Nat):Prop:=rest=[]∨∃i r o,rest=i::r∧ops[i]? =some o∧pass o=false
def left(L:Nat→Bool)(rest pend:List Nat):Nat:=(pend.filter fun i=>!L i).length+rest.length
theorem asS{M:Nat→Bool}(E:M0 M s t)(h:Rel w G t a){d:Nat}(hd:M d=false)(v:SV):M0 (fun x=>M x||x==d) (s.put (some d) v) (t.eff (.kill (.slot d))):=by
 refine⟨by rw[qx];exact E.box,fun i hi=>?_,fun i hi=>?_⟩
 ·simp only[Bool.or_eq_false_iff,beq_eq_false_iff_ne]at hi
  obtain⟨hi,hne⟩:=hi
  rw[mi,if_neg (by intro e;cases e;exact hne rfl),qP,if_neg (fun e=>hne e.symm),E.get i hi,← E.get d hd]
  split
  ·rfl
  ·rename_i hr
   have:=h.no_alias (r:=.slot d) (by
    simp only[St.rowAt]
    split
    ·rename_i k xs he;rw[he]at hr;exact absurd rfl hr
    ·rfl) i
   rw[E.get i hi]at this
   exact this
 ·rw[mi]
  split
  ·rfl
  ·rename_i hne
   simp only[Bool.or_eq_true,beq_iff_eq]at hi
   rcases hi with hi|hi
   ·exact lY _ _ (E.dead i hi)
   ·subst hi;exact absurd rfl hne
theorem kI.next1(hp:amR ex ops (dP ops plan []) plan){L:Nat→Bool}{rest done pend:List Nat}{i d:Nat}{o:Oper}{v:SV}(S:kI C K ops plan L done (i::rest) pend s t)(h:Rel w G t a)(ho:ops[i]? =some o)(hpo:pass o=true)(hd:o.dst=some d)
  (hv:di C (fk C.P) ops (dP ops plan []) (i::pend) rest K (s.put o.dst v)):kI C K ops plan L (done++[i]) rest (i::pend) (s.put o.dst v) (t.eff (.kill (.slot d))):=by
 have hLi:=S.todo i (by simp)
 have hni:i∉done:=hp.fresh done i rest S.split
 have hMd:gC ops L pend d=false:=by
  cases hm:gC ops L pend d with
  |false=>rfl
  |true=>
   obtain⟨j,hj,_,q,hq,hqd⟩:=fg.1 hm
   have hjd:=(S.live j hj).1
   exact absurd hqd (hp.dst i j o q d (fun e=>hni (e ▸ hjd)) ho hq hpo hd)
 refine⟨by rw[S.split];simp,fun j hj=>S.todo j (by simp[hj]),fun j hj=>?_,fun j hj=>?_,?_,hv⟩
 ·rcases List.mem_append.1 hj with hj|hj
  ·exact(S.past j hj).imp id (fun h=>by simp[h])
  ·simp at hj;subst hj;exact .inr (by simp)
 ·rcases List.mem_cons.1 hj with rfl|hj
  ·exact⟨by simp,fun o' ho'=>by rw[ho]at ho';cases ho';exact hpo⟩
  ·exact⟨by simp[(S.live j hj).1],(S.live j hj).2⟩
 ·rw[hd]
  refine(asS S.eq h hMd v).masks (fun x=>?_)
  have:al9 ops i x=(x==d):=by
   unfold al9
   simp only[ho,hd]
   cases hx:x==d with
   |true=>simp at hx;subst hx;simp
   |false=>simp at hx ⊢;exact fun e=>hx e.symm
  simp only[gC,List.any_cons,hLi,Bool.not_false,Bool.true_and,this]
  rw[Bool.or_comm]
theorem ua(hp:amR ex ops (dP ops plan []) plan){L:Nat→Bool}:∀{rest done pend:List Nat} {s t:St} {G:Gh},kI C K ops plan L done rest pend s t→Rel w G t a→
  ∃done' rest' pend' s' t' G',kI C K ops plan L done' rest' pend' s' t'∧ahk ops rest'∧Rel w G' t' a∧Kept w G w G'∧left L rest' pend'≤left L rest pend
 | [],done,pend,s,t,G,S,h=>⟨done,[],pend,s,t,G,S,.inl rfl,h,Kept.refl w G,nR _⟩
 |i::rest,done,pend,s,t,G,S,h=>by
  have hw:=S.wp
  simp only[di]at hw
  obtain⟨o,ho,hw⟩:=hw
  cases hpo:pass o with
  |false=>exact⟨done,i::rest,pend,s,t,G,S,.inr ⟨i,rest,o,rfl,ho,hpo⟩,h,Kept.refl w G,nR _⟩
  |true=>
   simp only[hpo]at hw
   obtain⟨b,hb,h1,h2⟩:=hw
   obtain⟨d,hd⟩:=hp.has i o ho hpo
   have hLi:=S.todo i (by simp)
   have go:∀v,di C (fk C.P) ops (dP ops plan []) (i::pend) rest K (s.put o.dst v)→∃done' rest' pend' s' t' G',kI C K ops plan L done' rest' pend' s' t'∧ahk ops rest'∧Rel w G' t' a∧Kept w G w G'∧left L rest' pend'≤left L (i::rest) pend:=fun v hv=>by
    obtain⟨done',rest',pend',s',t',G',g1,g2,g3,g4,g5⟩:=ua hp (S.next1 hp h ho hpo hd hv) (h.kill (.slot d))
    refine⟨done',rest',pend',s',t',G',g1,g2,g3,(dJ w G (.slot d) .ret).trans g4,Nat.le_trans g5 ?_⟩
    simp only[left,List.filter_cons,hLi,Bool.not_false,if_true,lC]
    omega
   cases b with
   |true=>
    obtain⟨v,_,hv⟩:=h1 rfl
    exact go v hv
   |false=>exact go .undef (h2 rfl)
theorem aib{pend rest:List Nat}(hh:ahk ops rest)(hw:di C (fk C.P) ops tab pend rest K s):∀p∈pend,qN C.P ops s p:=by
 rcases hh with rfl|⟨i,r,o,rfl,ho,hp⟩
 ·exact hw.1
 ·simp only[di]at hw
  obtain⟨o',ho',hw⟩:=hw
  rw[ho]at ho';cases ho'
  simp only[hp]at hw
  exact hw.1
theorem sm{p:Nat→Bool}:∀{l:List Nat},(∃i∈l,p i=true)→∃l1 i l2,l=l1++i::l2∧p i=true∧∀j∈l1,p j=false
 | [],⟨i,h,_⟩=>by cases h
 |x::l,h=>by
  cases hx:p x with
  |true=>exact⟨[],x,l,rfl,hx,fun j hj=>by cases hj⟩
  |false=>
   obtain⟨i,hi,hp⟩:=h
   have:∃i∈l,p i=true:=by
    rcases List.mem_cons.1 hi with rfl|hi
    ·rw[hx]at hp;cases hp
    ·exact⟨i,hi,hp⟩
   obtain⟨l1,j,l2,e,h1,h2⟩:=sm this
   exact⟨x::l1,j,l2,by rw[e];rfl,h1,fun k hk=>by
    rcases List.mem_cons.1 hk with rfl|hk
    ·exact hx
    ·exact h2 k hk⟩
def isL(listed:Array Bool):Nat→Bool:=fun i=>listed.getD i false
theorem vU(hp:amR ex ops (dP ops plan []) plan){listed:Array Bool}(hsz:listed.size=ops.size)(hr:Region.ready .any ops listed=[]):∀i∈plan,isL listed i=true:=by
 intro i hi
 cases hl:isL listed i with
 |true=>rfl
 |false=>
  exfalso
  obtain⟨l1,j,l2,e,h1,h2⟩:=sm (p:=fun i=>!isL listed i) (l:=plan) ⟨i,hi,by simp[hl]⟩
  have hj:j∈plan:=by rw[e];simp
  obtain⟨o,ho⟩:=hp.lt j hj
  have hlt:j < listed.size:=by rw[hsz];exact(Array.getElem?_eq_some_iff.1 ho).1
  have:j∈Region.ready .any ops listed:=by
   rw[mem_ready]
   refine⟨?_,o,ho,fun ed he hb=>?_⟩
   ·simp only[isL,Bool.not_eq_true']at h1
    have:listed.getD j true=listed.getD j false:=by simp[hlt]
    rw[this];exact h1
   ·have:=h2 ed.on (hp.topo l1 j l2 e o ho ed he hb)
    simpa[isL]using this
  rw[hr]at this;cases this
theorem fR{listed:Array Bool}{i:Nat}(hi:i < listed.size)(j:Nat):isL (listed.setIfInBounds i true) j=if i=j then true else isL listed j:=by
 unfold isL
 by_cases e:i=j
 ·subst e;simp[hi]
 ·simp[e,Array.getElem?_setIfInBounds_ne e]
theorem aew{listed:Array Bool}{i:Nat}(hi:i < listed.size)(hd:Down ops (isL listed))(hr:∀o,ops[i]? =some o→∀e∈o.after,Region.binds .any e=true→isL listed e.on=true):Down ops (isL (listed.setIfInBounds i true)):=by
 intro j o ho hj e he hb
 rw[fR hi]at hj ⊢
 split
 ·rfl
 ·split at hj
  ·rename_i e1;subst e1;exact hr o ho e he hb
  ·exact hd j o ho hj e he hb
theorem vv{o:Oper}{M:Nat→Bool}(h:∀d∈slotsOf o,M d=false):∀x∈o.op.operands.toList,free M x:=fun x hx i e=>h i (by
 subst e
 simp only[slotsOf,List.mem_filterMap]
 exact⟨.tmp i,hx,rfl⟩)
theorem filter_lt{L L':Nat→Bool}{p:Nat}:∀{l:List Nat},(∀j,L j=true→L' j=true)→p∈l→L p=false→L' p=true→(l.filter fun i=>!L' i).length < (l.filter fun i=>!L i).length
 | [],_,h,_,_=>by cases h
 |x::l,hm,h,h1,h2=>by
  have hle:∀l:List Nat,(l.filter fun i=>!L' i).length≤(l.filter fun i=>!L i).length:=by
   intro l
   induction l with
   |nil=>simp
   |cons y l ih=>
    simp only[List.filter_cons]
    cases hy:L y with
    |true=>simp only[hm y hy,Bool.not_true,Bool.false_eq_true,if_false];exact ih
    |false=>
     cases hy':L' y with
     |true=>simp;omega
     |false=>simp;omega
  simp only[List.filter_cons]
  rcases List.mem_cons.1 h with rfl|h
  ·simp only[h1,h2,Bool.not_true,Bool.not_false,Bool.false_eq_true,if_false,if_true,lC]
   have:=hle l;omega
  ·have ih:=filter_lt hm h h1 h2
   cases hx:L x with
   |true=>simp only[hm x hx,Bool.not_true,Bool.false_eq_true,if_false];exact ih
   |false=>
    cases hx':L' x with
    |true=>simp;omega
    |false=>simp;omega
theorem filter_le{L L':Nat→Bool}(hm:∀j,L j=true→L' j=true)(q:Nat→Bool):∀(l:List Nat),((l.filter q).filter fun i=>!L' i).length≤(l.filter fun i=>!L i).length
 | []=>by simp
 |y::l=>by
  have ih:=filter_le hm q l
  simp only[List.filter_cons]
  cases hq:q y with
  |true=>
   simp only[if_true,List.filter_cons]
   cases hy:L y with
   |true=>simp only[hm y hy,Bool.not_true,Bool.false_eq_true,if_false];exact ih
   |false=>
    cases hy':L' y with
    |true=>simp only[Bool.not_true,Bool.not_false,Bool.false_eq_true,if_false,if_true,lC];omega
    |false=>simp only[Bool.not_true,Bool.not_false,Bool.false_eq_true,if_false,if_true,lC];omega
  |false=>
   simp only[Bool.false_eq_true,if_false]
   cases hy:L y with
   |true=>simp only[Bool.not_true,Bool.false_eq_true,if_false];exact ih
   |false=>simp only[Bool.not_true,Bool.not_false,Bool.false_eq_true,if_false,if_true,lC];omega
variable{ex:Nat×Nat}{P:Program}{w:World}{G:Gh}{s t:St}{a:Act}{ops:Array Oper}{tab:List (Nat×Nat)}{plan:List Nat}{C:Ctx}{K:St→Prop}
theorem kI.ended{L:Nat→Bool}{done rest pend:List Nat}(S:kI C K ops plan L done rest pend s t)(h:Rel w G t a)(hall:∀i∈plan,L i=true):K s∧Rel w G s a:=by
 have hr:rest=[]:=by
  cases rest with
  |nil=>rfl
  |cons i r=>
   have h1:=S.todo i (by simp)
   have h2:=hall i (by rw[S.split];simp)
   rw[h1]at h2;cases h2
 subst hr
 have hm:∀d,gC ops L pend d=false:=fun d=>by
  cases hm:gC ops L pend d with
  |false=>rfl
  |true=>
   obtain⟨i,hi,hl,_⟩:=fg.1 hm
   have:=hall i (by rw[S.split];simp[(S.live i hi).1])
   rw[hl]at this;cases this
 exact⟨S.wp.2,h.congr (by rw[S.eq.box]) (fun i=>(S.eq.get i (hm i)).symm)⟩
theorem kI.passed(hp:amR ex ops (dP ops plan []) plan){listed:Array Bool}(hsz:listed.size=ops.size){done rest pend:List Nat}(S:kI C K ops plan (isL listed) done rest pend s t)(hh:ahk ops rest)
  (h:Rel w G t a) (hG:G.P=C.P) (hdown:Down ops (isL listed)) {i:Nat} {o:Oper} (hi:i∈pend) (hl:isL listed i=false) (ho:ops[i]? =some o) (haft:∀e∈o.after,Region.binds .any e=true→isL listed e.on=true)
  (hdst:∀(j:Nat) (q:Oper) (d:Nat),ops[j]? =some q→q.dst=some d→d < a.tmps.size) (next:Act→World→Prop) (Q:Exit→Act→World→Prop)
  (hn:∀a' w' t' G',kI C K ops plan (isL (listed.setIfInBounds i true)) done rest pend s t'→Rel w' G' t' a'→Kept w G w' G'→a'.tmps.size=a.tmps.size→a'.defers=a.defers→next a' w'):wpOp C.P ops Q i next a w:=by
 have hlt:i < listed.size:=by rw[hsz];exact(Array.getElem?_eq_some_iff.1 ho).1
 obtain⟨o',d,ho',hd,b,hg,h1,h2⟩:=aib hh S.wp i hi
 rw[ho]at ho';cases ho'
 have hpo:=(S.live i hi).2 o ho
 have hanc:∀j,(ep (dP ops plan []) i).testBit j=true→isL listed j=true:=fun j hj=>sC ho hj _ hdown haft
 have hfree:∀x∈o.op.operands.toList,free (gC ops (isL listed) pend) x:=vv fun d' hd'=>by
  cases hm:gC ops (isL listed) pend d' with
  |false=>rfl
  |true=>
   obtain⟨j,hj,hlj,q,hq,hqd⟩:=fg.1 hm
   rcases hp.reads i j o q ho hq ((S.live j hj).2 q hq)with hb|⟨hb,_⟩
   ·rw[hanc j hb]at hlj;cases hlj
   ·exact absurd hd' (hb d' hqd)
 have E:=S.eq.on h
 have hgt:guardOf ops t o=some b:=by
  rw[E.guardOf (fun j b' q d' hgd hq hqd=>?_)];exact hg
  cases hm:gC ops (isL listed) pend d' with
  |false=>rfl
  |true=>
   obtain⟨k,hk,hlk,q',hq',hqd'⟩:=fg.1 hm
   have hkj:k=j:=by
    cases Nat.decEq k j with
    |isTrue e=>exact e
    |isFalse e=>exact absurd hqd (hp.dst k j q' q d' e hq' hq ((S.live k hk).2 q' hq') hqd')
   subst hkj
   rcases hp.reads i k o q' ho hq' ((S.live k hk).2 q' hq')with hb|⟨_,hb⟩
   ·rw[hanc k hb]at hlk;cases hlk
   ·exact absurd rfl (hb k b' hgd)
 have hmd:gC ops (isL listed) pend d=true:=fg.2 ⟨i,hi,hl,o,ho,hd⟩
 have hrow:dX (t.get d)=false:=S.eq.dead d hmd
 have hnot:∀{sv:SV} {x:Value} {w':World} {G':Gh},ez w' G' t a .ret sv x→sv.drop (fun r=>decide (r= .slot d))=sv:=fun {sv x w' G'} hv=>by
  have:t.rowAt (.slot d)=none:=by
   simp only[St.rowAt]
   split
   ·rename_i k xs he;rw[he]at hrow;cases hrow
   ·rfl
  cases sv with
  |alias r=>
   obtain⟨⟨q,hq⟩,_⟩:=hv
   have hne:r≠ .slot d:=fun e=>by rw[e,this]at hq;cases hq
   simp[SV.drop,hne]
  |elt r j off=>
   obtain⟨k,xs,b,n,cap,hq,_⟩:=hv
   have hne:r≠ .slot d:=fun e=>by rw[e,this]at hq;cases hq
   simp[SV.drop,hne]
  |_=>rfl
 have fin:∀(sv:SV) (x:Value) (w':World) (G':Gh),sv=s.get d→Kept w G w' G'→Rel w' G' t a→ez w' G' t a .ret sv x→next (a.put o.dst x) w':=fun sv x w' G' hsv hk hr hv=>by
  rw[hd]
  have hput:=hr.put hv (hdst i o d ho hd)
  refine hn _ w' _ _ ⟨S.split,fun j hj=>?_,fun j hj=>?_,S.live,?_,S.wp⟩ hput (hk.trans (nm w' G' (by decide) (by decide))) (jp _ _ _) (put_defers _ _ _)
  ·rw[fR hlt]
   have hne:i≠j:=fun e=>by
    subst e
    have h3:i∉done:=by
     obtain⟨l1,l2,e⟩:=List.append_of_mem hj
     have:=hp.fresh (done++l1) i l2 (by rw[S.split,e];simp)
     intro h4;exact this (by simp[h4])
    exact h3 (S.live i hi).1
   rw[if_neg hne];exact S.todo j hj
  ·rw[fR hlt]
   split
   ·exact .inl rfl
   ·exact S.past j hj
  ·refine⟨by rw[qx];exact S.eq.box,fun y hy=>?_,fun y hy=>?_⟩
   ·rw[qP]
    split
    ·rename_i e;subst e;rw[hnot hv,hsv]
    ·rename_i hne
     rw[if_neg (by rw[hrow];simp)]
     refine S.eq.get y ?_
     cases hm:gC ops (isL listed) pend y with
     |false=>rfl
     |true=>
      exfalso
      obtain⟨k,hk,hlk,q,hq,hqd⟩:=fg.1 hm
      have hki:i≠k:=fun e=>by
       subst e
       rw[ho]at hq;cases hq
       rw[hd]at hqd;cases hqd;exact hne rfl
      have:gC ops (isL (listed.setIfInBounds i true)) pend y=true:=fg.2 ⟨k,hk,by rw[fR hlt,if_neg hki];exact hlk,q,hq,hqd⟩
      rw[hy]at this;cases this
   ·obtain⟨k,hk,hlk,q,hq,hqd⟩:=fg.1 hy
    rw[fR hlt]at hlk
    split at hlk
    ·cases hlk
    ·rename_i hki
     have hne:d≠y:=fun e=>by
      subst e
      exact hp.dst k i q o d (fun e=>hki e.symm) hq ho ((S.live k hk).2 q hq) hqd hd
     rw[qP,if_neg hne,if_neg (by rw[hrow];simp)]
     exact S.eq.dead y (fg.2 ⟨k,hk,hlk,q,hq,hqd⟩)
 unfold wpOp
 simp only[ho]
 have hw:=uj h hgt hdst
 cases b with
 |true=>
  rw[if_pos hw]
  refine .inl ?_
  have haop:aop C.P t o=some (s.get d,[]):=E.aop hfree (fun _=>rfl) (h1 rfl)
  obtain⟨x,w',G',hrun,hk,hrel,hv⟩:=zY h hG haop
  have:=fin (s.get d) x w' G' rfl hk hrel hv
  unfold Oper.wp
  rcases hrun with hrun|⟨hrun,rfl⟩
  ·rw[hrun];exact this
  ·rw[hrun];exact this
 |false=>
  rw[if_neg (by rw[hw];simp)]
  exact fin .undef undef w G (h2 rfl).symm (Kept.refl w G) h rfl
theorem kI.stepped(hX:fF C)(hp:amR ex ops (dP ops plan []) plan){listed:Array Bool}(hsz:listed.size=ops.size){done r pend:List Nat}{i:Nat}{o:Oper}(S:kI C K ops plan (isL listed) done (i::r) pend s t)
  (ho:ops[i]? =some o) (hpo:pass o=false) (h:Rel w G t a) (hG:G.P=C.P) (hdown:Down ops (isL listed)) (haft:∀e∈o.after,Region.binds .any e=true→isL listed e.on=true)
  (hdst:∀(j:Nat) (q:Oper) (d:Nat),ops[j]? =some q→q.dst=some d→d < a.tmps.size) (next:Act→World→Prop) (Q:Exit→Act→World→Prop)
  (hn:∀a' w' s' t' G' pend',kI C K ops plan (isL (listed.setIfInBounds i true)) (done++[i]) r pend' s' t'→Rel w' G' t' a'→Kept w G w' G'→a'.tmps.size=a.tmps.size→a'.defers=a.defers→
   left (isL (listed.setIfInBounds i true)) r pend' < left (isL listed) (i::r) pend→next a' w'):wpOp C.P ops Q i next a w:=by
 have hlt:i < listed.size:=by rw[hsz];exact(Array.getElem?_eq_some_iff.1 ho).1
 have hwp:=S.wp
 simp only[di]at hwp
 obtain⟨o',ho',hwp⟩:=hwp
 rw[ho]at ho';cases ho'
 simp only[hpo]at hwp
 obtain⟨_,b,hg,h1,h2⟩:=hwp
 have hni:i∉done:=hp.fresh done i r S.split
 have hanc:∀j,(ep (dP ops plan []) i).testBit j=true→isL listed j=true:=fun j hj=>sC ho hj _ hdown haft
 have hfree:∀x∈o.op.operands.toList,free (gC ops (isL listed) pend) x:=vv fun d' hd'=>by
  cases hm:gC ops (isL listed) pend d' with
  |false=>rfl
  |true=>
   obtain⟨j,hj,hlj,q,hq,hqd⟩:=fg.1 hm
   rcases hp.reads i j o q ho hq ((S.live j hj).2 q hq)with hb|⟨hb,_⟩
   ·rw[hanc j hb]at hlj;cases hlj
   ·exact absurd hd' (hb d' hqd)
 have E:=S.eq.on h
 have hgt:guardOf ops t o=some b:=by
  rw[E.guardOf (fun j b' q d' hgd hq hqd=>?_)];exact hg
  cases hm:gC ops (isL listed) pend d' with
  |false=>rfl
  |true=>
   obtain⟨k,hk,hlk,q',hq',hqd'⟩:=fg.1 hm
   have hkj:k=j:=by
    cases Nat.decEq k j with
    |isTrue e=>exact e
    |isFalse e=>exact absurd hqd (hp.dst k j q' q d' e hq' hq ((S.live k hk).2 q' hq') hqd')
   subst hkj
   rcases hp.reads i k o q' ho hq' ((S.live k hk).2 q' hq')with hb|⟨_,hb⟩
   ·rw[hanc k hb]at hlk;cases hlk
   ·exact absurd rfl (hb k b' hgd)
 have hmd:∀d,o.dst=some d→gC ops (isL listed) pend d=false:=fun d hd=>by
  cases hm:gC ops (isL listed) pend d with
  |false=>rfl
  |true=>
   obtain⟨k,hk,hlk,q,hq,hqd⟩:=fg.1 hm
   exact absurd hd (hp.dst k i q o d (fun e=>hni (e ▸ (S.live k hk).1)) hq ho ((S.live k hk).2 q hq) hqd)
 have hstill:∀j∈pend,isL listed j=false→j∈pend.filter fun p=>!(ep (dP ops plan []) i).testBit p:=fun j hj hl=>by
  rw[List.mem_filter]
  refine⟨hj,?_⟩
  cases hb:(ep (dP ops plan []) i).testBit j with
  |false=>rfl
  |true=>rw[hanc j hb]at hl;cases hl
 have nextS:∀s1 t1,di C (fk C.P) ops (dP ops plan []) (pend.filter fun p=>!(ep (dP ops plan []) i).testBit p) r K s1→M0 (gC ops (isL listed) pend) s1 t1→
   kI C K ops plan (isL (listed.setIfInBounds i true)) (done++[i]) r (pend.filter fun p=>!(ep (dP ops plan []) i).testBit p) s1 t1:=fun s1 t1 hw hm=>by
  refine⟨by rw[S.split];simp,fun j hj=>?_,fun j hj=>?_,fun j hj=>?_,hm.masks (fun y=>?_),hw⟩
  ·rw[fR hlt]
   have hne:i≠j:=fun e=>by
    subst e
    obtain⟨l1,l2,e⟩:=List.append_of_mem hj
    have:=hp.fresh (done++i::l1) i l2 (by rw[S.split,e];simp)
    exact this (by simp)
   rw[if_neg hne];exact S.todo j (by simp[hj])
  ·rw[fR hlt]
   split
   ·exact .inl rfl
   ·rename_i hne
    rcases List.mem_append.1 hj with hj|hj
    ·cases hl:isL listed j with
     |true=>exact .inl rfl
     |false=>
      rcases S.past j hj with h'|h'
      ·rw[hl]at h';cases h'
      ·exact .inr (hstill j h' hl)
    ·simp at hj;exact absurd hj.symm hne
  ·have hj':=(List.mem_filter.1 hj).1
   exact⟨by simp[(S.live j hj').1],(S.live j hj').2⟩
  ·cases hm:gC ops (isL listed) pend y with
   |true=>
    obtain⟨k,hk,hlk,q,hq,hqd⟩:=fg.1 hm
    refine fg.2 ⟨k,hstill k hk hlk,?_,q,hq,hqd⟩
    rw[fR hlt,if_neg (fun e=>hni (by rw[e];exact(S.live k hk).1))];exact hlk
   |false=>
    cases hm':gC ops (isL (listed.setIfInBounds i true)) (pend.filter fun p=>!(ep (dP ops plan []) i).testBit p) y with
    |false=>rfl
    |true=>
     obtain⟨k,hk,hlk,q,hq,hqd⟩:=fg.1 hm'
     have hk':=(List.mem_filter.1 hk).1
     rw[fR hlt,if_neg (fun e=>hni (by rw[e];exact(S.live k hk').1))]at hlk
     have:=fg.2 ⟨k,hk',hlk,q,hq,hqd⟩
     rw[hm]at this;cases this
 have hless:left (isL (listed.setIfInBounds i true)) r (pend.filter fun p=>!(ep (dP ops plan []) i).testBit p) < left (isL listed) (i::r) pend:=by
  have hup:∀j,isL listed j=true→isL (listed.setIfInBounds i true) j=true:=fun j hj=>by
   rw[fR hlt]
   split
   ·rfl
   ·exact hj
  have:=filter_le (L:=isL listed) (L':=isL (listed.setIfInBounds i true)) hup (fun p=>!(ep (dP ops plan []) i).testBit p) pend
  simp only[left,lC]
  omega
 unfold wpOp
 simp only[ho]
 have hw:=uj h hgt hdst
 cases b with
 |true=>
  rw[if_pos hw]
  refine .inl ?_
  have hst:=alE h S.eq hfree hpo hmd (h1 rfl)
  refine vS hX (fun _ _ _ _ h=>h) hG h (fun d hd=>hdst i o d ho hd) hst next (fun a' w' ⟨t',G',⟨s',hs',hm⟩,g1,g2,g3,g4⟩=>?_) Q
  exact hn a' w' s' t' G' _ (nextS s' t' hs' hm) g1 g2 g3 g4 hless
 |false=>
  rw[if_neg (by rw[hw];simp)]
  obtain⟨G',g1,g2⟩:=h.putO (d:=o.dst) (sv:=.undef) (x:=undef) rfl (fun d hd=>hdst i o d ho hd)
  exact hn _ _ _ _ G' _ (nextS _ _ (h2 rfl) (S.eq.put hmd .undef)) g1 g2 (jp _ _ _) (put_defers _ _ _) hless
theorem rn(hX:fF C) (hp:amR ex ops (dP ops plan []) plan) {w0:World} {G0:Gh} {n:Nat} {ds:List Deferred} (hdst:∀(j:Nat) (q:Oper) (d:Nat),ops[j]? =some q→q.dst=some d→d < n) (Q:Exit→Act→World→Prop)
  (hQ:∀a' w' s' G',K s'→Rel w' G' s' a'→Kept w0 G0 w' G'→a'.tmps.size=n→a'.defers=ds→Q .normal a' w'):
  ∀(fuel:Nat) (listed:Array Bool) (a:Act) (w:World) (s t:St) (G:Gh) (done rest pend:List Nat),listed.size=ops.size→kI C K ops plan (isL listed) done rest pend s t→ahk ops rest→Rel w G t a→G.P=C.P→Down ops (isL listed)→(ex.1=ex.2∨isL listed ex.1=true∨isL listed ex.2=true)→
   Kept w0 G0 w G→a.tmps.size=n→a.defers=ds→left (isL listed) rest pend≤fuel→wpAny C.P .any ops Q fuel listed a w:=by
 intro fuel
 induction fuel with
 |zero=>
  intro listed a w s t G done rest pend hsz S hh h hG hdown hxl hk hn hds hf
  have hr0:rest=[]:=by
   cases rest with
   |nil=>rfl
   |cons x r=>simp only[left,lC]at hf;omega
  subst hr0
  have hall:∀i∈plan,isL listed i=true:=fun i hi=>by
   rw[S.split,List.append_nil]at hi
   rcases S.past i hi with h'|h'
   ·exact h'
   ·cases hl:isL listed i with
    |true=>rfl
    |false=>
     simp only[left,List.length_nil,Nat.add_zero]at hf
     have:i∈pend.filter fun i=>!isL listed i:=List.mem_filter.2 ⟨h',by simp[hl]⟩
     have:=List.length_pos_of_mem this
     omega
  obtain⟨k1,k2⟩:=S.ended h hall
  refine⟨?_,hQ a w s G k1 k2 hk hn hds⟩
  cases hr:Region.ready .any ops listed with
  |nil=>rfl
  |cons x r=>
   have hx:x∈Region.ready .any ops listed:=by rw[hr];simp
   obtain⟨h1,o,ho,_⟩:=mem_ready.1 hx
   have hlt:x < ops.size:=(Array.getElem?_eq_some_iff.1 ho).1
   have:=hall x (hp.all x hlt)
   unfold isL at this
   have e:listed.getD x true=listed.getD x false:=by simp[show x < listed.size by omega]
   rw[e,this]at h1;cases h1
 |succ fuel ih=>
  intro listed a w s t G done rest pend hsz S hh h hG hdown hxl hk hn hds hf
  refine⟨fun hr=>?_,fun i hi=>?_⟩
  ·obtain⟨k1,k2⟩:=S.ended h (vU hp hsz hr)
   exact hQ a w s G k1 k2 hk hn hds
  ·obtain⟨h1,o,ho,haft⟩:=mem_ready.1 hi
   have hlt:i < ops.size:=(Array.getElem?_eq_some_iff.1 ho).1
   have hlt':i < listed.size:=by omega
   have hl:isL listed i=false:=by
    unfold isL
    have e:listed.getD i true=listed.getD i false:=by simp[hlt']
    rw[← e];exact h1
   have haft':∀e∈o.after,Region.binds .any e=true→isL listed e.on=true:=haft
   have hd1:Down ops (isL (listed.setIfInBounds i true)):=aew hlt' hdown (fun o' ho'=>by rw[ho]at ho';cases ho';exact haft')
   have hs1:(listed.setIfInBounds i true).size=ops.size:=by simp[hsz]
   have hxl':ex.1=ex.2∨isL (listed.setIfInBounds i true) ex.1=true∨isL (listed.setIfInBounds i true) ex.2=true:=hxl.imp id fun h=>h.imp (fun h=>by rw[fR hlt'];split <;> first|rfl|exact h) fun h=>by rw[fR hlt'];split <;> first|rfl|exact h
   have him:i∈plan:=hp.all i hlt
   rw[S.split]at him
   rcases List.mem_append.1 him with hid|hir
   ·have hip:i∈pend:=by
     rcases S.past i hid with h'|h'
     ·rw[hl]at h';cases h'
     ·exact h'
    refine S.passed hp hsz hh h hG hdown hip hl ho haft' (by rw[hn];exact hdst) _ Q fun a' w' t' G' S' h' k' n' d'=>?_
    refine ih _ a' w' s t' G' done rest pend hs1 S' hh h' (by rw[k'.P];exact hG) hd1 hxl' (hk.trans k') (n'.trans hn) (d'.trans hds) ?_
    have:=filter_lt (L:=isL listed) (L':=isL (listed.setIfInBounds i true)) (p:=i) (l:=pend) (fun j hj=>by rw[fR hlt'];split <;> first|rfl|exact hj) hip hl (by rw[fR hlt',if_pos rfl])
    simp only[left]at hf ⊢
    omega
   ·rcases hh with rfl|⟨x,r,q,rfl,hq,hpq⟩
    ·cases hir
    ·have hix:i=x:=by
      rcases List.mem_cons.1 hir with e|hir
      ·exact e
      ·exfalso
       obtain⟨l1,l2,e⟩:=List.append_of_mem hir
       have hxi:x≠i:=fun e2=>hp.fresh (done++x::l1) i l2 (by rw[S.split,e];simp) (by simp[e2])
       have hLx:=S.todo x (by simp)
       have hLi:=S.todo i (by rw[e];simp)
       rcases hp.act (done++x::l1) i l2 (by rw[S.split,e];simp) x (by simp) q hq hpq with hb|hb|hb
       ·have:=sC ho hb _ hdown haft'
        rw[hLx]at this;cases this
       ·rcases hxl with h'|h'|h' <;> rw[hb]at h'
        ·exact hxi h'.symm
        ·rw[hLi]at h';cases h'
        ·rw[hLx]at h';cases h'
       ·rcases hxl with h'|h'|h' <;> rw[hb]at h'
        ·exact hxi h'
        ·rw[hLx]at h';cases h'
        ·rw[hLi]at h';cases h'
     subst hix
     rw[ho]at hq;cases hq
     refine S.stepped hX hp hsz ho hpq h hG hdown haft' (by rw[hn];exact hdst) _ Q fun a' w' s' t' G' pend' S' h' k' n' d' hless=>?_
     obtain⟨done2,rest2,pend2,s2,t2,G2,g1,g2,g3,g4,g5⟩:=ua hp S' h'
     exact ih _ a' w' s2 t2 G2 done2 rest2 pend2 hs1 g1 g2 g3 (by rw[g4.P,k'.P];exact hG) hd1 hxl' ((hk.trans k').trans g4) (n'.trans hn) (d'.trans hds) (by omega)
theorem afa(hp:amR ex ops (dP ops plan []) plan){tab2:List (Nat×Nat)}{R1 R2:List Nat}{L:Nat→Bool}:∀{A done pend:List Nat} {s t:St} {G:Gh},(∀i∈A,akH ops i=true)→kI C K ops plan L done (A++R1) pend s t→di C (fk C.P) ops tab2 pend (A++R2) K s→Rel w G t a→
  ∃pend' s' t' G',kI C K ops plan L (done++A) R1 pend' s' t'∧di C (fk C.P) ops tab2 pend' R2 K s'∧Rel w G' t' a∧Kept w G w G'∧left L R1 pend'≤left L (A++R1) pend
 | [],done,pend,s,t,G,hA,S,E,h=>⟨pend,s,t,G,by simpa using S,E,h,Kept.refl w G,nR _⟩
 |i::A,done,pend,s,t,G,hA,S,E,h=>by
  have hw:=S.wp
  simp only[List.cons_append,di]at hw E
  obtain⟨o,ho,hw⟩:=hw
  obtain⟨o2,ho2,E⟩:=E
  rw[ho]at ho2;cases ho2
  have hpo:pass o=true:=by
   have:=hA i (by simp)
   unfold akH at this
   rw[ho]at this;exact this
  simp only[hpo]at hw E
  obtain⟨b,hb,h1,h2⟩:=hw
  obtain⟨b2,hb2,E1,E2⟩:=E
  rw[hb]at hb2;cases hb2
  obtain⟨d,hd⟩:=hp.has i o ho hpo
  have hLi:=S.todo i (by simp)
  have go:∀v,di C (fk C.P) ops (dP ops plan []) (i::pend) (A++R1) K (s.put o.dst v)→di C (fk C.P) ops tab2 (i::pend) (A++R2) K (s.put o.dst v)→∃pend' s' t' G',kI C K ops plan L (done++i::A) R1 pend' s' t'∧di C (fk C.P) ops tab2 pend' R2 K s'∧Rel w G' t' a∧Kept w G w G'∧left L R1 pend'≤left L (i::(A++R1)) pend:=fun v hv ev=>by
   obtain⟨pend',s',t',G',g1,g2,g3,g4,g5⟩:=afa hp (tab2:=tab2) (R1:=R1) (R2:=R2) (fun j hj=>hA j (by simp[hj])) (S.next1 hp h ho hpo hd hv) ev (h.kill (.slot d))
   refine⟨pend',s',t',G',by simpa using g1,g2,g3,(dJ w G (.slot d) .ret).trans g4,Nat.le_trans g5 ?_⟩
   simp only[left,List.filter_cons,hLi,Bool.not_false,if_true,lC]
   omega
  cases b with
  |true=>
   obtain⟨v,hv0,hv⟩:=h1 rfl
   obtain⟨v2,hv2,ev⟩:=E1 rfl
   rw[hv0]at hv2;cases hv2
   exact go v hv ev
  |false=>exact go .undef (h2 rfl) (E2 rfl)
theorem agp(hX:fF C){x y:Nat}{D B plan2:List Nat}{ox oy:Oper}(hp:amR (x,y) ops (dP ops plan []) plan)(hp2:amR (x,y) ops (dP ops plan2 []) plan2)(e1:plan=D++x::y::B)(e2:plan2=D++y::x::B)
  (hox:ops[x]? =some ox) (hoy:ops[y]? =some oy) (hpx:pass ox=false) (hpy:pass oy=false) {w0:World} {G0:Gh} {n:Nat} {ds:List Deferred} (hdst:∀(j:Nat) (q:Oper) (d:Nat),ops[j]? =some q→q.dst=some d→d < n) (Q:Exit→Act→World→Prop)
  (hQ:∀a' w' s' G',K s'→Rel w' G' s' a'→Kept w0 G0 w' G'→a'.tmps.size=n→a'.defers=ds→Q .normal a' w'):
  ∀(fuel:Nat) (listed:Array Bool) (a:Act) (w:World) (s t:St) (G:Gh) (pend:List Nat),listed.size=ops.size→kI C K ops plan (isL listed) D (x::y::B) pend s t→di C (fk C.P) ops (dP ops plan2 []) pend (y::x::B) K s→Rel w G t a→G.P=C.P→Down ops (isL listed)→
   Kept w0 G0 w G→a.tmps.size=n→a.defers=ds→left (isL listed) (x::y::B) pend≤fuel→wpAny C.P .any ops Q fuel listed a w:=by
 intro fuel
 induction fuel with
 |zero=>
  intro listed a w s t G pend hsz S E h hG hdown hk hn hds hf
  simp only[left,lC]at hf;omega
 |succ fuel ih=>
  intro listed a w s t G pend hsz S E h hG hdown hk hn hds hf
  have hh:ahk ops (x::y::B):=.inr ⟨x,y::B,ox,rfl,hox,hpx⟩
  refine⟨fun hr=>?_,fun i hi=>?_⟩
  ·obtain⟨k1,k2⟩:=S.ended h (vU hp hsz hr)
   exact hQ a w s G k1 k2 hk hn hds
  ·obtain⟨h1,o,ho,haft⟩:=mem_ready.1 hi
   have hlt:i < ops.size:=(Array.getElem?_eq_some_iff.1 ho).1
   have hlt':i < listed.size:=by omega
   have hl:isL listed i=false:=by
    unfold isL
    have e:listed.getD i true=listed.getD i false:=by simp[hlt']
    rw[← e];exact h1
   have haft':∀e∈o.after,Region.binds .any e=true→isL listed e.on=true:=haft
   have hd1:Down ops (isL (listed.setIfInBounds i true)):=aew hlt' hdown (fun o' ho'=>by rw[ho]at ho';cases ho';exact haft')
   have hs1:(listed.setIfInBounds i true).size=ops.size:=by simp[hsz]
   have him:i∈plan:=hp.all i hlt
   rw[S.split]at him
   rcases List.mem_append.1 him with hid|hir
   ·have hip:i∈pend:=by
     rcases S.past i hid with h'|h'
     ·rw[hl]at h';cases h'
     ·exact h'
    refine S.passed hp hsz hh h hG hdown hip hl ho haft' (by rw[hn];exact hdst) _ Q fun a' w' t' G' S' h' k' n' d'=>?_
    refine ih _ a' w' s t' G' pend hs1 S' E h' (by rw[k'.P];exact hG) hd1 (hk.trans k') (n'.trans hn) (d'.trans hds) ?_
    have:=filter_lt (L:=isL listed) (L':=isL (listed.setIfInBounds i true)) (p:=i) (l:=pend) (fun j hj=>by rw[fR hlt'];split <;> first|rfl|exact hj) hip hl (by rw[fR hlt',if_pos rfl])
    simp only[left]at hf ⊢
    omega
   ·have hLx:=S.todo x (by simp)
    by_cases hix:i=x
    ·subst hix
     rw[ho]at hox;cases hox
     refine S.stepped hX hp hsz ho hpx h hG hdown haft' (by rw[hn];exact hdst) _ Q fun a' w' s' t' G' pend' S' h' k' n' d' hless=>?_
     obtain⟨done2,rest2,pend2,s2,t2,G2,g1,g2,g3,g4,g5⟩:=ua hp S' h'
     exact rn hX hp hdst Q hQ fuel _ a' w' s2 t2 G2 done2 rest2 pend2 hs1 g1 g2 g3 (by rw[g4.P,k'.P];exact hG) hd1 (.inr (.inl (by rw[fR hlt',if_pos rfl]))) ((hk.trans k').trans g4) (n'.trans hn) (d'.trans hds) (by omega)
    ·by_cases hiy:i=y
     ·subst hiy
      rw[ho]at hoy;cases hoy
      have S2:kI C K ops plan2 (isL listed) D (i::x::B) pend s t:=⟨e2,fun j hj=>S.todo j (by
       simp only[mC]at hj ⊢
       rcases hj with h|h|h
       ·exact .inr (.inl h)
       ·exact .inl h
       ·exact .inr (.inr h)),S.past,S.live,S.eq,E⟩
      refine S2.stepped hX hp2 hsz ho hpy h hG hdown haft' (by rw[hn];exact hdst) _ Q fun a' w' s' t' G' pend' S' h' k' n' d' hless=>?_
      obtain⟨done2,rest2,pend2,s2,t2,G2,g1,g2,g3,g4,g5⟩:=ua hp2 S' h'
      have hf2:left (isL listed) (i::x::B) pend≤fuel+1:=by simp only[left,lC]at hf ⊢;omega
      exact rn hX hp2 hdst Q hQ fuel _ a' w' s2 t2 G2 done2 rest2 pend2 hs1 g1 g2 g3 (by rw[g4.P,k'.P];exact hG) hd1 (.inr (.inr (by rw[fR hlt',if_pos rfl]))) ((hk.trans k').trans g4) (n'.trans hn) (d'.trans hds) (by omega)
     ·exfalso
      have hiB:i∈B:=by
       simp only[mC]at hir
       rcases hir with h|h|h
       ·exact absurd h hix
       ·exact absurd h hiy
       ·exact h
      obtain⟨l1,l2,e⟩:=List.append_of_mem hiB
      rcases hp.act (D++x::y::l1) i l2 (by rw[S.split,e];simp) x (by simp) ox hox hpx with hb|hb|hb
      ·have:=sC ho hb _ hdown haft'
       rw[hLx]at this;cases this
      ·simp only[pJ]at hb;exact hix hb.1.symm
      ·simp only[pJ]at hb;exact hiy hb.2.symm
theorem aiS(w:World)(G:Gh):Kept w G { w with drawn:=w.drawn+1 } G:=⟨rfl,rfl,rfl,nR _,fun _ h _=>⟨h,rfl⟩,fun _ h _=>⟨h,rfl⟩,nR _,fun _ _=>rfl,rfl⟩
theorem Rel.world{w':World}(h:Rel w G s a)(hk:Kept w G w' G)(hh:w'.heap=w.heap):Rel w' G s a:=by
 have hc:∀ad,w'.cell? ad=w.cell? ad:=fun ad=>lZ (by rw[hh])
 have hrow:∀{t:Tag} {k:TypeId} {xs:List au} {v:Value},cp w G t k xs v→cp w' G t k xs v:=fun hr=>by
  rcases hr with hr|⟨b,cap,arr,h1,h2,h3,h4,h5,h6,h7,h8⟩
  ·exact .inl hr
  ·exact .inr ⟨b,cap,arr,h1,h2,by rw[hh];exact h3,h4,h5,h6,h7,h8.mono hk.mono⟩
 have hcv:∀{t:Tag} {c:CV} {v:Value},dK w G t c v→dK w' G t c v:=fun {t c v} hr=>by
  cases c with
  |val d=>exact cU.mono hk.mono hr
  |nil=>exact hr
  |row k xs=>exact hrow hr
  |dead=>trivial
 refine⟨fun i=>?_,⟨h.heap.n,fun l ob ho=>⟨(h.heap.obj l ob ho).1,?_⟩⟩,fun b hb=>h.fresh b (by rw[← hh];exact hb)⟩
 ·have:=ez.move (s':=s) (a':=a) (fun _=>false) hk.mono (u':=.slot i) (fun k xs _ hr=>hrow hr) (fun r _ q hq=>⟨hq,fun v hv=>by
   cases r with
   |slot j=>exact hv
   |cell l j=>simp only[dn]at hv ⊢;rw[hc];exact hv⟩) (h.slots i)
  rwa[nl]at this
 ·have ho':=(h.heap.obj l ob ho).2
  cases ob with
  |cells cs=>
   obtain⟨h1,arr,e,fr,h2,h3,h4,h5⟩:=ho'
   exact⟨h1,arr,e,fr,by rw[hh];exact h2,h3,h4,fun i c v hci hv=>⟨hcv (h5 i c v hci hv).1,(h5 i c v hci hv).2⟩⟩
  |map kt es=>
   obtain⟨h1,hk',ents,clock,h2,h3,h4⟩:=ho'
   exact⟨h1,hk',ents,clock,by rw[hh];exact h2,h3,fun i e m he hm=>⟨((h4 i e m he hm).1).mono hk.mono,((h4 i e m he hm).2).mono hk.mono⟩⟩
theorem ab0(hX:fF C)(hm:C.P.follows .mixedOrders=true){id:Nat}(h:Rel w G s a)(hG:G.P=C.P)(hdst:∀(j:Nat) (q:Oper) (d:Nat),ops[j]? =some q→q.dst=some d→d < a.tmps.size)(Q:Exit→Act→World→Prop)
  (hw:amc C (fk C.P) ops plan K s) (hQ:∀a' w' s' G',K s'→Rel w' G' s' a'→Kept w G w' G'→a'.tmps.size=a.tmps.size→a'.defers=a.defers→Q .normal a' w'):(Code.region id ops true).wp C.P Q a w:=by
 refine wp_region_any hm ?_
 have hk:=aiS w G
 have h':=h.world hk rfl
 have hl0:∀i,isL (Array.replicate ops.size false) i=false:=fun i=>by
  unfold isL
  by_cases hi:i < ops.size
  ·simp[hi]
  ·simp[hi]
 have S:∀{plan:List Nat},di C (fk C.P) ops (dP ops plan []) [] plan K s→kI C K ops plan (isL (Array.replicate ops.size false)) [] plan [] s s:=fun hw=>⟨rfl,fun i _=>hl0 i,fun i hi=>(by cases hi),fun i hi=>(by cases hi),⟨rfl,fun _ _=>rfl,fun i hi=>by
  obtain⟨j,hj,_⟩:=fg.1 hi
  cases hj⟩,hw⟩
 have hdn:Down ops (isL (Array.replicate ops.size false)):=by
  intro i o ho hi;rw[hl0 i]at hi;cases hi
 rcases hw with⟨hpl,hw⟩|⟨A,x,y,B,rfl,htw,hw1,hw2⟩
 ·have hp:=acK (ex:=(0,0)) hpl
  obtain⟨done',rest',pend',s',t',G',g1,g2,g3,g4,g5⟩:=ua hp (S hw) h'
  refine rn hX hp (w0:=w) (G0:=G) (n:=a.tmps.size) (ds:=a.defers) hdst Q hQ ops.size _ a _ s' t' G' done' rest' pend' (by simp) g1 g2 g3 (by rw[g4.P];exact hG) hdn (.inl rfl) (hk.trans g4) rfl rfl ?_
  refine Nat.le_trans g5 ?_
  simp only[left,List.filter_nil,List.length_nil,Nat.zero_add]
  rw[hp.len];exact nR _
 ·simp only[xw,bA]at htw
  obtain⟨⟨⟨⟨t1,t2⟩,t3⟩,t4⟩,t5⟩:=htw
  have hp:=acK t1
  have hp2:=acK t2
  have st:∀{i:Nat},aev ops i=true→∃o,ops[i]? =some o∧pass o=false:=fun {i} hi=>by
   unfold aev at hi
   split at hi
   ·rename_i o ho;exact⟨o,ho,by simpa using hi⟩
   ·cases hi
  obtain⟨ox,hox,hpx⟩:=st t4
  obtain⟨oy,hoy,hpy⟩:=st t5
  obtain⟨pend',s',t',G',g1,g2,g3,g4,g5⟩:=afa hp (R1:=x::y::B) (R2:=y::x::B) (fun i hi=>List.all_eq_true.1 t3 i hi) (S hw1) hw2 h'
  refine agp hX hp hp2 rfl rfl hox hoy hpx hpy (w0:=w) (G0:=G) (n:=a.tmps.size) (ds:=a.defers) hdst Q hQ ops.size _ a _ s' t' G' pend' (by simp) (by simpa using g1) g2 g3 (by rw[g4.P];exact hG) hdn (hk.trans g4) rfl rfl ?_
  refine Nat.le_trans g5 ?_
  simp only[left,List.filter_nil,List.length_nil,Nat.zero_add]
  rw[hp.len];exact nR _
variable{P:Program}{w:World}{G:Gh}{s:St}{a:Act}{C:Ctx}
def awR:Ex→Exit
 |.normal=>.normal
 |.exit id=>.exit id
 |.ret=>.ret
def avl(m:Nat)(w0:World)(G0:Gh)(n:Nat)(ds:List Deferred)(Q:Ex→St→Prop)(e:Exit)(a:Act)(w:World):Prop:=
 ∃ex s G,awR ex=e∧Q ex s∧Rel w G s a∧nf m w0 G0 w G∧a.tmps.size=n∧a.defers=ds
theorem avl.from{m:Nat}{w1:World}{G1:Gh}{n:Nat}{ds:List Deferred}{Q:Ex→St→Prop}{e:Exit}(hk:nf m w G w1 G1){a':Act}{w':World}(h:avl m w1 G1 n ds Q e a' w'):avl m w G n ds Q e a' w':=by
 obtain⟨ex,s,G',h1,h2,h3,h4,h5⟩:=h
 exact⟨ex,s,G',h1,h2,h3,hk.trans h4,h5⟩
theorem tW(hX:fF C)(hR:∀f as h Q,fk C.P f as h Q→fk C.P f as h Q){ops:Array Oper}{n:Nat}{ds:List Deferred}(hdst:∀(j:Nat) (q:Oper) (d:Nat),ops[j]? =some q→q.dst=some d→d < n){K:St→Prop}(Q:Exit→Act→World→Prop)
  {w0:World} {G0:Gh} (hQ:∀a' w' s' G',K s'→Rel w' G' s' a'→Kept w0 G0 w' G'→a'.tmps.size=n→a'.defers=ds→Q .normal a' w'):
  ∀(l:List Oper),(∀o∈l,∃j:Nat,ops[j]? =some o)→∀{s:St} {a:Act} {w:World} {G:Gh},wpOps C (fk C.P) ops l K s→Rel w G s a→G.P=C.P→Kept w0 G0 w G→a.tmps.size=n→a.defers=ds→wpList C.P ops Q l a w
 | [],_,s,a,w,G,hw,h,hG,hk,hn,hd=>hQ a w s G hw h hk hn hd
 |o::l,hl,s,a,w,G,hw,h,hG,hk,hn,hd=>by
  obtain⟨b,hg,h1,h2⟩:=hw
  obtain⟨j,hj⟩:=hl o (by simp)
  have hwa:=uj h hg (by rw[hn];exact hdst)
  simp only[wpList]
  cases b with
  |true=>
   rw[if_pos hwa]
   refine .inl (vS hX hR hG h (fun d hd=>by rw[hn];exact hdst j o d hj hd) (h1 rfl) _ (fun a' w' ⟨s',G',g1,g2,g3,g4,g5⟩=>?_) Q)
   exact tW hX hR hdst Q hQ l (fun x hx=>hl x (by simp[hx])) g1 g2 (by rw[g3.P];exact hG) (hk.trans g3) (g4.trans hn) (g5.trans hd)
  |false=>
   rw[if_neg (by rw[hwa];simp)]
   obtain⟨G',g1,g2⟩:=h.putO (d:=o.dst) (sv:=.undef) (x:=undef) rfl (fun d hd=>by rw[hn];exact hdst j o d hj hd)
   exact tW hX hR hdst Q hQ l (fun x hx=>hl x (by simp[hx])) (h2 rfl) g1 (by rw[g2.P];exact hG) (hk.trans g2) ((jp _ _ _).trans hn) ((put_defers _ _ _).trans hd)
theorem vZ{n id:Nat}{ops:Array Oper}{dr:Bool}(h:within n (.region id ops dr)=true):∀(j:Nat) (q:Oper) (d:Nat),ops[j]? =some q→q.dst=some d→d < n:=fun j q d hq hd=>by
 have:=List.all_eq_true.1 h q (by simpa using Array.mem_of_getElem? hq)
 simpa[hd]using this
theorem jl(hX:fF C)(hm:C.P.follows .mixedOrders=true){m n:Nat}{ds:List Deferred}:∀(c:Code) {Q:Ex→St→Prop} {s:St} {w:World} {G:Gh} {a:Act},aO C (fk C.P) m c Q s→Rel w G s a→G.P=C.P→within n c=true→a.tmps.size=n→a.defers=ds→
  c.wp C.P (avl m w G n ds Q) a w
 |.skip,Q,s,w,G,a,hw,h,hG,hi,hn,hd=>wp_skip ⟨.normal,s,G,rfl,hw,h,nf.refl m w G,hn,hd⟩
 |.region id ops false,Q,s,w,G,a,⟨s1,hto,hw⟩,h,hG,hi,hn,hd=>by
  obtain⟨G1,h1,k1⟩:=h.to hto
  refine wp_region_list ?_
  exact tW hX (fun _ _ _ _ h=>h) (vZ hi) _ (fun a' w' s' G' g1 g2 g3 g4 g5=>⟨.normal,s',G',rfl,g1,g2,k1.trans g3.toM,g4,g5⟩) ops.toList (fun o ho=>by
   obtain⟨j,hj⟩:=List.getElem?_of_mem ho
   exact⟨j,by simpa using hj⟩) hw h1 (by rw[k1.P];exact hG) (Kept.refl w G1) hn hd
 |.region id ops true,Q,s,w,G,a,⟨s1,plan,hto,hw⟩,h,hG,hi,hn,hd=>by
  obtain⟨G1,h1,k1⟩:=h.to hto
  exact ab0 hX hm h1 (by rw[k1.P];exact hG) (by rw[hn];exact vZ hi) _ hw (fun a' w' s' G' g1 g2 g3 g4 g5=>⟨.normal,s',G',rfl,g1,g2,k1.trans g3.toM,g4.trans hn,g5.trans hd⟩)
 |.seq x y,Q,s,w,G,a,hw,h,hG,hi,hn,hd=>by
  simp only[within,bA]at hi
  refine wp_seq (wp_mono (jl hX hm x hw h hG hi.1 hn hd) fun e a' w' ⟨ex,s',G',h1,h2,h3,h4,h5,h6⟩=>?_)
  subst h1
  cases ex with
  |normal=>
   obtain⟨s1,hto,h2⟩:=h2
   obtain⟨G1,h3',k1⟩:=h3.to hto
   exact wp_mono (jl hX hm y h2 h3' (by rw[k1.P,h4.P];exact hG) hi.2 h5 h6) fun e a2 w2 hl=>(hl.from k1).from h4
  |exit id=>exact⟨.exit id,s',G',rfl,h2,h3,h4,h5,h6⟩
  |ret=>exact⟨.ret,s',G',rfl,h2,h3,h4,h5,h6⟩
 |.cond c x y,Q,s,w,G,a,⟨t,ht,h1,h2⟩,h,hG,hi,hn,hd=>by
  simp only[within,bA]at hi
  have ho:=h.opv c
  rw[ht]at ho
  have ho':cU w G (.bool t) (a.eval c):=ho
  have hc:a.eval c= .bool t:=by
   generalize a.eval c=u at ho' ⊢
   cases ho';rfl
  exact wp_cond_split hc (fun e=>jl hX hm x (h1 e) h hG hi.1 hn hd) (fun e=>jl hX hm y (h2 e) h hG hi.2 hn hd)
 |.block id c,Q,s,w,G,a,hw,h,hG,hi,hn,hd=>by
  refine wp_block (wp_mono (jl hX hm c hw h hG hi hn hd) fun e a' w' ⟨ex,s',G',h1,h2,h3,h4,h5,h6⟩=>?_)
  subst h1
  cases ex with
  |normal=>exact⟨.normal,s',G',rfl,h2,h3,h4,h5,h6⟩
  |ret=>exact⟨.ret,s',G',rfl,h2,h3,h4,h5,h6⟩
  |exit i=>
   simp only[Ex.inBlock]at h2
   simp only[awR,Exit.inBlock]
   split
   ·rename_i e;rw[if_pos e]at h2;exact⟨.normal,s',G',rfl,h2,h3,h4,h5,h6⟩
   ·rename_i e;rw[if_neg e]at h2;exact⟨.exit i,s',G',rfl,h2,h3,h4,h5,h6⟩
 |.loop c,Q,s,w,G,a,hw,h,hG,hi,hn,hd=>by
  have key:=hw (fun s=>∀(w:World) (G:Gh) (a:Act),Rel w G s a→G.P=C.P→a.tmps.size=n→a.defers=ds→∀(b:Frame) (k:List Item) (cs:List Frame),
   ∃e a' w',avl m w G n ds Q e a' w'∧Arrives C.P (lone (b.at a (.code c:: .inLoop c::k)) cs w) b k cs e a' w') (fun s ⟨s1,hto,hb⟩ w G a h hG hn hd b k cs=>by
    obtain⟨G1,h1,k1⟩:=h.to hto
    obtain⟨e,a1,w1,⟨ex,s',G',g1,g2,g3,g4,g5,g6⟩,harr⟩:=jl hX hm c hb h1 (by rw[k1.P];exact hG) hi hn hd b (.inLoop c::k) cs
    subst g1
    cases ex with
    |normal=>
     obtain⟨e2,a2,w2,hl,harr2⟩:=g2 w1 G' a1 g3 (by rw[g4.P,k1.P];exact hG) g5 g6 b k cs
     exact⟨e2,a2,w2,(hl.from g4).from k1,.of_steps (Steps.trans harr (.one step_inLoop)) harr2⟩
    |exit id=>exact⟨_,a1,w1,⟨.exit id,s',G',rfl,g2,g3,k1.trans g4,g5,g6⟩,.pass (x:=.inLoop c) rfl (fun _ _=>.inl (by simp[awR])) harr⟩
    |ret=>exact⟨_,a1,w1,⟨.ret,s',G',rfl,g2,g3,k1.trans g4,g5,g6⟩,.pass (x:=.inLoop c) rfl (fun _ _=>.inl (by simp[awR])) harr⟩)
  intro b k cs
  obtain⟨e,a',w',hl,harr⟩:=key w G a h hG hn hd b k cs
  exact⟨e,a',w',hl,.of_steps (.one step_loop) harr⟩
 |.exit id,Q,s,w,G,a,hw,h,hG,hi,hn,hd=>wp_exit ⟨.exit id,s,G,rfl,hw,h,nf.refl m w G,hn,hd⟩
 |.ret,Q,s,w,G,a,hw,h,hG,hi,hn,hd=>wp_ret ⟨.ret,s,G,rfl,hw,h,nf.refl m w G,hn,hd⟩
 |.scope _,_,_,_,_,_,hw,_,_,_,_,_=>hw.elim
 |.label _,_,_,_,_,_,hw,_,_,_,_,_=>hw.elim
 |.goto _,_,_,_,_,_,hw,_,_,_,_,_=>hw.elim
 |.refuse _,_,_,_,_,_,hw,_,_,_,_,_=>hw.elim
 |.rangeFunc ..,_,_,_,_,_,hw,_,_,_,_,_=>hw.elim
theorem dq.length{t:Nat→Tag}:∀{i:Nat} {as:List SV} {vs:List Value},dq w G t i as vs→as.length=vs.length
 |_,_,_,.nil _=>rfl
 |_,_,_,.cons _ _ _ _ _ _ h=>by simp[h.length]
theorem uZ{t:Nat→Tag}:∀{as:List SV} {vs:List Value} {i j:Nat},dq w G t i as vs→(look (entry i as) j= .cv .dead)∨∃c v,look (entry i as) j= .cv c∧i≤j∧vs[j - i]? =some v∧dK w G (t j) c v
 | [],_,i,j,.nil _=>.inl rfl
 |_::_,_::_,i,j,.cons _ c v as vs h1 h2=>by
  simp only[entry,look]
  by_cases e:i=j
  ·subst e
   rw[if_pos rfl]
   exact .inr ⟨c,v,rfl,nR _,by simp,h1⟩
  ·rw[if_neg e]
   rcases uZ (j:=j) h2 with h|⟨c',v',g1,g2,g3,g4⟩
   ·exact .inl h
   ·refine .inr ⟨c',v',g1,by omega,?_,g4⟩
    have:j - i=(j - (i+1))+1:=by omega
    rw[this];simpa using g3
theorem amv{args:List SV}{vs:List Value}{h:bn}{n:Nat}(ha:dq w G .slot 0 args vs)(hh:nj w G h)(hf:∀b,w.heap.size≤b→G.g b= .other)(hn:args.length≤n):
  Rel w G ⟨entry 0 args,h⟩ { tmps:=vs.toArray++Array.replicate (n - vs.toArray.size) undef,defers:=[] }:=by
 refine⟨fun i=>?_,hh,hf⟩
 show ez _ _ _ _ _ (look (entry 0 args) i) _
 rcases uZ (j:=i) ha with e|⟨c,v,g1,g2,g3,g4⟩
 ·rw[e];trivial
 ·rw[g1]
  have hlt:i < vs.length:=by have:=(List.getElem?_eq_some_iff.1 g3).1;simpa using this
  have:(vs.toArray++Array.replicate (n - vs.toArray.size) undef).getD i undef=v:=by
   simp only[Nat.sub_zero]at g3
   have hv:vs[i]=v:=by
    have:=List.getElem?_eq_some_iff.1 g3
    exact this.2
   rw[Array.getD_eq_getD_getElem?,Array.getElem?_append]
   simp[hlt,hv]
  rw[this];exact g4
def pz(a:Act):ResultVar→Sem Value
 |.tmp t=>pure (a.tmps.getD t undef)
 |.cell x t=>do loadVar t (← asAddr (a.tmps.getD x undef))
theorem acy{v:Value}{t:TypeId}{x:Value}(h:(Instr.loadAt t v).run P w= .ok x w):((do loadVar t (← asAddr v)):Sem Value).run P w= .ok x w:=by
 simp only[Instr.loadAt,Sem.run_bind]at h ⊢
 cases v with
 |pointer p=>
  cases p with
  |none=>simp[Instr.sureAddr,stuck]at h
  |some ad=>exact h
 |_=>simp[Instr.sureAddr,stuck]at h
theorem adM(hP:G.P=P)(h:Rel w G s a){x:Nat}{t:TypeId}{d:au}{es:List Eff}(hd:eT (loadOp P s t (.tmp x))=some (d,es)):es=[]∧∃v,(pz a (.cell x t)).run P w= .ok v w∧cU w G d v:=by
 cases ho:loadOp P s t (.tmp x)with
 |none=>rw[ho]at hd;cases hd
 |some o=>
  obtain⟨sv,es'⟩:=o
  rw[ho]at hd
  cases sv with
  |cv c=>
   cases c with
   |val d'=>
    simp only[eT,sJ,pJ]at hd
    obtain⟨rfl,rfl⟩:=hd
    refine⟨rfl,?_⟩
    obtain⟨_,y,h1,h2⟩:=wg (o:=⟨none,.load t (.tmp x),t, "",#[],none⟩) h hP rfl ho
    refine⟨y,acy ?_,h2⟩
    simp only[execOp,Sem.run_bind,Sem.run_pure]at h1
    cases hL:(Instr.loadAt t (a.eval (.tmp x))).run P w with
    |ok y' w'=>
     rw[hL]at h1
     simp only[Result.andThen_ok,Result.ok.injEq,Next.value.injEq]at h1
     obtain⟨rfl,rfl⟩:=h1
     exact hL
    |halt r w'=>rw[hL]at h1;cases h1
   |_=>cases hd
  |_=>cases hd
theorem oK{f:FuncId}:∀{rs:List ResultVar} {s:St} {G:Gh} {out:List SV} {h':bn},G.P=C.P→Rel w G s a→results C f s rs=some (out,h')→
  ∃us G',(rs.mapM (pz a)).run C.P w= .ok us w∧dD w G' out us∧nj w G' h'∧(∀b,w.heap.size≤b→G'.g b= .other)∧Kept w G w G'
 | [],s,G,out,h',_,h,hr=>by
  simp only[results,sJ,pJ]at hr
  obtain⟨rfl,rfl⟩:=hr
  exact⟨[],G,rfl,.nil,h.heap,h.fresh,Kept.refl w G⟩
 |r::rs,s,G,out,h',hP,h,hr=>by
  have hcons:∀{v us},(pz a r).run C.P w= .ok v w→(rs.mapM (pz a)).run C.P w= .ok us w→((r::rs).mapM (pz a)).run C.P w= .ok (v::us) w:=fun h1 h2=>by
   simp only[List.mapM_cons,Sem.run_bind,h1,h2,Result.andThen_ok,Sem.run_pure]
  cases hg:C.gives f with
  |data=>
   have hr':((fB C.P s r).bind fun d=>(results C f (s.effs d.2) rs).bind fun q=>some (SV.cv (.val d.1)::q.1,q.2))=some (out,h'):=by
    unfold results at hr;rw[hg]at hr;exact hr
   simp only[ae,sJ,pJ]at hr'
   obtain⟨⟨d,e1⟩,hd,⟨o2,h2⟩,hrs,rfl,rfl⟩:=hr'
   cases r with
   |cell x t=>
    obtain⟨he,v,hv,hrel⟩:=adM hP h hd
    subst he
    obtain⟨us,G2,k1,k2,k3,k4,k5⟩:=oK hP h hrs
    exact⟨v::us,G2,hcons hv k1,.cons (.val d) _ _ _ (cU.mono k5.mono hrel) k2,k3,k4,k5⟩
   |tmp t=>
    have hd':s.asVal (.tmp t)=some (d,e1):=hd
    obtain⟨G1,g1,g2⟩:=h.asVal hd'
    obtain⟨us,G2,k1,k2,k3,k4,k5⟩:=oK (by rw[g1.kept.P];exact hP) g1.rel hrs
    exact⟨_::us,G2,hcons rfl k1,.cons (.val d) _ _ _ (cU.mono k5.mono g2) k2,k3,k4,g1.kept.trans k5⟩
  |move=>
   unfold results at hr
   rw[hg]at hr
   cases r with
   |cell _ _=>cases hr
   |tmp t=>
   cases rs with
   |cons _ _=>cases hr
   |nil=>
   simp only at hr
   have hs:=h.slots t
   have one:(([ResultVar.tmp t]:List ResultVar).mapM (pz a)).run C.P w= .ok [a.tmps.getD t undef] w:=hcons rfl rfl
   have fin:∀(r:fb) (k:TypeId) (xs:List au),cp w G (eC r) k xs (a.tmps.getD t undef)→fb.isCell r=false→∃us G',(([ResultVar.tmp t]:List ResultVar).mapM (pz a)).run C.P w= .ok us w∧dD w G' [.cv (.row k xs)] us∧nj w G' s.box∧(∀b,w.heap.size≤b→G'.g b= .other)∧Kept w G w G':=fun r k xs hrow hc=>by
    cases r with
    |cell l i=>cases hc
    |slot i=>
     refine⟨_,G.re (.slot i) .ret,one,.cons _ _ _ _ (cp.retag hrow (by intro e;cases e)) .nil,h.heap.re (by intro e;cases e) (by intro l e;cases e) (by intro l i e;cases e),fun b hb=>?_,nm w G (by intro e;cases e) (by intro e;cases e)⟩
     simp only[Gh.re,h.fresh b hb];rw[if_neg (by intro e;cases e)]
   split at hr
   ·rename_i he
    simp only[sJ,pJ]at hr
    obtain⟨rfl,rfl⟩:=hr
    rw[he]at hs
    exact⟨_,G,one,.cons _ _ _ _ hs .nil,h.heap,h.fresh,Kept.refl w G⟩
   ·rename_i k xs he
    simp only[sJ,pJ]at hr
    obtain⟨rfl,rfl⟩:=hr
    rw[he]at hs
    exact fin (.slot t) k xs hs rfl
   ·rename_i i he
    simp only[ae,sJ,pJ]at hr
    obtain⟨p,hp,rfl,rfl⟩:=hr
    rw[he]at hs
    obtain⟨v,hv,hrow⟩:=h.row (k:=p.1) (xs:=p.2) hp
    obtain⟨_,hv'⟩:=hs
    rw[← cJ hv' hv]at hrow
    exact fin (.slot i) p.1 p.2 hrow rfl
   ·cases hr
theorem tY{fn:Func}{us:List Value}(hr:(fn.results.toList.mapM (pz a)).run P w= .ok us w):(Go.results fn a.tmps).run P w= .ok (pP us) w:=by
 unfold Go.results
 rw[Array.mapM_eq_mapM_toList]
 rw[Sem.run_bind]
 change ((Sem.run P (fn.results.toList.mapM (pz a) >>= fun x=>pure (List.toArray x)) w).andThen _)=_
 rw[Sem.run_bind,hr]
 simp only[Result.andThen_ok,Sem.run_pure]
 cases us with
 |nil=>rfl
 |cons u us=>
  cases us with
  |nil=>rfl
  |cons v us=>simp[pP]
theorem gG.less{n l:Nat}(hl:l < n){o o':dB}(h:gG w G l o)(hf:o.fits o')(hu:o'.under n):gG w (G.less n) l o':=by
 cases o' with
 |cells cs'=>
  cases o with
  |map _ _=>cases hf
  |cells cs=>
   obtain⟨g1,arr,e,fr,g2,g3,g4,g5⟩:=h
   refine⟨Gh.less_box hl g1,arr,e,fr,g2,g3,by rw[g4];exact tN hf,fun i c' v hc' hv=>?_⟩
   obtain⟨c,hc,hfc⟩:=sT hf i c' hc'
   obtain⟨k1,k2⟩:=g5 i c v hc hv
   exact⟨dK.less (Gh.less_Less _) (fun b hb=>Gh.less_cell hl hb) (dK.fits k1 hfc) (mA hu c' (List.mem_of_getElem? hc')),k2⟩
 |map kt es=>
  have e:o= .map kt es:=by cases o <;> exact hf
  subst e
  obtain⟨g1,gk,ents,clock,g2,g3,g4⟩:=h
  refine⟨Gh.less_box hl g1,gk,ents,clock,g2,g3,fun i e m he hm=>?_⟩
  obtain⟨k1,k2⟩:=g4 i e m he hm
  obtain⟨u1,u2⟩:=oU hu e (List.mem_of_getElem? he)
  exact⟨cU.less (Gh.less_Less _) k1 u1,cU.less (Gh.less_Less _) k2 u2⟩
theorem dD.less{n:Nat}:∀{os:List SV} {vs:List Value},dD w G os vs→(∀v∈os,v.under n)→dD w (G.less n) os vs
 |_,_,.nil,_=>.nil
 |_,_,.cons c v os vs h1 h2,hu=>.cons c v os vs (dK.less (Gh.less_Less _) (fun b hb=>by simp[Gh.less,hb]) h1 (hu (.cv c) (by simp))) (h2.less fun v hv=>hu v (by simp[hv]))
theorem ajd{m:Nat}{h h':bn}{os:List SV}{vs:List Value}(hd:bn.Drops m h h' os)(ho:dD w G os vs)(hh:nj w G h)(hf:∀b,w.heap.size≤b→G.g b= .other):
  ∃G',dD w G' os vs∧nj w G' h'∧(∀b,w.heap.size≤b→G'.g b= .other)∧nf m w G w G':=by
 refine⟨G.less h'.n,ho.less hd.outs,⟨rfl,fun l o' ho'=>?_⟩,fun b hb=>by simp[Gh.less,hf b hb],rfl,rfl,rfl,nR _,fun b hb _=>⟨by simp[Gh.less,hb],rfl⟩,fun b hb _=>⟨by simp[Gh.less,hb],rfl⟩,fun _=>hd.lo,fun _ _ _=>rfl,rfl⟩
 obtain⟨hl,hu,o,ho,hf⟩:=hd.obj l o' ho'
 exact⟨hl,(hh.obj l o ho).2.less hl hf hu⟩
theorem dq.under{t:Nat→Tag}:∀{i:Nat} {as:List SV} {vs:List Value},dq w G t i as vs→∀v∈as,v.under G.n
 |_,_,_,.nil _,v,hv=>by cases hv
 |_,_,_,.cons i c x as vs h1 h2,v,hv=>by
  rcases List.mem_cons.1 hv with rfl|hv
  ·exact dK.under h1
  ·exact h2.under v hv
theorem lM{w:World}{G:Gh}:∀{os:List SV} {vs:List Value},dD w G os vs→dD w (G.re .ret .imm) (os.map akC) vs
 |_,_,.nil=>.nil
 |_,_,.cons c v os vs h1 h2=>by
  cases c with
  |val d=>exact .cons (.val d) v _ vs (cU.mono (ik w G (by intro e;cases e)) h1) (lM h2)
  |nil=>exact .cons .nil v _ vs h1 (lM h2)
  |row k xs=>exact .cons (.val (.sl xs)) v _ vs (cp.fixed h1 (by intro e;cases e)) (lM h2)
  |dead=>exact .cons .dead v _ vs trivial (lM h2)
theorem zV(hX:fF C)(hm:C.P.follows .mixedOrders=true):(fk C.P).Closed C:=by
 refine⟨fun f args h Q hbody=>?_,fun f a h o h' Q hh hq=>?_,fun f a h Q hr=>⟨hr.1,fun w G vs hG ha hh hf=>(hr.2 w G vs hG ha hh hf).mono fun e w' ⟨us,out,h1,G',he,hq,ho,hh',hfr,hk⟩=>⟨us,out.map akC,h1,G'.re .ret .imm,he,hq,lM ho,hh'.re (by intro e;cases e) (by intro l e;cases e) (by intro l i e;cases e),fun b hb=>?_,hk.trans (nm w' G' (by intro e;cases e) (by intro e;cases e))⟩⟩⟩
 rotate_left
 rotate_left
 ·have:=hfr b hb
  simp only[Gh.re,this];rfl
 rotate_left
 ·obtain⟨he,hc⟩:=hX.hand _ _ _ _ _ hh
  refine⟨he,fun w G vs hG ha hr hf=>(hc w G vs hG ha hr hf).mono fun e w' ⟨us,out,h1,G',h2,he',h4⟩=>by obtain⟨rfl,rfl⟩:=he';exact⟨us,_,_,G',h2,hq,h4⟩⟩
 obtain⟨fn,code,hf,hb,hl,hin,hname,hw⟩:=hbody
 refine⟨⟨fn,code,hf,hb,hname⟩,fun w G vs hG ha hh hfr=>?_⟩
 have hwf:=hh.wf
 have hmn:h.n=G.n:=hh.n.symm
 have hrel:=amv (n:=fn.ntmps) ha hh hfr hl
 have hln:=ha.length
 refine calls_of_wp hf hb (wp_mono (jl hX hm (n:=fn.ntmps) (ds:=[]) code (hw hwf (by rw[hmn];exact ha.under)) hrel hG hin (by simp;omega) rfl) fun e a' w' ⟨ex,s',G',h1,h2,h3,h4,h5,h6⟩=>?_)
 have fin:∀(hq:∃s1,St.To h.n s' s1∧∃out h',results C f s1 fn.results.toList=some (out,h')∧∃h'',(h''=h'∨bn.Drops h.n h' h'' out)∧Q out h''),a'.defers=[]∧∃v,(Go.results fn a'.tmps).run C.P w'= .ok v w'∧
   ∃us out h' G',Ending.returned v= .returned (pP us)∧Q out h'∧dD w' G' out us∧nj w' G' h'∧(∀b,w'.heap.size≤b→G'.g b= .other)∧Kept w G w' G':=fun⟨s1,hto,out,h',hr,h'',hdr,hQ⟩=>by
  obtain⟨G1,h3',k0⟩:=h3.to hto
  have hG1:G1.P=C.P:=by rw[k0.P,h4.P];exact hG
  obtain⟨us,G2,k1,k2,k3,k4,k5⟩:=oK hG1 h3' hr
  have kk:=(h4.trans k0).trans k5.toM
  rcases hdr with rfl|hdr
  ·refine⟨h6,_,tY k1,_,out,h'',G2,rfl,hQ,k2,k3,k4,?_⟩
   rw[hmn]at kk
   exact kk.toK
  ·obtain⟨G3,g1,g2,g3,g4⟩:=ajd hdr k2 k3 k4
   refine⟨h6,_,tY k1,_,out,h'',G3,rfl,hQ,g1,g2,g3,?_⟩
   have kk':=kk.trans g4
   rw[hmn]at kk'
   exact kk'.toK
 subst h1
 cases ex with
 |normal=>exact fin h2
 |ret=>exact fin h2
 |exit id=>exact h2.elim
theorem qV(hX:fF C)(hm:C.P.follows .mixedOrders=true){f:FuncId}{args:List SV}{h:bn}{Q:List SV→bn→Prop}(hr:cq C f args h Q):fk C.P f args h Q:=hr _ (zV hX hm)
def aeR(s:St)(d:Option Nat):Option Out→Option St
 |some (v,es)=>some ((s.effs es).put d v)
 |none=>none
def uE(P:Program)(s:St)(o:Oper):Option Bool→Option St
 |some true=>aeR s o.dst (aop P s o)
 |some false=>some (s.put o.dst .undef)
 |none=>none
mutual
def gX(P:Program)(ops:Array Oper):List Oper→St→Option St
 | [],s=>some s
 |o::os,s=>wz P ops os (uE P s o (guardOf ops s o))
def wz(P:Program)(ops:Array Oper):List Oper→Option St→Option St
 |os,some s=>gX P ops os s
 |_,none=>none
end
theorem qK{P:Program}{s s1:St}{o:Oper}{g:Option Bool}(h:uE P s o g=some s1):∃b,g=some b∧(b=true→∃r,aop P s o=some r∧s1=(s.effs r.2).put o.dst r.1)∧(b=false→s1=s.put o.dst .undef):=by
 cases g with
 |none=>simp[uE]at h
 |some b=>
  cases b with
  |true=>
   refine⟨true,rfl,fun _=>?_,fun e=>(by cases e)⟩
   simp only[uE]at h
   cases ha:aop P s o with
   |none=>rw[ha]at h;simp[aeR]at h
   |some r=>rw[ha]at h;simp only[aeR,sJ]at h;exact⟨r,rfl,h.symm⟩
  |false=>
   refine⟨false,rfl,fun e=>(by cases e),fun _=>?_⟩
   simp only[uE,sJ]at h
   exact h.symm
theorem sR{P:Program}{ops:Array Oper}{o:Oper}{os:List Oper}{s s':St}(h:gX P ops (o::os) s=some s'):∃s1,uE P s o (guardOf ops s o)=some s1∧gX P ops os s1=some s':=by
 rw[gX]at h
 cases he:uE P s o (guardOf ops s o)with
 |none=>rw[he,wz]at h;cases h
 |some s1=>rw[he,wz]at h;exact⟨s1,rfl,h⟩
theorem ak4{P:Program}{s:St}{o:Oper}{f:Operand}{args:Array Operand}{ts:Array TypeId}(h:o.op= .call ⟨.value f,args,ts⟩):aop P s o=none:=by
 unfold aop;rw[h]
theorem oP{C:Ctx}{R:dm}{s:St}{o:Oper}{v:SV}{es:List Eff}{K:St→Prop}(h:aop C.P s o=some (v,es))(hk:K ((s.effs es).put o.dst v)):kQ C R s o K:=by
 unfold kQ
 split
 ·rename_i f args ts hop
  rw[ak4 hop]at h;cases h
 ·exact .inr ⟨v,es,h,hk⟩
theorem aer{C:Ctx}{R:dm}{ops:Array Oper}{K:St→Prop}:∀{l:List Oper} {s s':St},gX C.P ops l s=some s'→K s'→wpOps C R ops l K s
 | [],s,s',h,hk=>by rw[gX]at h;cases h;exact hk
 |o::os,s,s',h,hk=>by
  obtain⟨s1,h1,h2⟩:=sR h
  obtain⟨b,hb,ht,hf⟩:=qK h1
  refine⟨b,hb,fun e=>?_,fun e=>?_⟩
  ·obtain⟨r,hr,e1⟩:=ht e
   subst e1
   exact oP hr (aer h2 hk)
  ·have e1:=hf e
   subst e1
   exact aer h2 hk
theorem ann{C:Ctx}{R:dm}{ops:Array Oper}{K:St→Prop}(k:Nat){l:List Oper}{s s':St}(h:gX C.P ops (l.take k) s=some s')(hk:wpOps C R ops (l.drop k) K s'):wpOps C R ops l K s:=by
 have key:∀(l1 l2:List Oper) (s s':St),gX C.P ops l1 s=some s'→wpOps C R ops l2 K s'→wpOps C R ops (l1++l2) K s:=by
  intro l1
  induction l1 with
  |nil=>intro l2 s s' h hk;rw[gX]at h;cases h;exact hk
  |cons o os ih=>
   intro l2 s s' h hk
   obtain⟨s1,h1,h2⟩:=sR h
   obtain⟨b,hb,ht,hf⟩:=qK h1
   refine⟨b,hb,fun e=>?_,fun e=>?_⟩
   ·obtain⟨r,hr,e1⟩:=ht e
    subst e1
    exact oP hr (ih _ _ _ h2 hk)
   ·have e1:=hf e
    subst e1
    exact ih _ _ _ h2 hk
 have:=key (l.take k) (l.drop k) s s' h hk
 rwa[List.take_append_drop]at this
section
variable{C:Ctx}{R:dm}{m:Nat}{Q:Ex→St→Prop}{K:St→Prop}{s s1:St}
theorem al{a b:Code}(h:aO C R m a (Ex.then (fun s=>∃s1,St.To m s s1∧aO C R m b Q s1) Q) s):aO C R m (.seq a b) Q s:=h
theorem kM{id:Nat}{ops:Array Oper}{l:List Oper}{s':St}(hl:ops.toList=l)(h:gX C.P ops l s=some s')(hk:Q .normal s'):aO C R m (.region id ops false) Q s:=⟨s,.refl s,aer (hl ▸ h) hk⟩
theorem ayz{id:Nat}{ops:Array Oper}{d:Bool}(ht:St.To m s s1)(h:aO C R m (.region id ops d) Q s1)(htr:∀{s2},St.To m s1 s2→St.To m s s2):aO C R m (.region id ops d) Q s:=by
 cases d with
 |false=>obtain⟨s2,h1,h2⟩:=h;exact⟨s2,htr h1,h2⟩
 |true=>obtain⟨s2,pl,h1,h2⟩:=h;exact⟨s2,pl,htr h1,h2⟩
theorem auI{c:Operand}{a b:Code}{t:Bool}(hc:s.opv c= .cv (.val (.bool t)))(h1:t=true→aO C R m a Q s)(h2:t=false→aO C R m b Q s):aO C R m (.cond c a b) Q s:=⟨t,hc,h1,h2⟩
theorem aw{id:Nat}{c:Code}(h:aO C R m c (Ex.inBlock id Q) s):aO C R m (.block id c) Q s:=h
theorem az(h:Q .normal s):aO C R m .skip Q s:=h
theorem ca{id:Nat}(h:Q (.exit id) s):aO C R m (.exit id) Q s:=h
theorem bk(h:Q .ret s):aO C R m .ret Q s:=h
theorem To.trans{s s1 s2:St}(h:St.To m s s1):St.To m s1 s2→St.To m s s2:=by
 induction h with
 |refl s=>exact id
 |weak s s1 sl h _ ih=>exact fun k=>.weak s _ sl h (ih k)
 |fix s s1 r k xs h _ ih=>exact fun k'=>.fix s _ r k xs h (ih k')
 |shrink s s' s1 h _ ih=>exact fun k=>.shrink s s' _ h (ih k)
end
inductive Step(σ ρ:Type) where
 |next (s:σ)
 |done (r:ρ)
def Holds{α:Type}(o:Option α)(D:α→Prop):Prop:=
 match o with
 |some a=>D a
 |none=>False
theorem Holds.get{α:Type}{o:Option α}{D:α→Prop}(h:Holds o D):∃a,o=some a∧D a:=by
 cases o with
 |none=>exact h.elim
 |some a=>exact⟨a,rfl,h⟩
theorem Holds.of{α:Type}{a:α}{D:α→Prop}(h:Holds (some a) D):D a:=h
theorem Holds.bind{α β:Type}{o:Option α}{k:α→Option β}{D:β→Prop}(h:Holds (o.bind k) D):∃a,o=some a∧Holds (k a) D:=by
 cases o with
 |none=>exact h.elim
 |some a=>exact⟨a,rfl,h⟩
theorem Holds.intro{α:Type}{o:Option α}{a:α}{D:α→Prop}(e:o=some a)(h:D a):Holds o D:=by rw[e];exact h
theorem Holds.mono{α:Type}{o:Option α}{D D':α→Prop}(h:Holds o D)(hd:∀a,D a→D' a):Holds o D':=by
 cases o with
 |none=>exact h.elim
 |some a=>exact hd a h
noncomputable def lim{α:Type}(f:Nat→Option α):Option α:=
 open Classical in if h:∃a n,∀k,n≤k→f k=some a then some h.choose else none
theorem qb{α:Type}{f:Nat→Option α}{a:α}(n:Nat)(h:∀k,n≤k→f k=some a):lim f=some a:=by
 have he:∃a n,∀k,n≤k→f k=some a:=⟨a,n,h⟩
 unfold lim
 rw[dif_pos he]
 obtain⟨n',hn'⟩:=he.choose_spec
 have h1:=hn' (max n n') (Nat.le_max_right _ _)
 rw[h _ (Nat.le_max_left _ _)]at h1
 exact congrArg some (sI h1).symm
theorem jK{α:Type}{f:Nat→Option α}{a:α}(h:lim f=some a):∃n,∀k,n≤k→f k=some a:=by
 unfold lim at h
 split at h
 ·rename_i he
  have e:he.choose=a:=sI h
  have:=he.choose_spec
  rw[e]at this
  exact this
 ·cases h
def rounds{σ ρ:Type}(body:σ→Option (Step σ ρ)):Nat→σ→Option ρ
 |0,_=>none
 |n+1,s=>match body s with
  |some (.next s')=>rounds body n s'
  |some (.done r)=>some r
  |none=>none
noncomputable def Loop{σ ρ:Type}(body:σ→Option (Step σ ρ))(s:σ):Option ρ:=lim fun n=>rounds body n s
theorem tc{σ ρ:Type}{body:σ→Option (Step σ ρ)}{r:ρ}:∀{n:Nat} {s:σ},rounds body n s=some r→∀k,n≤k→rounds body k s=some r
 |0,s,h,_,_=>by simp[rounds]at h
 |n+1,s,h,k,hk=>by
  obtain⟨k,rfl⟩:∃j,k=j+1:=⟨k - 1,by omega⟩
  simp only[rounds]at h ⊢
  cases hb:body s with
  |none=>rw[hb]at h;simp at h
  |some st=>
   rw[hb]at h
   cases st with
   |next s'=>exact tc (s:=s') h k (by omega)
   |done r'=>exact h
theorem adb{σ ρ:Type}{body:σ→Option (Step σ ρ)}{r:ρ}{n:Nat}{s:σ}(h:rounds body n s=some r):Loop body s=some r:=qb n fun k hk=>tc h k hk
theorem sA{σ ρ:Type}{body:σ→Option (Step σ ρ)}{r:ρ}{s:σ}(h:Loop body s=some r):∃n,rounds body n s=some r:=by
 obtain⟨n,hn⟩:=jK h
 exact⟨n,hn n (nR _)⟩
theorem Option.ext_some{α:Type}{a b:Option α}(h1:∀r,a=some r→b=some r)(h2:∀r,b=some r→a=some r):a=b:=by
 cases a with
 |some r=>exact(h1 r rfl).symm
 |none=>cases b with
  |none=>rfl
  |some r=>exact h2 r rfl
theorem bM{σ ρ:Type}{body:σ→Option (Step σ ρ)}{s s':σ}(h:body s=some (.next s')):Loop body s=Loop body s':=by
 apply Option.ext_some
 ·intro r hr
  obtain⟨n,hn⟩:=sA hr
  cases n with
  |zero=>simp[rounds]at hn
  |succ n=>simp only[rounds,h]at hn;exact adb hn
 ·intro r hr
  obtain⟨n,hn⟩:=sA hr
  exact adb (n:=n+1) (by simp only[rounds,h];exact hn)
theorem cP{σ ρ:Type}{body:σ→Option (Step σ ρ)}{s:σ}{r:ρ}(h:body s=some (.done r)):Loop body s=some r:=
 adb (n:=1) (by simp only[rounds,h])
theorem amk{σ ρ:Type}{body:σ→Option (Step σ ρ)}{R:Option ρ}(I:σ→Prop)(μ:σ→Nat)
  (h:∀s,I s→(∃s',body s=some (.next s')∧I s'∧μ s' < μ s)∨(∃r,R=some r∧body s=some (.done r))):∀s,I s→Loop body s=R:=by
 have key:∀(n:Nat) (s:σ),μ s=n→I s→Loop body s=R:=by
  intro n
  induction n using Nat.strongRecOn with
  |_ n ih=>
   intro s hn hs
   rcases h s hs with⟨s',h1,h2,h3⟩|⟨r,h1,h2⟩
   ·rw[bM h1];exact ih (μ s') (by omega) s' rfl h2
   ·rw[h1];exact cP h2
 exact fun s hs=>key _ s rfl hs
def Aft{σ ρ:Type}(W:σ→Prop)(D:ρ→Prop):Step σ ρ→Prop
 |.next s=>W s
 |.done r=>D r
theorem cb{C:Ctx}{m:Nat}{Q:Ex→St→Prop}{s:St}{c:Code}{σ ρ:Type}{body:σ→Option (Step σ ρ)}{x0:σ}{D:ρ→Prop}(inv:σ→St)(hr:Holds (Loop body x0) D)(hs:St.To m s (inv x0))
  (h:∀(W:σ→Prop) (x:σ),Holds (body x) (Aft W D)→aO C (cq C) m c (Ex.then (fun s'=>∃y,W y∧St.To m s' (inv y)) Q) (inv x)):aO C (cq C) m (.loop c) Q s:=by
 obtain⟨r,h1,hD⟩:=hr.get
 obtain⟨n,hn⟩:=sA h1
 have key:∀(n:Nat) (x:σ) (s:St),rounds body n x=some r→St.To m s (inv x)→mZ m (aO C (cq C) m c) Q s:=by
  intro n
  induction n with
  |zero=>intro x s hn;simp[rounds]at hn
  |succ n ih=>
   intro x s hn hs
   refine mZ.step (inv x) hs (eD (dm.Le.refl_runs C) c (Ex.then_mono (fun s' ⟨y,hy,ht⟩=>ih y s' hy ht) (fun _ _=>id)) _ (h (fun y=>rounds body n y=some r) x ?_))
   simp only[rounds]at hn
   cases hb:body x with
   |none=>rw[hb]at hn;simp at hn
   |some st=>
    rw[hb]at hn
    cases st with
    |next y=>exact hn
    |done r'=>simp only[sJ]at hn;subst hn;exact hD
 exact key n x0 s hn hs
theorem atp{C:Ctx}{R:dm}{m:Nat}{Q:Ex→St→Prop}{s:St}{c:Operand}{x y:Code}{t:Bool}{α:Type}{A B:Option α}{D:α→Prop}(hc:s.opv c= .cv (.val (.bool t)))(hr:Holds (if t=true then A else B) D)
  (h1:t=true→Holds A D→aO C R m x Q s) (h2:t=false→Holds B D→aO C R m y Q s):aO C R m (.cond c x y) Q s:=
 ⟨t,hc,fun e=>h1 e (by rw[if_pos e]at hr;exact hr),fun e=>h2 e (by subst e;exact hr)⟩
structure dd{α:Type}(a b:α):Prop where
 ne:a≠b
theorem anz{i:Nat}{v:SV}{l:List (Nat×SV)}:look ((i,v)::l) i=v:=by simp[look]
theorem akg{i j:Nat}{v:SV}{l:List (Nat×SV)}(h:dd i j):look ((i,v)::l) j=look l j:=by simp[look,h.ne]
theorem ano{j:Nat}:look [] j= .cv .dead:=rfl
theorem asd{r:fb}{c:CV}:SV.unal r (.cv c)= .cv c:=rfl
theorem agB{r:fb}:SV.unal r .undef= .undef:=rfl
theorem ao4{r:fb}{cs:List au}:SV.unal r (.imm cs)= .imm cs:=rfl
theorem ape{r:fb}{cs:List CV}:SV.unal r (.bld cs)= .bld cs:=rfl
theorem amV{r:fb}{ds:List au}:SV.unal r (.tup ds)= .tup ds:=rfl
theorem ah8{r r':fb}(h:dd r' r):SV.unal r (.alias r')= .alias r':=by simp[SV.unal,SV.drop,h.ne]
theorem xE{r:fb}:SV.unal r (.alias r)= .cv .dead:=by simp[SV.unal,SV.drop]
theorem aog{r r':fb}{i o:Nat}(h:dd r' r):SV.unal r (.elt r' i o)= .elt r' i o:=by simp[SV.unal,SV.drop,h.ne]
theorem ab7{r:fb}{i o:Nat}:SV.unal r (.elt r i o)= .cv .dead:=by simp[SV.unal,SV.drop]
theorem uA{r:fb}{d:au}:SV.refix r d (.alias r)= .cv (.val d):=by simp[SV.refix]
theorem yF{r:fb}{i o:Nat}{d:au}:SV.refix r d (.elt r i o)= .cv .dead:=by simp[SV.refix]
theorem apz{r:fb}{c:CV}{d:au}:SV.refix r d (.cv c)= .cv c:=rfl
theorem aiI{r:fb}{d:au}{cs:List au}:SV.refix r d (.imm cs)= .imm cs:=rfl
theorem alL{r:fb}{d:au}{cs:List CV}:SV.refix r d (.bld cs)= .bld cs:=rfl
theorem ajB{r:fb}{d:au}{ds:List au}:SV.refix r d (.tup ds)= .tup ds:=rfl
def aqT(s:St)(h:bn)(sl0:List (Nat×SV)):List (Nat×SV)→Prop
 | []=>True
 |(i,v)::sl=>(s.get i).fits v∧v.rooted ⟨sl0,h⟩∧aqT s h sl0 sl
theorem aat{s:St}{h:bn}{sl0:List (Nat×SV)}:∀{sl:List (Nat×SV)},aqT s h sl0 sl→∀p∈sl,(s.get p.1).fits p.2∧p.2.rooted ⟨sl0,h⟩
 | [],_,p,hp=>by cases hp
 |(i,v)::sl,hw,p,hp=>by
  rcases List.mem_cons.1 hp with rfl|hp
  ·exact⟨hw.1,hw.2.1⟩
  ·exact aat hw.2.2 p hp
theorem To.of{m:Nat}{s:St}{sl:List (Nat×SV)}{h:bn}(hb:s.box=h)(hw:aqT s h sl sl):St.To m s ⟨sl,h⟩:=by
 subst hb
 exact .weak s _ sl (aat hw) (.refl _)
theorem acH{C:Ctx}{f:FuncId}{s:St}:results C f s []=some ([],s.box):=rfl
def al5(d:au):Option (List SV×bn)→Option (List SV×bn)
 |some (os,h)=>some (.cv (.val d)::os,h)
 |none=>none
def wZ(C:Ctx)(f:FuncId)(s:St)(rs:List ResultVar):Option (au×List Eff)→Option (List SV×bn)
 |some (d,es)=>al5 d (results C f (s.effs es) rs)
 |none=>none
theorem ai{C:Ctx}{f:FuncId}{s:St}{r:ResultVar}{rs:List ResultVar}(hg:C.gives f= .data):results C f s (r::rs)=wZ C f s rs (fB C.P s r):=by
 rw[results]
 ·cases fB C.P s r with
  |none=>rfl
  |some d=>
   simp only[oB,wZ]
   cases results C f (s.effs d.2) rs <;> rfl
 ·exact hg
def xc(h:bn)(s:St):SV→Option (List SV×bn)
 |.cv .nil=>some ([.cv .nil],h)
 |.cv (.row k xs)=>some ([.cv (.row k xs)],h)
 |.alias (.slot i)=>(s.rowAt (.slot i)).bind fun p=>some ([.cv (.row p.1 p.2)],h)
 |_=>none
theorem gf{C:Ctx}{f:FuncId}{s:St}{t:Nat}(hg:C.gives f= .move):results C f s [.tmp t]=xc s.box s (s.get t):=by
 have h:results C f s [.tmp t]=(match s.get t with
   |SV.cv .nil=>some ([SV.cv .nil],s.box)
   |SV.cv (.row k xs)=>some ([SV.cv (.row k xs)],s.box)
   |SV.alias (.slot i)=>(s.rowAt (.slot i)).bind fun p=>some ([SV.cv (.row p.1 p.2)],s.box)
   |_=>none):=by
  unfold results;rw[hg];rfl
 rw[h]
 cases s.get t with
 |cv c=>cases c <;> rfl
 |alias r=>cases r <;> rfl
 |_=>rfl
theorem dg{P:Program}{t:TypeId}{i:TypeInfo}(w:World)(h:∀w,(typeInfo t).run P w= .ok i w):P.info? t=some i:=by
 have:=h w
 simp only[typeInfo,Sem.run_bind,run_program,Result.andThen_ok]at this
 cases hi:P.info? t with
 |none=>rw[hi]at this;simp at this
 |some j=>rw[hi]at this;simp at this;rw[this]
theorem cI{P:Program}{t:TypeId}{i:TypeInfo}(h:P.info? t=some i):P.cellsOf t=i.size:=by simp[Program.cellsOf,h]
theorem iH{P:Program}{t:TypeId}{i:TypeInfo}(h:P.info? t=some i):P.bytesOf t=i.bytes:=by simp[Program.bytesOf,h]
abbrev OS(σ ρ:Type):=Option (Step σ ρ)
variable{P:Program}{s:St}{x y:Operand}
def aoe:Option au→Option Out
 |some d=>some (.cv (.val d),[])
 |none=>none
def yG(x:Operand):SV→Option Out
 |.cv (.val d)=>some (.cv (.val d),[])
 |.cv .nil=>some (.cv .nil,[])
 |.cv (.row _ _)=>some (.alias (.slot (mc x)),[])
 |.alias r=>some (.alias r,[])
 |.imm cs=>some (.imm cs,[])
 |.elt r i o=>some (.elt r i o,[])
 |.bld cs=>some (.bld cs,[])
 |.tup ds=>some (.tup ds,[])
 |.cv .dead=>none
 |.undef=>none
theorem za:moveOp s x=yG x (s.opv x):=by
 unfold moveOp
 cases s.opv x with
 |cv c=>cases c <;> rfl
 |_=>rfl
def aqn(i:Nat):Option (TypeId×List au)→Option Out
 |some (k,xs)=>some (.cv (.row k xs),[.kill (.slot i)])
 |none=>none
def mr(s:St)(x:Operand):SV→Option Out
 |.cv (.val d)=>some (.cv (.val d),[])
 |.cv .nil=>some (.cv .nil,[])
 |.cv (.row k xs)=>some (.cv (.row k xs),[.kill (.slot (mc x))])
 |.alias (.slot i)=>aqn i (s.rowAt (.slot i))
 |.alias (.cell l i)=>some (.alias (.cell l i),[])
 |.imm cs=>some (.imm cs,[])
 |.elt r i o=>some (.elt r i o,[])
 |.bld cs=>some (.bld cs,[])
 |.tup ds=>some (.tup ds,[])
 |.cv .dead=>none
 |.undef=>none
theorem acr:assignOp s x=mr s x (s.opv x):=by
 unfold assignOp moveOp
 cases h:s.opv x with
 |cv c=>cases c <;> rfl
 |alias r=>
  cases r with
  |cell l i=>rfl
  |slot i=>
   simp only[mr]
   cases s.rowAt (.slot i) <;> rfl
 |_=>rfl
def ax6:Option (List au)→Option au
 |some ds=>some (.agg ds)
 |none=>none
def ant:SV→Option au
 |.cv (.val d)=>some d
 |.bld cs=>ax6 (je cs)
 |.cv .nil=>none
 |.cv (.row _ _)=>none
 |.cv .dead=>none
 |.alias _=>none
 |.imm _=>none
 |.elt _ _ _=>none
 |.tup _=>none
 |.undef=>none
theorem ajD:optVal s x=ant (s.opv x):=by
 unfold optVal
 cases s.opv x with
 |cv c=>cases c <;> rfl
 |bld cs=>simp only[ant];cases je cs <;> rfl
 |_=>rfl
def alH(r:fb):Option (TypeId×List au)→Option (au×List Eff)
 |some (_,xs)=>some (.sl xs,[.fix r (.sl xs)])
 |none=>none
def ayf:Option (List au)→Option (au×List Eff)
 |some ds=>some (.agg ds,[])
 |none=>none
def yP(s:St)(x:Operand):SV→Option (au×List Eff)
 |.cv (.val d)=>some (d,[])
 |.cv .nil=>some (.sl [],[])
 |.cv (.row _ xs)=>some (.sl xs,[.fix (.slot (mc x)) (.sl xs)])
 |.alias r=>alH r (s.rowAt r)
 |.bld cs=>ayf (je cs)
 |.cv .dead=>none
 |.imm _=>none
 |.elt _ _ _=>none
 |.tup _=>none
 |.undef=>none
theorem aof:s.asVal x=yP s x (s.opv x):=by
 unfold St.asVal
 cases s.opv x with
 |cv c=>cases c <;> rfl
 |alias r=>simp only[yP];cases s.rowAt r <;> rfl
 |bld cs=>simp only[yP];cases je cs <;> rfl
 |_=>rfl
def apA(r:fb):Option (TypeId×List au)→Option (List CV×List Eff)
 |some (_,xs)=>some ([.val (.sl xs)],[.fix r (.sl xs)])
 |none=>none
def tT(s:St)(x:Operand):SV→Option (List CV×List Eff)
 |.cv (.val d)=>some (d.cells.map .val,[])
 |.cv .nil=>some ([.nil],[])
 |.cv (.row k xs)=>some ([.row k xs],[.kill (.slot (mc x))])
 |.alias r=>apA r (s.rowAt r)
 |.bld cs=>some (cs,[])
 |.cv .dead=>none
 |.imm _=>none
 |.elt _ _ _=>none
 |.tup _=>none
 |.undef=>none
theorem agE:s.asCells x=tT s x (s.opv x):=by
 unfold St.asCells
 cases s.opv x with
 |cv c=>cases c <;> rfl
 |alias r=>simp only[tT];cases s.rowAt r <;> rfl
 |_=>rfl
def akO(k:TypeId)(r:fb):Option (TypeId×List au)→Option (List au×List Eff)
 |some (k',xs)=>if k'=k then some (xs,[.kill r])else none
 |none=>none
def an6(s:St)(k:TypeId)(x:Operand):SV→Option (List au×List Eff)
 |.cv .nil=>some ([],[])
 |.cv (.row k' xs)=>if k'=k then some (xs,[.kill (.slot (mc x))])else none
 |.alias r=>akO k r (s.rowAt r)
 |.cv (.val _)=>none
 |.cv .dead=>none
 |.imm _=>none
 |.elt _ _ _=>none
 |.bld _=>none
 |.tup _=>none
 |.undef=>none
theorem amU{k:TypeId}:s.asRow k x=an6 s k x (s.opv x):=by
 unfold St.asRow
 cases s.opv x with
 |cv c=>cases c <;> rfl
 |alias r=>simp only[an6];cases s.rowAt r <;> rfl
 |_=>rfl
def intD:au→Option (IntKind×Int)
 |.int k n=>some (k,n)
 |.bool _=>none
 |.str _=>none
 |.sl _=>none
 |.agg _=>none
 |.ptr _=>none
 |.map _=>none
 |.fn _ _ _=>none
 |.nilfn=>none
def avo:SV→Option (IntKind×Int)
 |.cv (.val d)=>intD d
 |.cv .nil=>none
 |.cv (.row _ _)=>none
 |.cv .dead=>none
 |.alias _=>none
 |.imm _=>none
 |.elt _ _ _=>none
 |.bld _=>none
 |.tup _=>none
 |.undef=>none
theorem apv:s.asInt x=avo (s.opv x):=by
 unfold St.asInt
 cases s.opv x with
 |cv c=>
  cases c with
  |val d=>cases d <;> rfl
  |_=>rfl
 |_=>rfl
def amx:Option (TypeId×List au)→Option (List au)
 |some (_,xs)=>some xs
 |none=>none
def slD:au→Option (List au)
 |.sl xs=>some xs
 |.int _ _=>none
 |.bool _=>none
 |.str _=>none
 |.agg _=>none
 |.ptr _=>none
 |.map _=>none
 |.fn _ _ _=>none
 |.nilfn=>none
def yc(s:St):SV→Option (List au)
 |.cv (.val d)=>slD d
 |.cv .nil=>some []
 |.cv (.row _ xs)=>some xs
 |.alias r=>amx (s.rowAt r)
 |.cv .dead=>none
 |.imm _=>none
 |.elt _ _ _=>none
 |.bld _=>none
 |.tup _=>none
 |.undef=>none
theorem ats{sv:SV}:s.list sv=yc s sv:=by
 cases sv with
 |cv c=>
  cases c with
  |val d=>cases d <;> rfl
  |_=>rfl
 |alias r=>simp only[St.list,yc];cases s.rowAt r <;> rfl
 |_=>rfl
variable{P:Program}{s:St}{x y:Operand}
def avx:Option (au×List Eff)→Option (List CV×List Eff)
 |some (d,es)=>some (ai7 d.cells,es)
 |none=>none
def aep(s:St)(x:Operand):SV→Option (List CV×List Eff)
 |.cv .nil=>some ([.nil],[])
 |.bld cs=>some (cs,[])
 |.cv (.val d)=>some (ai7 d.cells,[])
 |.cv (.row _ xs)=>some (ai7 [.sl xs],[.fix (.slot (mc x)) (.sl xs)])
 |.alias r=>avx (alH r (s.rowAt r))
 |.cv .dead=>none
 |.imm _=>none
 |.elt _ _ _=>none
 |.tup _=>none
 |.undef=>none
theorem aax:partCells s x=aep s x (s.opv x):=by
 unfold partCells St.asVal
 cases s.opv x with
 |cv c=>cases c <;> rfl
 |alias r=>simp only[aep];cases s.rowAt r <;> rfl
 |_=>rfl
def amh:SV→Option (TypeId×List au)
 |.cv (.row k xs)=>some (k,xs)
 |.cv (.val _)=>none
 |.cv .nil=>none
 |.cv .dead=>none
 |.alias _=>none
 |.imm _=>none
 |.elt _ _ _=>none
 |.bld _=>none
 |.tup _=>none
 |.undef=>none
theorem rowAt_slot{i:Nat}:s.rowAt (.slot i)=amh (s.get i):=by
 simp only[St.rowAt]
 cases s.get i with
 |cv c=>cases c <;> rfl
 |_=>rfl
def aj6:CV→Option (TypeId×List au)
 |.row k xs=>some (k,xs)
 |.val _=>none
 |.nil=>none
 |.dead=>none
theorem agl{l i:Nat}:s.rowAt (.cell l i)=aj6 (s.box.cell l i):=by
 simp only[St.rowAt]
 cases s.box.cell l i <;> rfl
def cellOf(i:Nat):Option dB→CV
 |some (.cells cs)=>cs.getD i .dead
 |some (.map _ _)=>.dead
 |none=>.dead
theorem apu{h:bn}{l i:Nat}:h.cell l i=cellOf i (h.at_ l):=by
 unfold bn.cell
 cases h.at_ l with
 |none=>rfl
 |some o=>cases o <;> rfl
def aav(h:bn)(l i:Nat)(c:CV):Option dB→bn
 |some (.cells cs)=>h.upd l (.cells (cs.set i c))
 |some (.map _ _)=>h
 |none=>h
theorem acO{h:bn}{l i:Nat}{c:CV}:h.setCell l i c=aav h l i c (h.at_ l):=by
 unfold bn.setCell
 cases h.at_ l with
 |none=>rfl
 |some o=>cases o <;> rfl
def aiA(s:St)(d:Nat)(v:SV):SV→St
 |.cv (.row _ _)=>⟨(d,v.unal (.slot d))::dy (SV.unal (.slot d)) s.slots,s.box⟩
 |.cv (.val _)=>⟨(d,v.unal (.slot d))::s.slots,s.box⟩
 |.cv .nil=>⟨(d,v.unal (.slot d))::s.slots,s.box⟩
 |.cv .dead=>⟨(d,v.unal (.slot d))::s.slots,s.box⟩
 |.alias _=>⟨(d,v.unal (.slot d))::s.slots,s.box⟩
 |.imm _=>⟨(d,v.unal (.slot d))::s.slots,s.box⟩
 |.elt _ _ _=>⟨(d,v.unal (.slot d))::s.slots,s.box⟩
 |.bld _=>⟨(d,v.unal (.slot d))::s.slots,s.box⟩
 |.tup _=>⟨(d,v.unal (.slot d))::s.slots,s.box⟩
 |.undef=>⟨(d,v.unal (.slot d))::s.slots,s.box⟩
theorem aoc{v:SV}:s.put none v=s:=rfl
theorem ao7{d:Nat}{v:SV}:s.put (some d) v=aiA s d v (look s.slots d):=by
 simp only[St.put]
 cases look s.slots d with
 |cv c=>cases c <;> rfl
 |_=>rfl
def oe(l i:Nat)(sl:List (Nat×SV)):CV→List (Nat×SV)
 |.row _ _=>dy (SV.unal (.cell l i)) sl
 |.val _=>sl
 |.nil=>sl
 |.dead=>sl
theorem apj{r:fb}:s.eff (.kill r)=St.setRoot ⟨dy (SV.unal r) s.slots,s.box⟩ r .dead:=rfl
theorem atq{r:fb}{d:au}:s.eff (.fix r d)=St.setRoot ⟨dy (SV.refix r d) s.slots,s.box⟩ r (.val d):=rfl
theorem afj{r:fb}{k:TypeId}{xs:List au}:s.eff (.setRow r k xs)=s.setRoot r (.row k xs):=rfl
theorem acG{l i:Nat}{c:CV}:s.eff (.setCell l i c)=⟨oe l i s.slots (s.box.cell l i),s.box.setCell l i c⟩:=by
 simp only[St.eff]
 cases s.box.cell l i <;> rfl
theorem asw{o:dB}:s.eff (.new o)=⟨s.slots,s.box.new o⟩:=rfl
theorem ahw{l:Nat}{kt:TypeId}{es:List (au×au)}:s.eff (.setMap l kt es)=⟨s.slots,s.box.upd l (.map kt es)⟩:=rfl
def ar3(s:St)(x y:Operand):au→Option Out
 |.bool true=>moveOp s x
 |.bool false=>moveOp s y
 |.int _ _=>none
 |.str _=>none
 |.sl _=>none
 |.agg _=>none
 |.ptr _=>none
 |.map _=>none
 |.fn _ _ _=>none
 |.nilfn=>none
def ap2(s:St)(x y:Operand):SV→Option Out
 |.cv (.val d)=>ar3 s x y d
 |.cv .nil=>none
 |.cv (.row _ _)=>none
 |.cv .dead=>none
 |.alias _=>none
 |.imm _=>none
 |.elt _ _ _=>none
 |.bld _=>none
 |.tup _=>none
 |.undef=>none
def unK(op:UnOp):Option au→Option Out
 |some d=>aoe (unD op d)
 |none=>none
def axu(P:Program)(op:BinOp)(t:TypeId):Option au→Option au→Option Out
 |some a,some b=>aoe (ai3 P op t a b)
 |some _,none=>none
 |none,_=>none
def ayc:au→Option Out
 |.ptr (some a)=>ret (.ptr (some a))
 |.fn f a b=>ret (.fn f a b)
 |.ptr none=>none
 |.int _ _=>none
 |.bool _=>none
 |.str _=>none
 |.sl _=>none
 |.agg _=>none
 |.map _=>none
 |.nilfn=>none
def awz:SV→Option Out
 |.cv (.val d)=>ayc d
 |.cv .nil=>none
 |.cv (.row _ _)=>none
 |.cv .dead=>none
 |.alias _=>none
 |.imm _=>none
 |.elt _ _ _=>none
 |.bld _=>none
 |.tup _=>none
 |.undef=>none
def apD(want:Bool):au→Option Bool
 |.bool b=>some (b==want)
 |.int _ _=>none
 |.str _=>none
 |.sl _=>none
 |.agg _=>none
 |.ptr _=>none
 |.map _=>none
 |.fn _ _ _=>none
 |.nilfn=>none
def abF(want:Bool):SV→Option Bool
 |.cv (.val d)=>apD want d
 |.undef=>some false
 |.cv .nil=>none
 |.cv (.row _ _)=>none
 |.cv .dead=>none
 |.alias _=>none
 |.imm _=>none
 |.elt _ _ _=>none
 |.bld _=>none
 |.tup _=>none
def acu(s:St)(want:Bool):Option Nat→Option Bool
 |some d=>abF want (s.get d)
 |none=>none
section
variable{dst:Option Tmp}{ty:TypeId}{pos:String}{after:Array Edge}{g:Option (Nat×Bool)}
theorem avr{x:Operand}:aop P s ⟨dst,.move x,ty,pos,after,g⟩=yG x (s.opv x):=za
theorem anP{x:Operand}:aop P s ⟨dst,.assign x,ty,pos,after,g⟩=mr s x (s.opv x):=acr
theorem avk{c x y:Operand}:aop P s ⟨dst,.pick c x y,ty,pos,after,g⟩=ap2 s x y (s.opv c):=by
 show(match s.opv c with|SV.cv (.val (.bool t))=>if t then moveOp s x else moveOp s y|_=>none)=_
 cases s.opv c with
 |cv c=>
  cases c with
  |val d=>
   cases d with
   |bool b=>cases b <;> rfl
   |_=>rfl
  |_=>rfl
 |_=>rfl
theorem au0{op:UnOp}{t:TypeId}{x:Operand}:aop P s ⟨dst,.unOp op t x,ty,pos,after,g⟩=unK op (optVal s x):=by
 show((optVal s x).bind fun d=>(unD op d).bind ret)=_
 cases optVal s x with
 |none=>rfl
 |some d=>simp only[oB,unK];cases unD op d <;> rfl
theorem atj{op:BinOp}{t t':TypeId}{x y:Operand}:aop P s ⟨dst,.binOp op t x y t',ty,pos,after,g⟩=axu P op t (optVal s x) (optVal s y):=by
 show((optVal s x).bind fun a=>(optVal s y).bind fun b=>(ai3 P op t a b).bind ret)=_
 cases optVal s x with
 |none=>rfl
 |some a=>
  cases optVal s y with
  |none=>rfl
  |some b=>simp only[oB,axu];cases ai3 P op t a b <;> rfl
theorem afs{x:Operand}:aop P s ⟨dst,.nilCheck x,ty,pos,after,g⟩=awz (s.opv x):=by
 show(match s.opv x with|SV.cv (.val (.ptr (some a)))=>ret (.ptr (some a))|SV.cv (.val (.fn f a b))=>ret (.fn f a b)|_=>none)=_
 cases s.opv x with
 |cv c=>
  cases c with
  |val d=>
   cases d with
   |ptr a=>cases a <;> rfl
   |_=>rfl
  |_=>rfl
 |_=>rfl
theorem ave{ops:Array Oper}{op:Op}:guardOf ops s ⟨dst,op,ty,pos,after,none⟩=some true:=rfl
theorem avB{ops:Array Oper}{op:Op}{j:Nat}{want:Bool}:guardOf ops s ⟨dst,op,ty,pos,after,some (j,want)⟩=acu s want (ops[j]?.bind (·.dst)):=by
 show((ops[j]?.bind (·.dst)).bind fun d=>match s.get d with|.cv (.val (.bool b))=>some (b==want)|.undef=>some false|_=>none)=_
 cases (ops[j]?.bind (·.dst))with
 |none=>rfl
 |some d=>
  simp only[oB,acu]
  cases s.get d with
  |cv c=>
   cases c with
   |val d=>cases d <;> rfl
   |_=>rfl
  |_=>rfl
end
end Go.Val

/- A value semantics of the model's programs, sound against it, and functions read off the given program with the proofs that it runs so; no condition. -/
import Derived.Test.YtmfelmglmhjggaaGreatOwnF
set_option linter.all false
set_option linter.unnecessarySimpa false
set_option linter.unusedVariables false
set_option linter.unusedSimpArgs false
namespace Go.Val
noncomputable section
theorem az.ind {P:az→Prop} (h:∀ n:az,(∀ k∈n.Kids,P k)→P n):∀ n,P n:=by
 intro n
 have key:∀ m (n:az),SizeOf.sizeOf n < m→P n:=by
  intro m
  induction m with
  | zero=>intro n hn;omega
  | succ m ih=>
   intro n hn
   refine h n fun k hk=>ih k ?_
   have h1:=List.sizeOf_lt_of_mem hk
   cases n with
   | mk a b ks=>
    simp only[az.mk.sizeOf_spec]at hn h1
    omega
 exact key _ n (Nat.lt_succ_self _)
mutual
def dn:az→Nat
 | ⟨_,_,ks⟩=>1+dz ks
def dz:List az→Nat
 | []=>0
 | x::xs=>dn x+dz xs
end
theorem jh (n:az):dn n=1+dz n.Kids:=by cases n;rw[dn]
theorem zb:∀ {l:List az} {x:az},x∈l→dn x≤dz l
 | y::l,x,h=>by
  rw[dz]
  rcases List.mem_cons.1 h with rfl | h
  ·omega
  ·have:=zb h;omega
theorem gh (n:az):1≤dn n:=by rw[jh];omega
theorem eQ {n x:az} (h:x∈n.Kids):dn x < dn n:=by
 have:=zb h
 rw[jh n];omega
theorem dY {α:Type} {l:List α} {s:Nat} (h:s < l.length):l.take (s+1)=l.take s++[l[s]]:=by rw[List.take_add_one,gE h];rfl
mutual
def jF:az→Nat→Int→Nat
 | ⟨_,_,ks⟩,most,deep=>min (kr ks most deep 1) most
def kr:List az→Nat→Int→Nat→Nat
 | [],_,_,k=>k
 | x::xs,most,deep,k=>if most≤k∨deep≤0 then most else kr xs most deep (k+jF x (most - k) (deep - 1))
end
theorem oo (n:az) (most:Nat) (deep:Int):jF n most deep=min (kr n.Kids most deep 1) most:=by cases n;rw[jF]
theorem zH (n:az) (most:Nat) (deep:Int):jF n most deep≤most:=by rw[oo];exact Nat.min_le_right _ _
theorem uM:∀ (l:List az) (most:Nat) (deep:Int) (k:Nat),1≤k→k≤most→1≤kr l most deep k
 | [],most,deep,k,h1,h2=>by rw[kr];exact h1
 | x::l,most,deep,k,h1,h2=>by
  rw[kr]
  split
  ·omega
  ·exact uM l most deep _ (by omega) (by have:=zH x (most - k) (deep - 1);omega)
theorem ahr (n:az) {most:Nat} (deep:Int) (h:1≤most):1≤jF n most deep:=by
 have:=uM n.Kids most deep 1 (Nat.le_refl _) h
 rw[oo];omega
theorem sf:∀ (n:az) (most:Nat) (deep:Int),jF n most deep < most→jF n most deep=dn n:=by
 refine az.ind fun n ih most deep h=>?_
 have loop:∀ (l:List az) (k:Nat),(∀ x∈l,x∈n.Kids)→kr l most deep k < most→kr l most deep k=k+dz l:=by
  intro l
  induction l with
  | nil=>intro k _ h;simp[kr,dz]
  | cons x l ihl=>
   intro k hs h
   rw[kr]at h ⊢
   by_cases hc:most≤k∨deep≤0
   ·rw[if_pos hc]at h;omega
   ·rw[if_neg hc]at h ⊢
    have h1:=ihl _ (fun y hy=>hs y (by simp[hy])) h
    rw[h1]at h ⊢
    have h2:=ih x (hs x (by simp)) (most - k) (deep - 1) (by omega)
    rw[h2,dz];omega
 rw[oo]at h ⊢
 have:=loop n.Kids 1 (fun _ hx=>hx) (by omega)
 rw[jh]
 omega
theorem auN:∀ (n:az) (fu most:Nat) (deep:Int),dn n≤fu→1≤most→most≤1000→0≤deep→deep≤1000→aV.r fu n (most:Int) deep=some ((jF n most deep:Nat):Int):=by
 refine az.ind fun n ih=>?_
 intro fu most deep hfu h1 h2 h3 h4
 have hp:=gh n
 obtain ⟨fu,rfl⟩:∃ k,fu=k+1:=⟨fu - 1,by omega⟩
 have loop:∀ (l:List az) (i k:Nat),n.Kids.drop i=l→i < k→k≤most→Loop (aV.b1 (aV.r fu) n (most:Int) deep) ((k:Int),(i:Int))=some ((min (kr l most deep k) most:Nat):Int):=by
  intro l
  induction l with
  | nil=>
   intro i k hl hk1 hk2
   have hi:n.Kids.length≤i:=List.drop_eq_nil_iff.1 hl
   refine bP ?_
   simp only[aV.b1]
   rw[if_neg (by simp;omega)]
   unfold aV.k1 mn
   rw[kr,if_neg (by omega),show min k most=k by omega]
  | cons x l ihl=>
   intro i k hl hk1 hk2
   have hil:i < n.Kids.length:=by
    rcases Nat.lt_or_ge i n.Kids.length with h | h
    ·exact h
    ·rw[List.drop_eq_nil_of_le h]at hl;cases hl
   have hd:=List.drop_eq_getElem_cons hil
   rw[hl]at hd
   simp only[List.cons.injEq]at hd
   obtain ⟨hx,hd⟩:=hd
   rw[kr]
   by_cases hstop:most≤k∨deep≤0
   ·rw[if_pos hstop,Nat.min_self]
    refine cV ?_
    simp only[aV.b1]
    rw[if_pos (by simpa using hil),if_pos (by simp;omega)]
   ·have hm:=zH x (most - k) (deep - 1)
    have hm1:=ahr x (deep - 1) (most:=most - k) (by omega)
    rw[if_neg hstop,← ihl (i+1) (k+jF x (most - k) (deep - 1)) hd.symm (by omega) (by omega)]
    refine bM ?_
    simp only[aV.b1]
    have e1:IntKind.i64.wrap ((most:Int) - (k:Int))=((most - k:Nat):Int):=by rw[w64 (by omega) (by omega)];omega
    have e2:IntKind.i64.wrap (deep - 1)=deep - 1:=w64 (by omega) (by omega)
    have hkid:=ih x (by rw[hx];exact gM hil) fu (most - k) (deep - 1) (by have:=eQ (n:=n) (gM hil);rw[hx];omega) (by omega) (by omega) (by omega) (by omega)
    rw[if_pos (by simpa using hil),if_neg (by simp;omega),bw,gE hil,oB,e1,e2,← hx,hkid,oB,w64 (n:=(k:Int)+((jF x (most - k) (deep - 1):Nat):Int)) (by omega) (by omega),fH (by omega)]
    rfl
 simp only[aV.r]
 rw[oo]
 exact loop n.Kids 0 1 rfl (by omega) h1
theorem xS {ρ:Type} {b:Int→Option (Step Int ρ)} {P:Nat→Prop} {n:Nat} {bad:ρ} {R:Option ρ} (h:∀ j:Nat,j < n→(P j∧b (j:Int)=some (.next ((j+1:Nat):Int)))∨(¬ P j∧b (j:Int)=some (.done bad))) (he:b (n:Int)=R.map Step.done):
  ((∀ j,j < n→P j)∧Loop b 0=R)∨((¬ ∀ j,j < n→P j)∧Loop b 0=some bad):=by
 have key:∀ d k:Nat,k+d=n→((∀ j,k≤j→j < n→P j)∧Loop b (k:Int)=R)∨((¬ ∀ j,k≤j→j < n→P j)∧Loop b (k:Int)=some bad):=by
  intro d
  induction d with
  | zero=>
   intro k hk
   obtain rfl:k=n:=by omega
   exact .inl ⟨fun j h1 h2=>by omega,bP he⟩
  | succ d ih=>
   intro k hk
   rcases h k (by omega)with ⟨h1,h2⟩ | ⟨h1,h2⟩
   ·rw[bM h2]
    rcases ih (k+1) (by omega)with ⟨g1,g2⟩ | ⟨g1,g2⟩
    ·refine .inl ⟨fun j hj hjn=>?_,g2⟩
     rcases Nat.eq_or_lt_of_le hj with e | e
     ·subst e;exact h1
     ·exact g1 j e hjn
    ·exact .inr ⟨fun hall=>g1 fun j hj hjn=>hall j (by omega) hjn,g2⟩
   ·exact .inr ⟨fun hall=>h1 (hall k (Nat.le_refl _) (by omega)),cV h2⟩
 rcases key n 0 (by omega)with ⟨g1,g2⟩ | ⟨g1,g2⟩
 ·exact .inl ⟨fun j hj=>g1 j (Nat.zero_le _) hj,g2⟩
 ·exact .inr ⟨fun hall=>g1 fun j _ hj=>hall j hj,g2⟩
structure aw7 (p:aW):Prop where
 sets:p.Sets.length≤70
 rules:p.Rules.length≤70
 each:∀ s∈p.Sets,s.length≤40
 nodes:∀ r∈p.Rules,dn r.Left < 150∧dn r.Right < 150
theorem kO (n:az):aV n 15 10=some ((jF n 15 10:Nat):Int):=tm (dn n) fun fu h=>auN n fu 15 10 h (by omega) (by omega) (by omega) (by omega)
structure avN (p:aW):Prop where
 sets:p.Sets.length≤8
 rules:p.Rules.length≤6
 each:∀ s∈p.Sets,s.length≤8
 nodes:∀ r∈p.Rules,dn r.Left < 15∧dn r.Right < 15
theorem avN.few {p:aW} (h:avN p):aw7 p:=⟨by have:=h.sets;omega,by have:=h.rules;omega,fun s hs=>by have:=h.each s hs;omega,fun r hr=>by have:=h.nodes r hr;omega⟩
theorem av5 (p:aW):∃ b,aN p=some b∧(b=true→avN p):=by
 unfold aN
 by_cases h0:p.Sets.length≤8∧p.Rules.length≤6
 ·rw[if_neg (by simp;omega)]
  have hsets:=xS (b:=aN.b2 p) (P:=fun j=>∀ hj:j < p.Sets.length,p.Sets[j].length≤8) (n:=p.Sets.length) (bad:=false) (R:=aN.k1 p) (fun j hj=>by
   by_cases hc:p.Sets[j].length≤8
   ·refine .inl ⟨fun _=>hc,?_⟩
    simp only[aN.b2]
    rw[if_pos (by simpa using hj),bw,gE hj,oB,if_neg (by simp;omega),fH (by omega)]
   ·refine .inr ⟨fun h=>hc (h hj),?_⟩
    simp only[aN.b2]
    rw[if_pos (by simpa using hj),bw,gE hj,oB,if_pos (by simp;omega)]) (by
   simp only[aN.b2]
   rw[if_neg (by simp)])
  rcases hsets with ⟨hs1,hs2⟩ | ⟨_,hs2⟩
  ·rw[hs2]
   unfold aN.k1
   have hrules:=xS (b:=aN.b1 p) (P:=fun j=>∀ hj:j < p.Rules.length,jF p.Rules[j].Left 15 10 < 15∧jF p.Rules[j].Right 15 10 < 15) (n:=p.Rules.length) (bad:=false) (R:=aN.k2) (fun j hj=>by
    by_cases hc1:jF p.Rules[j].Left 15 10 < 15
    ·by_cases hc2:jF p.Rules[j].Right 15 10 < 15
     ·refine .inl ⟨fun _=>⟨hc1,hc2⟩,?_⟩
      simp only[aN.b1]
      rw[if_pos (by simpa using hj),bw,gE hj,oB,kO,oB,if_neg (by simp;omega),kO,oB,oB,if_neg (by simp;omega),fH (by omega)]
     ·refine .inr ⟨fun h=>hc2 (h hj).2,?_⟩
      simp only[aN.b1]
      rw[if_pos (by simpa using hj),bw,gE hj,oB,kO,oB,if_neg (by simp;omega),kO,oB,oB,if_pos (by simp;omega)]
    ·refine .inr ⟨fun h=>hc1 (h hj).1,?_⟩
     simp only[aN.b1]
     rw[if_pos (by simpa using hj),bw,gE hj,oB,kO,oB,if_pos (by simp;omega),oB,if_pos rfl]) (by
    simp only[aN.b1]
    rw[if_neg (by simp)])
   rcases hrules with ⟨hr1,hr2⟩ | ⟨_,hr2⟩
   ·refine ⟨true,hr2,fun _=>⟨h0.1,h0.2,fun s hs=>?_,fun r hr=>?_⟩⟩
    ·obtain ⟨j,hj,rfl⟩:=List.getElem_of_mem hs
     exact hs1 j hj hj
    ·obtain ⟨j,hj,rfl⟩:=List.getElem_of_mem hr
     have:=hr1 j hj hj
     rw[← sf _ 15 10 this.1,← sf _ 15 10 this.2];exact this
   ·exact ⟨false,hr2,by simp⟩
  ·exact ⟨false,hs2,by simp⟩
 ·rw[if_pos (by simp;omega)]
  exact ⟨false,rfl,by simp⟩
end
noncomputable section
def asc (k:Int) (x:az):Bool:=decide (x.Kind=2)||(decide (x.Kind=0)&& !decide (k=2))
def ain (k:Int):Bool:=decide (3≤k)&&decide (k≤5)
def aaA (k:Int) (m:Nat):Bool:=if k=0 then !decide (m=1)else if k=2 then decide (1 < m)else ain k&&decide (m=1)
def kI (k:Int) (g:Nat):Nat:=if ain k then g+1 else 0
def tz (k:Int) (x:az) (d:Nat):Nat:=if asc k x then d+1 else d
mutual
def lr (sets:Nat):az→Nat→Nat→Bool
 | ⟨k,s,ks⟩,d,g=>if k=1 then ks.isEmpty&&(decide (0≤s)&&decide (s < (sets:Int)))else decide (s=0)&&(aaA k ks.length&&(decide (kI k g≤3)&&qI sets k ks d (kI k g)))
def qI (sets:Nat) (k:Int):List az→Nat→Nat→Bool
 | [],_,_=>true
 | x::xs,d,g=>decide (tz k x d≤20)&&(lr sets x (tz k x d) g&&qI sets k xs d g)
end
theorem ro (sets:Nat) (n:az) (d g:Nat):lr sets n d g=if n.Kind=1 then n.Kids.isEmpty&&(decide (0≤n.Set)&&decide (n.Set < (sets:Int)))else decide (n.Set=0)&&(aaA n.Kind n.Kids.length&&(decide (kI n.Kind g≤3)&&qI sets n.Kind n.Kids d (kI n.Kind g))):=by
 cases n;rw[lr]
mutual
def ajn:az→Nat→Option Nat
 | ⟨k,s,ks⟩,a=>if k=1 then (if s > (a:Int)then none else some (max a (s.toNat+1)))else aon ks a
def aon:List az→Nat→Option Nat
 | [],a=>some a
 | x::xs,a=>(ajn x a).bind (aon xs)
end
theorem ajp (n:az) (a:Nat):ajn n a=if n.Kind=1 then (if n.Set > (a:Int)then none else some (max a (n.Set.toNat+1)))else aon n.Kids a:=by
 cases n;rw[ajn]
theorem axT (of n:az):lF of n=some (asc of.Kind n):=rfl
theorem acs (n:az):gZ n=some (ain n.Kind):=rfl
theorem azh {n:az} (h:n.Kids.length≤1000000):jA n=some (aaA n.Kind n.Kids.length):=by
 unfold jA aaA
 by_cases h0:n.Kind=0
 ·rw[if_pos (by simpa using h0),if_pos h0]
  congr 1
  rw[Bool.eq_iff_iff];simp;omega
 ·rw[if_neg (by simpa using h0),if_neg h0]
  by_cases h2:n.Kind=2
  ·rw[if_pos (by simpa using h2),if_pos h2]
   congr 1
   rw[Bool.eq_iff_iff];simp;omega
  ·rw[if_neg (by simpa using h2),if_neg h2,acs,oB]
   cases ain n.Kind with
   | true=>
    rw[if_pos rfl,oB]
    congr 1
    rw[Bool.eq_iff_iff];simp;omega
   | false=>rw[if_neg (by simp),oB];rfl
theorem pD (n:az):n.Kids.length≤dn n:=by
 have:∀ l:List az,l.length≤dz l:=by
  intro l
  induction l with
  | nil=>simp
  | cons x l ih=>have:=gh x;rw[dz,List.length_cons];omega
 have:=this n.Kids
 rw[jh];omega
theorem drop_cons {n:az} {i:Nat} {x:az} {l:List az} (h:n.Kids.drop i=x::l):∃ hi:i < n.Kids.length,n.Kids[i]=x∧n.Kids.drop (i+1)=l:=by
 have hil:i < n.Kids.length:=by
  rcases Nat.lt_or_ge i n.Kids.length with q | q
  ·exact q
  ·rw[List.drop_eq_nil_of_le q]at h;cases h
 have hd:=List.drop_eq_getElem_cons hil
 rw[h]at hd
 simp only[List.cons.injEq]at hd
 exact ⟨hil,hd.1.symm,hd.2.symm⟩
theorem acZ (sets:Nat):∀ (n:az) (d g a m:Nat),lr sets n d g=true→a≤sets→ajn n a=some m→m≤sets:=by
 refine az.ind fun n ih=>?_
 intro d g a m hf ha hm
 rw[ro]at hf
 rw[ajp]at hm
 by_cases h1:n.Kind=1
 ·rw[if_pos h1]at hf hm
  simp at hf
  split at hm
  ·cases hm
  ·obtain rfl:=Option.some.inj hm;omega
 ·rw[if_neg h1]at hf hm
  simp only[Bool.and_eq_true]at hf
  have loop:∀ (l:List az) (a:Nat),(∀ x∈l,x∈n.Kids)→qI sets n.Kind l d (kI n.Kind g)=true→a≤sets→aon l a=some m→m≤sets:=by
   intro l
   induction l with
   | nil=>intro a _ _ ha hm;rw[aon]at hm;obtain rfl:=Option.some.inj hm;exact ha
   | cons x l ihl=>
    intro a hs hf ha hm
    rw[qI]at hf
    simp only[Bool.and_eq_true]at hf
    rw[aon,Option.bind_eq_some_iff]at hm
    obtain ⟨q,hq,hm⟩:=hm
    exact ihl q (fun y hy=>hs y (by simp[hy])) hf.2.2 (ih x (hs x (by simp)) _ _ a q hf.2.1 ha hq) hm
  exact loop n.Kids a (fun _ h=>h) hf.2.2.2 ha hm
def mo (sets:Nat) (b:Bool) (m:Option Nat) (r:Option (Bool×aU)):Prop:=
 match b,m with
 | true,some q=>r=some (true,⟨(sets:Int),(q:Int)⟩)
 | _,_=>∃ c,r=some (false,c)
theorem ase (sets:Nat) (hsets:sets≤100):∀ (n:az) (fu d g a:Nat),dn n≤fu→dn n≤1000→d≤20→g≤3→a≤sets→mo sets (lr sets n d g) (ajn n a) (aa.r fu ⟨(sets:Int),(a:Int)⟩ n (d:Int) (g:Int)):=by
 refine az.ind fun n ih=>?_
 intro fu d g a hfu hsz hd hg ha
 have hp:=gh n
 obtain ⟨fu,rfl⟩:∃ k,fu=k+1:=⟨fu - 1,by omega⟩
 have hkl:=pD n
 simp only[aa.r]
 rw[ro,ajp]
 by_cases h1:n.Kind=1
 ·rw[if_pos h1,if_pos h1,if_pos (show (n.Kind==1)=true by simpa using h1)]
  by_cases hok:n.Kids.length=0∧0≤n.Set∧n.Set < (sets:Int)
  ·have hempty:n.Kids.isEmpty=true:=by rw[List.isEmpty_iff];exact List.length_eq_zero_iff.1 hok.1
   rw[hempty,decide_eq_true hok.2.1,decide_eq_true hok.2.2]
   by_cases hc:n.Set > (a:Int)
   ·rw[if_pos hc]
    have e:decide (n.Set≤(a:Int))=false:=decide_eq_false (by omega)
    exact ⟨⟨(sets:Int),mx (a:Int) (IntKind.i64.wrap (mn n.Set (sets:Int)+1))⟩,by simp[e]⟩
   ·rw[if_neg hc]
    have e:decide (n.Set≤(a:Int))=true:=decide_eq_true (by omega)
    have e1:mn n.Set (sets:Int)=n.Set:=by unfold mn;rw[if_neg (by omega)]
    have e2:mx (a:Int) (n.Set+1)=((max a (n.Set.toNat+1):Nat):Int):=by unfold mx;split <;> omega
    show some _=some (true,(⟨(sets:Int),((max a (n.Set.toNat+1):Nat):Int)⟩:aU))
    rw[e1,w64 (by omega) (by omega),e2,e,hok.1]
    rfl
  ·have hb:(n.Kids.isEmpty&&(decide (0≤n.Set)&&decide (n.Set < (sets:Int))))=false:=by
    rw[Bool.eq_false_iff]
    intro h
    simp only[Bool.and_eq_true,List.isEmpty_iff,decide_eq_true_eq]at h
    exact hok ⟨by rw[h.1];rfl,h.2⟩
   rw[hb]
   refine ⟨_,Prod.ext ?_ rfl |> congrArg some⟩
   rw[Bool.eq_false_iff]
   intro h
   simp only[Bool.and_eq_true,decide_eq_true_eq,beq_iff_eq]at h
   exact hok ⟨by omega,h.2.1,h.2.2.1⟩
 ·rw[if_neg h1,if_neg h1,if_neg (show ¬ (n.Kind==1)=true by simpa using h1),acs,oB]
  have loop:∀ (g2:Nat),g2≤3→∀ (l:List az) (i a:Nat),n.Kids.drop i=l→a≤sets→mo sets (qI sets n.Kind l d g2) (aon l a) (Loop (aa.b1 (aa.r fu) n (d:Int) (g2:Int)) ((i:Int),(sets:Int),(a:Int))):=by
   intro g2 hg2 l
   induction l with
   | nil=>
    intro i a hl ha
    have hi:n.Kids.length≤i:=List.drop_eq_nil_iff.1 hl
    rw[qI,aon]
    refine bP (R:=some (true,(⟨(sets:Int),(a:Int)⟩:aU))) ?_
    simp only[aa.b1]
    rw[if_neg (by simp;omega)];rfl
   | cons x l ihl=>
    intro i a hl ha
    obtain ⟨hil,hx,hdr⟩:=drop_cons hl
    have hmem:x∈n.Kids:=by rw[← hx];exact gM hil
    have hb:aa.b1 (aa.r fu) n (d:Int) (g2:Int) ((i:Int),(sets:Int),(a:Int))=aa.k3 (aa.r fu) (g2:Int) (i:Int) (sets:Int) (a:Int) x ((tz n.Kind x d:Nat):Int):=by
     simp only[aa.b1]
     rw[if_pos (by simpa using hil),bw,gE hil,oB,axT,oB,hx]
     unfold tz
     cases asc n.Kind x with
     | true=>rw[if_pos rfl,if_pos rfl,fH (by omega)]
     | false=>rw[if_neg (by simp),if_neg (by simp)]
    rw[qI,aon]
    by_cases hm:tz n.Kind x d≤20
    ·have hkid:=ih x hmem fu (tz n.Kind x d) g2 a (by have:=eQ hmem;omega) (by have:=eQ hmem;omega) hm hg2 ha
     rw[decide_eq_true hm,Bool.true_and]
     have hbad:(∃ c,aa.r fu ⟨(sets:Int),(a:Int)⟩ x ((tz n.Kind x d:Nat):Int) (g2:Int)=some (false,c))→∃ c,Loop (aa.b1 (aa.r fu) n (d:Int) (g2:Int)) ((i:Int),(sets:Int),(a:Int))=some (false,c):=fun ⟨c,hc⟩=>by
      refine ⟨c,cV (hb.trans ?_)⟩
      unfold aa.k3
      rw[if_neg (by simp;omega),hc];rfl
     cases hf:lr sets x (tz n.Kind x d) g2 with
     | false=>
      rw[hf]at hkid
      rw[Bool.false_and]
      exact hbad hkid
     | true=>
      rw[hf]at hkid
      rw[Bool.true_and]
      cases hq:ajn x a with
      | none=>
       rw[hq]at hkid
       have:=hbad hkid
       cases qI sets n.Kind l d g2 <;> exact this
      | some q=>
       rw[hq]at hkid
       have hkid':aa.r fu ⟨(sets:Int),(a:Int)⟩ x ((tz n.Kind x d:Nat):Int) (g2:Int)=some (true,⟨(sets:Int),(q:Int)⟩):=hkid
       have hnext:aa.b1 (aa.r fu) n (d:Int) (g2:Int) ((i:Int),(sets:Int),(a:Int))=some (.next (((i+1:Nat):Int),(sets:Int),(q:Int))):=by
        refine hb.trans ?_
        unfold aa.k3
        rw[if_neg (by simp;omega),hkid']
        simp only[oB,Bool.not_true]
        rw[if_neg (by simp),fH (by omega)]
       rw[bM hnext]
       exact ihl (i+1) q hdr (acZ sets x _ _ a q hf ha hq)
    ·rw[decide_eq_false hm,Bool.false_and]
     refine ⟨(⟨(sets:Int),(a:Int)⟩:aU),cV (hb.trans ?_)⟩
     unfold aa.k3
     rw[if_pos (by simp;omega)];rfl
  have hk1:∀ g1:Nat,g1≤4→g1=kI n.Kind g→mo sets (decide (n.Set=0)&&(aaA n.Kind n.Kids.length&&(decide (kI n.Kind g≤3)&&qI sets n.Kind n.Kids d (kI n.Kind g)))) (aon n.Kids a) (aa.k1 (aa.r fu) ⟨(sets:Int),(a:Int)⟩ n (d:Int) (g1:Int)):=fun g1 hg1 e=>by
   subst e
   unfold aa.k1
   rw[azh (by omega),oB]
   cases hf:aaA n.Kind n.Kids.length with
   | false=>
    rw[if_pos (by simp),oB,if_pos rfl,Bool.false_and,Bool.and_false]
    exact ⟨_,rfl⟩
   | true=>
    rw[if_neg (by simp),Bool.true_and]
    by_cases hs:n.Set=0
    ·rw[if_neg (by simpa using hs),oB,decide_eq_true hs,Bool.true_and]
     by_cases hg3:kI n.Kind g≤3
     ·rw[if_neg (by simp;omega),decide_eq_true hg3,Bool.true_and]
      exact loop _ hg3 n.Kids 0 a rfl ha
     ·rw[if_pos (by simp;omega),decide_eq_false hg3,Bool.false_and]
      exact ⟨_,rfl⟩
    ·rw[if_pos (by simpa using hs),oB,if_pos rfl,decide_eq_false hs,Bool.false_and]
     exact ⟨_,rfl⟩
  cases hb:ain n.Kind with
  | true=>
   have hsn:kI n.Kind g=g+1:=by unfold kI;rw[hb];rfl
   rw[if_neg (by simp),fH (by omega)]
   exact hk1 (g+1) (by omega) hsn.symm
  | false=>
   have hsn:kI n.Kind g=0:=by unfold kI;rw[hb];rfl
   rw[if_pos (by simp)]
   exact hk1 0 (by omega) hsn.symm
end
noncomputable section
theorem ajr {l:List ak} (hl:l.length≤1000000):∃ out e,cD l=some (out,e)∧gQ out∧out.length≤l.length∧(e=0→∀ t,In out t↔In l t)∧(e≠0→e=1∧out=[]∧¬ ∀ x∈l,Ok x):=by
 by_cases hok:∀ x∈l,Ok x
 ·obtain ⟨o,h1,h2,h3,h4⟩:=akZ hok (by omega)
  exact ⟨o,0,h1,h2,h4,fun _=>h3,fun h=>absurd rfl h⟩
 ·exact ⟨[],1,aeI hok (by omega),mS,by simp,fun h=>by simp at h,fun _=>⟨rfl,rfl,hok⟩⟩
open Classical in
def agq (s:List ak):Bool:=decide (gQ s)
theorem pa {s:List ak}:agq s=true↔gQ s:=by unfold agq;simp
theorem aAj {s:List ak} (hl:s.length≤40):kn s=some (agq s):=by
 obtain ⟨out,e,m1,m3,m4,m5,m6⟩:=ajr (l:=s) (by omega)
 unfold kn
 rw[m1,oB]
 by_cases hn:gQ s
 ·obtain ⟨e1,e2⟩:=xN hn m3 m5 m6
  subst e1 e2
  rw[if_pos (by simp),pO,abP (a:=out) (by omega),oB,oB,pa.2 hn]
  simp
 ·have hb:agq s=false:=by rw[Bool.eq_false_iff];exact fun h=>hn (pa.1 h)
  have hne:out≠s:=fun e=>hn (e ▸ m3)
  rw[hb]
  by_cases he:e=0
  ·subst he
   rw[if_pos (by simp),pO,abP (a:=out) (by omega),oB,oB]
   simp[hne]
  ·rw[if_neg (by simpa using he)];rfl
theorem tL {s1 s2:aU→az→Int→Int→Option (Bool×aU)} {n:az} (h:∀ x∈n.Kids,∀ c d g,s1 c x d g=s2 c x d g) (d g:Int):aa.b1 s1 n d g=aa.b1 s2 n d g:=by
 funext ⟨v,a,b⟩
 simp only[aa.b1]
 by_cases hc:v < (n.Kids.length:Int)
 ·rw[if_pos (decide_eq_true hc),if_pos (decide_eq_true hc)]
  cases hi:idx n.Kids v with
  | none=>rfl
  | some x=>
   have hx:x∈n.Kids:=by
    unfold idx at hi
    split at hi
    ·cases hi
    ·exact List.mem_of_getElem? hi
   have hk:∀ more,aa.k3 s1 g v a b x more=aa.k3 s2 g v a b x more:=fun more=>by
    unfold aa.k3
    rw[h x hx]
   rw[oB,oB,axT,oB,oB]
   split
   ·exact hk _
   ·exact hk _
 ·rw[if_neg (by simpa using hc),if_neg (by simpa using hc)]
theorem xP:∀ (n:az) (fu:Nat),dn n≤fu→∀ c d g,aa.r fu c n d g=aa.r (dn n) c n d g:=by
 refine az.ind fun n ih=>?_
 intro fu hfu c d g
 have hp:=gh n
 obtain ⟨fu,rfl⟩:∃ k,fu=k+1:=⟨fu - 1,by omega⟩
 obtain ⟨m,hm⟩:∃ k,dn n=k+1:=⟨dn n - 1,by omega⟩
 rw[hm]
 simp only[aa.r]
 have hk1:∀ g1,aa.k1 (aa.r fu) c n d g1=aa.k1 (aa.r m) c n d g1:=fun g1=>by
  unfold aa.k1
  rw[tL (s1:=aa.r fu) (s2:=aa.r m) fun x hx c d g=>by
   have hlt:=eQ hx
   rw[ih x hx fu (by omega),ih x hx m (by omega)]]
 rw[acs,oB,oB]
 simp only[hk1]
theorem amf {sets:Nat} {b:Bool} {m:Option Nat} {n:az} {c:aU} {d g:Int} (h:∀ fu,dn n≤fu→mo sets b m (aa.r fu c n d g)):mo sets b m (aa c n d g):=by
 have h0:=h (dn n) (Nat.le_refl _)
 have hv:∃ w,aa.r (dn n) c n d g=some w:=by
  unfold mo at h0
  split at h0
  ·exact ⟨_,h0⟩
  ·obtain ⟨c',hc⟩:=h0;exact ⟨_,hc⟩
 obtain ⟨w,hw⟩:=hv
 have hl:aa c n d g=some w:=tm (dn n) fun k hk=>by rw[xP n k hk,hw]
 rw[hl,← hw];exact h0
def mv (sets:Nat):List iV→Nat→Option Nat
 | [],a=>some a
 | r::rs,a=>if lr sets r.Left 0 0&&lr sets r.Right 0 0 then (ajn r.Left a).bind fun q=>(ajn r.Right q).bind (mv sets rs)else none
def fW (p:aW):Prop:=p.Sets.length≤60∧p.Rules.length≤64∧(∀ s∈p.Sets,gQ s)∧p.Sets.Nodup∧mv p.Sets.length p.Rules 0=some p.Sets.length
theorem sW {sets:Nat}:∀ {l:List iV} {a m:Nat},mv sets l a=some m→∀ r∈l,lr sets r.Left 0 0=true∧lr sets r.Right 0 0=true
 | [],_,_,_,r,h=>by cases h
 | x::l,a,m,h,r,hr=>by
  rw[mv]at h
  split at h
  ·rename_i hf
   simp only[Bool.and_eq_true]at hf
   simp only[Option.bind_eq_some_iff]at h
   obtain ⟨q,_,q2,_,h⟩:=h
   rcases List.mem_cons.1 hr with rfl | hr
   ·exact hf
   ·exact sW h r hr
  ·cases h
theorem mW {α:Type} {xs:List α} {i:Nat} {x:α} {l:List α} (h:xs.drop i=x::l):∃ hi:i < xs.length,xs[i]=x∧xs.drop (i+1)=l:=by
 have hil:i < xs.length:=by
  rcases Nat.lt_or_ge i xs.length with q | q
  ·exact q
  ·rw[List.drop_eq_nil_of_le q]at h;cases h
 have hd:=List.drop_eq_getElem_cons hil
 rw[h]at hd
 simp only[List.cons.injEq]at hd
 exact ⟨hil,hd.1.symm,hd.2.symm⟩
theorem ayl {p:aW} {m:List (Str×Bool)} (hf:aw7 p) (hs60:p.Sets.length≤60):∀ (l:List iV) (i a:Nat),p.Rules.drop i=l→a≤p.Sets.length→Loop (bz.b1 p m) ((i:Int),(p.Sets.length:Int),(a:Int))=some (((m.length:Int)==(p.Sets.length:Int))&&decide (mv p.Sets.length l a=some p.Sets.length)):=by
 intro l
 induction l with
 | nil=>
  intro i a hl ha
  have hi:p.Rules.length≤i:=List.drop_eq_nil_iff.1 hl
  refine bP (R:=some _) ?_
  simp only[bz.b1]
  rw[if_neg (by simp;omega),mv]
  unfold bz.k2
  simp only[Option.map_some]
  congr 3
  rw[Bool.eq_iff_iff]
  simp
  omega
 | cons r l ih=>
  intro i a hl ha
  obtain ⟨hil,hx,hdr⟩:=mW hl
  have hmem:r∈p.Rules:=by rw[← hx];exact gM hil
  obtain ⟨n1,n2⟩:=hf.nodes r hmem
  have hrl:=hf.rules
  have hR:∀ (n:az) (a:Nat),dn n≤1000→a≤p.Sets.length→mo p.Sets.length (lr p.Sets.length n 0 0) (ajn n a) (aa ⟨(p.Sets.length:Int),(a:Int)⟩ n 0 0):=fun n a hn ha=>by
   have h1:∀ fu,dn n≤fu→mo p.Sets.length (lr p.Sets.length n 0 0) (ajn n a) (aa.r fu ⟨(p.Sets.length:Int),(a:Int)⟩ n 0 0):=fun fu hfu=>ase _ (by omega) n fu 0 0 a hfu hn (by omega) (by omega) ha
   exact amf h1
  have hL:=hR r.Left a (by omega) ha
  have hbad:(∃ c,aa ⟨(p.Sets.length:Int),(a:Int)⟩ r.Left 0 0=some (false,c))→Loop (bz.b1 p m) ((i:Int),(p.Sets.length:Int),(a:Int))=some false:=fun ⟨c,hc⟩=>by
   refine cV ?_
   simp only[bz.b1]
   rw[if_pos (by simpa using hil),bw,gE hil,oB,hx,hc]
   rfl
  rw[mv]
  cases f1:lr p.Sets.length r.Left 0 0 with
  | false=>
   rw[f1]at hL
   rw[if_neg (by simp),hbad hL];simp
  | true=>
   rw[f1]at hL
   cases hm:ajn r.Left a with
   | none=>
    rw[hm]at hL
    rw[hbad hL]
    split <;> simp
   | some q=>
    rw[hm]at hL
    have hL':aa ⟨(p.Sets.length:Int),(a:Int)⟩ r.Left 0 0=some (true,⟨(p.Sets.length:Int),(q:Int)⟩):=hL
    have hq:=acZ _ _ _ _ _ _ f1 ha hm
    have hRr:=hR r.Right q (by omega) hq
    have hbad2:(∃ c,aa ⟨(p.Sets.length:Int),(q:Int)⟩ r.Right 0 0=some (false,c))→Loop (bz.b1 p m) ((i:Int),(p.Sets.length:Int),(a:Int))=some false:=fun ⟨c,hc⟩=>by
     refine cV ?_
     simp only[bz.b1]
     rw[if_pos (by simpa using hil),bw,gE hil,oB,hx,hL']
     simp only[oB,Bool.not_true,Bool.false_eq_true,if_false]
     rw[hc];rfl
    cases f2:lr p.Sets.length r.Right 0 0 with
    | false=>
     rw[f2]at hRr
     rw[if_neg (by simp),hbad2 hRr];simp
    | true=>
     rw[f2]at hRr
     rw[if_pos (by simp),oB]
     cases hm2:ajn r.Right q with
     | none=>
      rw[hm2]at hRr
      rw[hbad2 hRr];simp
     | some q2=>
      rw[hm2]at hRr
      have hR':aa ⟨(p.Sets.length:Int),(q:Int)⟩ r.Right 0 0=some (true,⟨(p.Sets.length:Int),(q2:Int)⟩):=hRr
      have hq2:=acZ _ _ _ _ _ _ f2 hq hm2
      rw[oB,← ih (i+1) q2 hdr hq2]
      refine bM ?_
      simp only[bz.b1]
      rw[if_pos (by simpa using hil),bw,gE hil,oB,hx,hL']
      simp only[oB,Bool.not_true,Bool.false_eq_true,if_false]
      rw[hR']
      simp only[oB,Bool.not_true,Bool.false_eq_true,if_false]
      rw[fH (by omega)]
theorem aeH {k a:Str} {v:Bool}:∀ {m:List (Str×Bool)},a∈(iW k v m).map (·.1)↔a∈m.map (·.1)∨a=k
 | []=>by simp[iW]
 | (k',v')::m=>by
  simp only[iW]
  by_cases h:k=k'
  ·rw[if_pos h]
   simp only[List.map_cons,List.mem_cons]
   rw[h]
   constructor
   ·rintro (h | h)
    ·exact .inr h
    ·exact .inl (.inr h)
   ·rintro ((h | h) | h)
    ·exact .inl h
    ·exact .inr h
    ·exact .inl h
  ·rw[if_neg h]
   simp only[List.map_cons,List.mem_cons,aeH (m:=m)]
   exact or_assoc.symm
theorem vK {k:Str} {v:Bool}:∀ {m:List (Str×Bool)},(iW k v m).length=if k∈m.map (·.1)then m.length else m.length+1
 | []=>by simp[iW]
 | (k',v')::m=>by
  simp only[iW]
  by_cases h:k=k'
  ·rw[if_pos h,if_pos (by simp[h])];rfl
  ·rw[if_neg h]
   simp only[List.length_cons,vK (m:=m),List.map_cons,List.mem_cons,h,false_or]
   split <;> rfl
theorem afK {α:Type} {l:List α} {a:α}:(l++[a]).Nodup↔l.Nodup∧a∉l:=by
 rw[List.nodup_append]
 constructor
 ·rintro ⟨h1,_,h2⟩
  exact ⟨h1,fun h=>h2 a h a (by simp) rfl⟩
 ·rintro ⟨h1,h2⟩
  exact ⟨h1,by simp,fun x hx y hy=>by simp at hy;subst hy;rintro rfl;exact h2 hx⟩
open Classical in
theorem awW {p:aW} (hf:aw7 p) (hs60:p.Sets.length≤60):∀ (d i:Nat) (m:List (Str×Bool)),i+d=p.Sets.length→(∀ s∈p.Sets.take i,gQ s)→(∀ a,a∈m.map (·.1)↔a∈(p.Sets.take i).map kc)→m.length≤i→(m.length=i↔(p.Sets.take i).Nodup)→
  if ∀ s∈p.Sets,gQ s then Loop (bz.b2 p) ((i:Int),m)=some (decide (p.Sets.Nodup)&&decide (mv p.Sets.length p.Rules 0=some p.Sets.length))else Loop (bz.b2 p) ((i:Int),m)=some false
 | 0,i,m,h,hn,hk,hl,hd=>by
  obtain rfl:i=p.Sets.length:=by omega
  rw[List.take_length]at hn hd
  rw[if_pos hn]
  have hr:=ayl (m:=m) hf hs60 p.Rules 0 0 rfl (Nat.zero_le _)
  refine bP ?_
  simp only[bz.b2]
  rw[if_neg (by simp)]
  unfold bz.k1
  have e:(((0:Nat):Int),(p.Sets.length:Int),((0:Nat):Int))=((0:Int),(p.Sets.length:Int),(0:Int)):=rfl
  rw[e]at hr
  rw[hr]
  simp only[Option.map_some]
  congr 3
  rw[Bool.eq_iff_iff]
  simp only[beq_iff_eq,decide_eq_true_eq]
  rw[← hd]
  omega
 | d+1,i,m,h,hn,hk,hl,hd=>by
  have hi:i < p.Sets.length:=by omega
  have h40:=hf.each _ (gM hi)
  have hstart:bz.b2 p ((i:Int),m)=if !agq p.Sets[i]then some (Step.done false)else (mh p.Sets[i]).bind fun r3=>some (Step.next ((IntKind.i64.wrap ((i:Int)+(1:Int))),(iW r3 true m))):=by
   simp only[bz.b2]
   rw[if_pos (by simpa using hi),bw,gE hi,oB,aAj h40,oB]
  by_cases hnorm:gQ p.Sets[i]
  ·rw[pa.2 hnorm,if_neg (by simp),abM hnorm.1 (by omega),oB,fH (by omega)]at hstart
   have htk:p.Sets.take (i+1)=p.Sets.take i++[p.Sets[i]]:=dY hi
   have hmem:kc p.Sets[i]∈m.map (·.1)↔p.Sets[i]∈p.Sets.take i:=by
    rw[hk]
    constructor
    ·intro h
     obtain ⟨s,hs,e⟩:=List.mem_map.1 h
     rw[← abo (hn s hs).1 hnorm.1 e];exact hs
    ·exact fun h=>List.mem_map_of_mem h
   rw[bM hstart]
   refine awW hf hs60 d (i+1) _ (by omega) ?_ ?_ ?_ ?_
   ·intro s hs
    rw[htk]at hs
    rcases List.mem_append.1 hs with h | h
    ·exact hn s h
    ·simp at h;subst h;exact hnorm
   ·intro a
    rw[aeH,hk,htk,List.map_append,List.mem_append];simp
   ·rw[vK];split <;> omega
   ·rw[vK,htk,afK]
    by_cases hin:p.Sets[i]∈p.Sets.take i
    ·rw[if_pos (hmem.2 hin)]
     exact ⟨fun h=>by omega,fun h=>absurd hin h.2⟩
    ·rw[if_neg (fun h=>hin (hmem.1 h))]
     constructor
     ·exact fun h=>⟨hd.1 (by omega),hin⟩
     ·exact fun h=>by have:=hd.2 h.1;omega
  ·have hb:agq p.Sets[i]=false:=by rw[Bool.eq_false_iff];exact fun h=>hnorm (pa.1 h)
   rw[hb,if_pos (by simp)]at hstart
   rw[if_neg (fun h=>hnorm (h _ (gM hi)))]
   exact cV hstart
open Classical in
open Classical in
open Classical in
theorem afG {p:aW} (hf:aw7 p):bz p=some (decide (fW p)):=by
 unfold bz
 by_cases hc:p.Sets.length≤60∧p.Rules.length≤64
 ·obtain ⟨h60,h64⟩:=hc
  rw[if_neg (by simp;omega)]
  have h1:=awW hf h60 p.Sets.length 0 [] (by omega) (by simp) (by simp) (by simp) (by simp)
  have e0:(((0:Nat):Int),([]:List (Str×Bool)))=((0:Int),[]):=rfl
  rw[e0]at h1
  by_cases hn:∀ s∈p.Sets,gQ s
  ·rw[if_pos hn]at h1
   rw[h1]
   by_cases hd:p.Sets.Nodup
   ·congr 1
    rw[Bool.eq_iff_iff]
    simp only[Bool.and_eq_true,decide_eq_true_eq]
    exact ⟨fun h=>⟨h60,h64,hn,h.1,h.2⟩,fun h=>⟨h.2.2.2.1,h.2.2.2.2⟩⟩
   ·have hR:¬ fW p:=fun h=>hd h.2.2.2.1
    rw[decide_eq_false hR,decide_eq_false hd]
    rfl
  ·have hR:¬ fW p:=fun h=>hn h.2.2.1
   rw[if_neg hn]at h1
   rw[h1,decide_eq_false hR]
 ·have hR:¬ fW p:=fun h=>hc ⟨h.1,h.2.1⟩
  rw[if_pos (by simp;omega),decide_eq_false hR]
end
inductive jY (P:List Int→Prop):List Int→Prop
 | nil:jY P []
 | cons {u v:List Int}:P u→jY P v→jY P (u++v)
def ng (P Q:List Int→Prop) (w:List Int):Prop:=∃ u v,w=u++v∧P u∧Q v
theorem ng.congr {P P' Q Q':List Int→Prop} (h1:∀ w,P w↔P' w) (h2:∀ w,Q w↔Q' w) (w:List Int):ng P Q w↔ng P' Q' w:=
 ⟨fun ⟨u,v,e,a,b⟩=>⟨u,v,e,(h1 u).1 a,(h2 v).1 b⟩,fun ⟨u,v,e,a,b⟩=>⟨u,v,e,(h1 u).2 a,(h2 v).2 b⟩⟩
theorem ng.assoc {P Q R:List Int→Prop} {w:List Int}:ng (ng P Q) R w↔ng P (ng Q R) w:=by
 constructor
 ·rintro ⟨_,v,rfl,⟨a,b,rfl,ha,hb⟩,hv⟩
  exact ⟨a,b++v,by simp,ha,b,v,rfl,hb,hv⟩
 ·rintro ⟨a,_,rfl,ha,b,v,rfl,hb,hv⟩
  exact ⟨a++b,v,by simp,⟨a,b,rfl,ha,hb⟩,hv⟩
theorem ng.nilL {Q:List Int→Prop} {w:List Int}:ng (fun u=>u=[]) Q w↔Q w:=
 ⟨fun ⟨u,v,e,a,b⟩=>by subst a;simpa[e]using b,fun h=>⟨[],w,rfl,rfl,h⟩⟩
theorem ng.nilR {Q:List Int→Prop} {w:List Int}:ng Q (fun u=>u=[]) w↔Q w:=
 ⟨fun ⟨u,v,e,a,b⟩=>by subst b;simpa[e]using a,fun h=>⟨w,[],by simp,h,rfl⟩⟩
theorem jY.mono {P Q:List Int→Prop} (h:∀ w,P w→Q w) {w:List Int} (hs:jY P w):jY Q w:=by
 induction hs with
 | nil=>exact .nil
 | cons a _ ih=>exact .cons (h _ a) ih
theorem jY.congr {P Q:List Int→Prop} (h:∀ w,P w↔Q w) (w:List Int):jY P w↔jY Q w:=⟨jY.mono fun w=>(h w).1,jY.mono fun w=>(h w).2⟩
theorem jY.app {P:List Int→Prop} {u v:List Int} (h1:jY P u) (h2:jY P v):jY P (u++v):=by
 induction h1 with
 | nil=>exact h2
 | cons a _ ih=>rw[List.append_assoc];exact .cons a ih
theorem jY.one {P:List Int→Prop} {u:List Int} (h:P u):jY P u:=by have:=jY.cons h jY.nil;rwa[List.append_nil]at this
theorem jY.head {P:List Int→Prop} {w:List Int} (h:jY P w):w=[]∨∃ a u v,w=a::(u++v)∧P (a::u)∧jY P v:=by
 induction h with
 | nil=>exact .inl rfl
 | @cons u v hu hv ih=>
  cases u with
  | nil=>exact ih
  | cons a u=>exact .inr ⟨a,u,v,rfl,hu,hv⟩
theorem jY.rev {P Q:List Int→Prop} (h:∀ w,P w→Q w.reverse) {w:List Int} (hs:jY P w):jY Q w.reverse:=by
 induction hs with
 | nil=>exact .nil
 | cons a _ ih=>rw[List.reverse_append];exact ih.app (.one (h _ a))
section
variable (hit:Int→Int→Bool)
mutual
def nC:az→List Int→Prop
 | ⟨k,s,l⟩=>if k=1 then fun u=>∃ a,u=[a]∧hit a s=true
   else if k=0 then aed l else if k=2 then apV l
   else if k=5 then fun u=>u=[]∨vp l u
   else if k=4 then ng (vp l) (jY (vp l))else jY (vp l)
def aed:List az→List Int→Prop
 | []=>fun w=>w=[]
 | x::l=>ng (nC x) (aed l)
def apV:List az→List Int→Prop
 | []=>fun _=>False
 | x::l=>fun w=>nC x w∨apV l w
def vp:List az→List Int→Prop
 | []=>fun _=>False
 | x::_=>nC x
end
end
mutual
def iI:az→az
 | ⟨k,s,l⟩=>⟨k,s,if k=0 then (mA l).reverse else mA l⟩
def mA:List az→List az
 | []=>[]
 | x::l=>iI x::mA l
end
structure PA where
 null:Prop
 first:Int→Prop
 last:Int→Prop
 E:Int→Int→Prop
section
variable (lab:Int→Int→Prop)
def PA.Acc (X:PA):Int→List Int→Prop
 | p,[]=>X.last p
 | p,a::v=>∃ q,X.E p q∧lab q a∧PA.Acc X q v
def PA.L (X:PA):List Int→Prop
 | []=>X.null
 | a::v=>∃ p,X.first p∧lab p a∧X.Acc lab p v
end
structure PA.In (X:PA) (lo hi:Int):Prop where
 first:∀ p,X.first p→lo < p∧p≤hi
 last:∀ p,X.last p→lo < p∧p≤hi
 E:∀ p q,X.E p q→(lo < p∧p≤hi)∧(lo < q∧q≤hi)
def PA.then_ (X Y:PA):PA:=⟨X.null∧Y.null,fun p=>X.first p∨X.null∧Y.first p,fun p=>Y.last p∨Y.null∧X.last p,fun p q=>(X.E p q∨Y.E p q)∨X.last p∧Y.first q⟩
def PA.or_ (X Y:PA):PA:=⟨X.null∨Y.null,fun p=>X.first p∨Y.first p,fun p=>X.last p∨Y.last p,fun p q=>X.E p q∨Y.E p q⟩
def PA.more (X:PA):PA:=⟨X.null,X.first,X.last,fun p q=>X.E p q∨X.last p∧X.first q⟩
section
variable {lab:Int→Int→Prop} {X Y:PA} {a b c:Int}
theorem kK (hX:X.In a b) (hY:Y.In b c):∀ (w:List Int) (q:Int),b < q→((X.then_ Y).Acc lab q w↔Y.Acc lab q w)
 | [],q,h=>by
  simp only[PA.Acc,PA.then_]
  constructor
  ·rintro (h1 | ⟨_,h1⟩)
   ·exact h1
   ·have:=hX.last _ h1;omega
  ·exact .inl
 | s::w,q,h=>by
  simp only[PA.Acc]
  constructor
  ·rintro ⟨r,(h1 | h1) | ⟨h1,_⟩,h2,h3⟩
   ·have:=(hX.E _ _ h1).1;omega
   ·exact ⟨r,h1,h2,(kK hX hY w r (hY.E _ _ h1).2.1).1 h3⟩
   ·have:=hX.last _ h1;omega
  ·rintro ⟨r,h1,h2,h3⟩
   exact ⟨r,.inl (.inr h1),h2,(kK hX hY w r (hY.E _ _ h1).2.1).2 h3⟩
theorem oT (hX:X.In a b) (hY:Y.In b c):∀ (w:List Int) (p:Int),p≤b→((X.then_ Y).Acc lab p w↔ng (X.Acc lab p) (Y.L lab) w)
 | [],p,h=>by
  simp only[PA.Acc,PA.then_]
  constructor
  ·rintro (h1 | ⟨h1,h2⟩)
   ·have:=hY.last _ h1;omega
   ·exact ⟨[],[],rfl,h2,h1⟩
  ·rintro ⟨u,v,e,h1,h2⟩
   obtain ⟨rfl,rfl⟩:=List.append_eq_nil_iff.1 e.symm
   exact .inr ⟨h2,h1⟩
 | s::w,p,h=>by
  simp only[PA.Acc]
  constructor
  ·rintro ⟨r,(h1 | h1) | ⟨h1,h4⟩,h2,h3⟩
   ·obtain ⟨u,v,rfl,g1,g2⟩:=(oT hX hY w r (hX.E _ _ h1).2.2).1 h3
    exact ⟨s::u,v,rfl,⟨r,h1,h2,g1⟩,g2⟩
   ·have:=(hY.E _ _ h1).1;omega
   ·exact ⟨[],s::w,rfl,h1,r,h4,h2,(kK hX hY w r (hY.first _ h4).1).1 h3⟩
  ·rintro ⟨u,v,e,h1,h2⟩
   cases u with
   | nil=>
    simp only[List.nil_append]at e
    subst e
    obtain ⟨r,g1,g2,g3⟩:=h2
    exact ⟨r,.inr ⟨h1,g1⟩,g2,(kK hX hY w r (hY.first _ g1).1).2 g3⟩
   | cons s' u=>
    simp only[List.cons_append,List.cons.injEq]at e
    obtain ⟨rfl,rfl⟩:=e
    obtain ⟨r,g1,g2,g3⟩:=h1
    exact ⟨r,.inl (.inl g1),g2,(oT hX hY _ r (hX.E _ _ g1).2.2).2 ⟨u,v,rfl,g3,h2⟩⟩
theorem avX (hX:X.In a b) (hY:Y.In b c) (w:List Int):(X.then_ Y).L lab w↔ng (X.L lab) (Y.L lab) w:=by
 cases w with
 | nil=>
  simp only[PA.L,PA.then_]
  constructor
  ·rintro ⟨h1,h2⟩;exact ⟨[],[],rfl,h1,h2⟩
  ·rintro ⟨u,v,e,h1,h2⟩
   obtain ⟨rfl,rfl⟩:=List.append_eq_nil_iff.1 e.symm
   exact ⟨h1,h2⟩
 | cons s w=>
  simp only[PA.L]
  constructor
  ·rintro ⟨p,h1 | ⟨h0,h1⟩,h2,h3⟩
   ·obtain ⟨u,v,rfl,g1,g2⟩:=(oT hX hY w p (hX.first _ h1).2).1 h3
    exact ⟨s::u,v,rfl,⟨p,h1,h2,g1⟩,g2⟩
   ·exact ⟨[],s::w,rfl,h0,p,h1,h2,(kK hX hY w p (hY.first _ h1).1).1 h3⟩
  ·rintro ⟨u,v,e,h1,h2⟩
   cases u with
   | nil=>
    simp only[List.nil_append]at e
    subst e
    obtain ⟨p,g1,g2,g3⟩:=h2
    exact ⟨p,.inr ⟨h1,g1⟩,g2,(kK hX hY w p (hY.first _ g1).1).2 g3⟩
   | cons s' u=>
    simp only[List.cons_append,List.cons.injEq]at e
    obtain ⟨rfl,rfl⟩:=e
    obtain ⟨p,g1,g2,g3⟩:=h1
    exact ⟨p,.inl g1,g2,(oT hX hY _ p (hX.first _ g1).2).2 ⟨u,v,rfl,g3,h2⟩⟩
theorem as0 (hX:X.In a b) (hY:Y.In b c) (hab:a≤b) (hbc:b≤c):(X.then_ Y).In a c:=by
 refine ⟨fun p h=>?_,fun p h=>?_,fun p q h=>?_⟩
 ·rcases h with h | ⟨_,h⟩
  ·have:=hX.first _ h;omega
  ·have:=hY.first _ h;omega
 ·rcases h with h | ⟨_,h⟩
  ·have:=hY.last _ h;omega
  ·have:=hX.last _ h;omega
 ·rcases h with (h | h) | ⟨h1,h2⟩
  ·have:=hX.E _ _ h;omega
  ·have:=hY.E _ _ h;omega
  ·have:=hX.last _ h1;have:=hY.first _ h2;omega
theorem qt (hX:X.In a b) (hY:Y.In b c):∀ (w:List Int) (p:Int),((X.or_ Y).Acc lab p w↔X.Acc lab p w∧p≤b∨Y.Acc lab p w∧b < p)
 | [],p=>by
  simp only[PA.Acc,PA.or_]
  constructor
  ·rintro (h | h)
   ·exact .inl ⟨h,(hX.last _ h).2⟩
   ·exact .inr ⟨h,(hY.last _ h).1⟩
  ·rintro (h | h)
   ·exact .inl h.1
   ·exact .inr h.1
 | s::w,p=>by
  simp only[PA.Acc]
  constructor
  ·rintro ⟨q,h1 | h1,h2,h3⟩
   ·rcases (qt hX hY w q).1 h3 with ⟨h4,_⟩ | ⟨_,h4⟩
    ·exact .inl ⟨⟨q,h1,h2,h4⟩,(hX.E _ _ h1).1.2⟩
    ·have:=(hX.E _ _ h1).2;omega
   ·rcases (qt hX hY w q).1 h3 with ⟨_,h4⟩ | ⟨h4,_⟩
    ·have:=(hY.E _ _ h1).2;omega
    ·exact .inr ⟨⟨q,h1,h2,h4⟩,(hY.E _ _ h1).1.1⟩
  ·rintro (⟨⟨q,h1,h2,h3⟩,_⟩ | ⟨⟨q,h1,h2,h3⟩,_⟩)
   ·exact ⟨q,.inl h1,h2,(qt hX hY w q).2 (.inl ⟨h3,(hX.E _ _ h1).2.2⟩)⟩
   ·exact ⟨q,.inr h1,h2,(qt hX hY w q).2 (.inr ⟨h3,(hY.E _ _ h1).2.1⟩)⟩
theorem aAm (hX:X.In a b) (hY:Y.In b c) (w:List Int):(X.or_ Y).L lab w↔X.L lab w∨Y.L lab w:=by
 cases w with
 | nil=>exact Iff.rfl
 | cons s w=>
  simp only[PA.L]
  constructor
  ·rintro ⟨p,h1 | h1,h2,h3⟩
   ·rcases (qt hX hY w p).1 h3 with ⟨h4,_⟩ | ⟨_,h4⟩
    ·exact .inl ⟨p,h1,h2,h4⟩
    ·have:=hX.first _ h1;omega
   ·rcases (qt hX hY w p).1 h3 with ⟨_,h4⟩ | ⟨h4,_⟩
    ·have:=hY.first _ h1;omega
    ·exact .inr ⟨p,h1,h2,h4⟩
  ·rintro (⟨p,h1,h2,h3⟩ | ⟨p,h1,h2,h3⟩)
   ·exact ⟨p,.inl h1,h2,(qt hX hY w p).2 (.inl ⟨h3,(hX.first _ h1).2⟩)⟩
   ·exact ⟨p,.inr h1,h2,(qt hX hY w p).2 (.inr ⟨h3,(hY.first _ h1).1⟩)⟩
theorem azW (hX:X.In a b) (hY:Y.In b c) (hab:a≤b) (hbc:b≤c):(X.or_ Y).In a c:=by
 refine ⟨fun p h=>?_,fun p h=>?_,fun p q h=>?_⟩
 ·rcases h with h | h
  ·have:=hX.first _ h;omega
  ·have:=hY.first _ h;omega
 ·rcases h with h | h
  ·have:=hX.last _ h;omega
  ·have:=hY.last _ h;omega
 ·rcases h with h | h
  ·have:=hX.E _ _ h;omega
  ·have:=hY.E _ _ h;omega
theorem lA:∀ (w:List Int) (p:Int),(X.more.Acc lab p w↔ng (X.Acc lab p) (jY (X.L lab)) w)
 | [],p=>by
  simp only[PA.Acc,PA.more]
  constructor
  ·intro h;exact ⟨[],[],rfl,h,.nil⟩
  ·rintro ⟨u,v,e,h1,h2⟩
   obtain ⟨rfl,rfl⟩:=List.append_eq_nil_iff.1 e.symm
   exact h1
 | s::w,p=>by
  simp only[PA.Acc]
  constructor
  ·rintro ⟨q,h1 | ⟨h0,h1⟩,h2,h3⟩
   ·obtain ⟨u,v,rfl,g1,g2⟩:=(lA w q).1 h3
    exact ⟨s::u,v,rfl,⟨q,h1,h2,g1⟩,g2⟩
   ·obtain ⟨u,v,rfl,g1,g2⟩:=(lA w q).1 h3
    exact ⟨[],s::(u++v),rfl,h0,jY.cons (u:=s::u) ⟨q,h1,h2,g1⟩ g2⟩
  ·rintro ⟨u,v,e,h1,h2⟩
   cases u with
   | nil=>
    simp only[List.nil_append]at e
    subst e
    rcases h2.head with e | ⟨a,u,v,e,⟨q,g1,g2,g3⟩,g4⟩
    ·cases e
    ·simp only[List.cons.injEq]at e
     obtain ⟨rfl,rfl⟩:=e
     exact ⟨q,.inr ⟨h1,g1⟩,g2,(lA _ q).2 ⟨u,v,rfl,g3,g4⟩⟩
   | cons s' u=>
    simp only[List.cons_append,List.cons.injEq]at e
    obtain ⟨rfl,rfl⟩:=e
    obtain ⟨q,g1,g2,g3⟩:=h1
    exact ⟨q,.inl g1,g2,(lA _ q).2 ⟨u,v,rfl,g3,h2⟩⟩
theorem axo (w:List Int):X.more.L lab w↔ng (X.L lab) (jY (X.L lab)) w:=by
 cases w with
 | nil=>
  simp only[PA.L,PA.more]
  constructor
  ·intro h;exact ⟨[],[],rfl,h,.nil⟩
  ·rintro ⟨u,v,e,h1,h2⟩
   obtain ⟨rfl,rfl⟩:=List.append_eq_nil_iff.1 e.symm
   exact h1
 | cons s w=>
  simp only[PA.L]
  constructor
  ·rintro ⟨p,h1,h2,h3⟩
   obtain ⟨u,v,rfl,g1,g2⟩:=(lA w p).1 h3
   exact ⟨s::u,v,rfl,⟨p,h1,h2,g1⟩,g2⟩
  ·rintro ⟨u,v,e,h1,h2⟩
   cases u with
   | nil=>
    simp only[List.nil_append]at e
    subst e
    rcases h2.head with e | ⟨a,u,v,e,⟨q,g1,g2,g3⟩,g4⟩
    ·cases e
    ·simp only[List.cons.injEq]at e
     obtain ⟨rfl,rfl⟩:=e
     exact ⟨q,g1,g2,(lA _ q).2 ⟨u,v,rfl,g3,g4⟩⟩
   | cons s' u=>
    simp only[List.cons_append,List.cons.injEq]at e
    obtain ⟨rfl,rfl⟩:=e
    obtain ⟨q,g1,g2,g3⟩:=h1
    exact ⟨q,g1,g2,(lA _ q).2 ⟨u,v,rfl,g3,h2⟩⟩
theorem auE (hX:X.In a b):X.more.In a b:=⟨hX.first,hX.last,fun p q h=>by
 rcases h with h | ⟨h1,h2⟩
 ·exact hX.E _ _ h
 ·exact ⟨hX.last _ h1,hX.first _ h2⟩⟩
def PA.FR (lab:Int→Int→Prop) (X:PA):List Int→Int→Prop
 | [],_=>False
 | s::w,p=>lab p s∧(X.first p∨∃ q,PA.FR lab X w q∧X.E q p)
def PA.Suf (lab:Int→Int→Prop) (X:PA) (x:List Int):Prop:=∃ u s v p,x=u++s::v∧X.first p∧lab p s∧X.Acc lab p v
theorem aqT {s:Int} {x:List Int}:X.Suf lab (s::x)↔(∃ p,X.first p∧lab p s∧X.Acc lab p x)∨X.Suf lab x:=by
 constructor
 ·rintro ⟨u,s',v,p,e,h⟩
  cases u with
  | nil=>
   simp only[List.nil_append,List.cons.injEq]at e
   obtain ⟨rfl,rfl⟩:=e
   exact .inl ⟨p,h⟩
  | cons b u=>
   simp only[List.cons_append,List.cons.injEq]at e
   obtain ⟨rfl,rfl⟩:=e
   exact .inr ⟨u,s',v,p,rfl,h⟩
 ·rintro (⟨p,h⟩ | ⟨u,s',v,p,rfl,h⟩)
  ·exact ⟨[],s,x,p,rfl,h⟩
  ·exact ⟨s::u,s',v,p,rfl,h⟩
theorem awI:∀ (x w:List Int),((∃ q,X.FR lab w q∧X.Acc lab q x)∨X.Suf lab x)↔∃ q,X.FR lab (x.reverse++w) q∧X.last q
 | [],w=>by
  constructor
  ·rintro (h | ⟨u,s,v,p,e,_⟩)
   ·exact h
   ·simp at e
  ·exact .inl
 | s::x,w=>by
  have ih:=awI x (s::w)
  rw[List.reverse_cons,List.append_assoc,List.singleton_append,← ih,aqT]
  constructor
  ·rintro (⟨q,h1,p,h2,h3,h4⟩ | ⟨p,h1,h2,h3⟩ | h)
   ·exact .inl ⟨p,⟨h3,.inr ⟨q,h1,h2⟩⟩,h4⟩
   ·exact .inl ⟨p,⟨h2,.inl h1⟩,h3⟩
   ·exact .inr h
  ·rintro (⟨p,⟨h1,h2 | ⟨q,h2,h3⟩⟩,h4⟩ | h)
   ·exact .inr (.inl ⟨p,h2,h1,h4⟩)
   ·exact .inl ⟨q,h2,p,h3,h1,h4⟩
   ·exact .inr (.inr h)
theorem anA (w:List Int):(∃ u v,w=u++v∧X.L lab v)↔X.null∨∃ q,X.FR lab w.reverse q∧X.last q:=by
 have h:=awI (X:=X) (lab:=lab) w []
 rw[List.append_nil]at h
 rw[← h]
 constructor
 ·rintro ⟨u,v,rfl,hv⟩
  cases v with
  | nil=>exact .inl hv
  | cons s v=>
   obtain ⟨p,hp⟩:=hv
   exact .inr (.inr ⟨u,s,v,p,rfl,hp⟩)
 ·rintro (h | ⟨q,h,_⟩ | ⟨u,s,v,p,e,hp⟩)
  ·exact ⟨w,[],by simp,h⟩
  ·exact h.elim
  ·exact ⟨u,s::v,e,p,hp⟩
end
def ins:List Int→Int→List Int
 | [],n=>[n]
 | x::l,n=>if x < n then x::ins l n else if x=n then x::l else n::x::l
def uni (x y:List Int):List Int:=y.foldl ins x
abbrev wP (l:List Int):Prop:=l.Pairwise (· < ·)
theorem abI {q n:Int}:∀ {l:List Int},q∈ins l n↔q∈l∨q=n
 | []=>by simp[ins]
 | x::l=>by
  simp only[ins]
  split
  ·simp only[List.mem_cons,abI (l:=l)];exact or_assoc.symm
  ·split
   ·rename_i h;subst h;simp only[List.mem_cons];constructor
    ·exact .inl
    ·rintro (h | h)
     ·exact h
     ·exact .inl h
   ·simp only[List.mem_cons];constructor
    ·rintro (h | h | h)
     ·exact .inr h
     ·exact .inl (.inl h)
     ·exact .inl (.inr h)
    ·rintro ((h | h) | h)
     ·exact .inr (.inl h)
     ·exact .inr (.inr h)
     ·exact .inl h
theorem aeS {n:Int}:∀ {l:List Int},wP l→wP (ins l n)
 | [],_=>by simp[ins,wP]
 | x::l,h=>by
  obtain ⟨h1,h2⟩:=List.pairwise_cons.1 h
  simp only[ins]
  split
  ·rename_i hx
   refine List.pairwise_cons.2 ⟨fun a ha=>?_,aeS h2⟩
   rcases abI.1 ha with ha | rfl
   ·exact h1 a ha
   ·exact hx
  ·split
   ·exact h
   ·rename_i h3 h4
    refine List.pairwise_cons.2 ⟨fun a ha=>?_,h⟩
    rcases List.mem_cons.1 ha with rfl | ha
    ·omega
    ·have:=h1 a ha;omega
theorem iE {q:Int}:∀ {y x:List Int},q∈uni x y↔q∈x∨q∈y
 | [],x=>by simp[uni]
 | n::y,x=>by
  show q∈uni (ins x n) y↔_
  rw[iE,abI,List.mem_cons]
  exact or_assoc
theorem gu:∀ {y x:List Int},wP x→wP (uni x y)
 | [],_,h=>h
 | n::y,x,h=>by
  show wP (uni (ins x n) y)
  exact gu (aeS h)
theorem oU:∀ {x y:List Int},wP x→wP y→(∀ q,q∈x↔q∈y)→x=y
 | [],[],_,_,_=>rfl
 | [],b::y,_,_,h=>absurd ((h b).2 (by simp)) (by simp)
 | a::x,[],_,_,h=>absurd ((h a).1 (by simp)) (by simp)
 | a::x,b::y,hx,hy,h=>by
  obtain ⟨h1,h2⟩:=List.pairwise_cons.1 hx
  obtain ⟨h3,h4⟩:=List.pairwise_cons.1 hy
  have e:a=b:=by
   rcases List.mem_cons.1 ((h a).1 (by simp))with e | e
   ·exact e
   ·rcases List.mem_cons.1 ((h b).2 (by simp))with e2 | e2
    ·exact e2.symm
    ·have:=h1 b e2;have:=h3 a e;omega
  subst e
  congr 1
  refine oU h2 h4 fun q=>⟨fun hq=>?_,fun hq=>?_⟩
  ·rcases List.mem_cons.1 ((h q).1 (List.mem_cons_of_mem _ hq))with e | e
   ·have:=h1 q hq;omega
   ·exact e
  ·rcases List.mem_cons.1 ((h q).2 (List.mem_cons_of_mem _ hq))with e | e
   ·have:=h3 q hq;omega
   ·exact e
structure GP where
 null:Bool
 first:List Int
 last:List Int
abbrev GA:=List Int×List (List Int)
def fG (F:List (List Int)) (last first:List Int):List (List Int):=last.foldl (fun F i=>F.set (i - 1).toNat (uni (F.getD (i - 1).toNat []) first)) F
def nT (x y:GP):GP:=⟨x.null&&y.null,if x.null then uni x.first y.first else x.first,if y.null then uni x.last y.last else y.last⟩
def orP (x y:GP):GP:=⟨x.null||y.null,uni x.first y.first,uni x.last y.last⟩
mutual
def glu:az→GA→GP×GA
 | ⟨k,s,l⟩,A=>
  if k=1 then (⟨false,[(A.1.length:Int)+1],[(A.1.length:Int)+1]⟩,A.1++[s],A.2++[[]])
  else if k=0 then iz l ⟨true,[],[]⟩ A
  else if k=2 then iN l ⟨false,[],[]⟩ A
  else (⟨(cO l A).1.null||decide (k≠4),(cO l A).1.first,(cO l A).1.last⟩,(cO l A).2.1,
   if k=5 then (cO l A).2.2 else fG (cO l A).2.2 (cO l A).1.last (cO l A).1.first)
def iz:List az→GP→GA→GP×GA
 | [],out,A=>(out,A)
 | x::l,out,A=>iz l (nT out (glu x A).1) ((glu x A).2.1,fG (glu x A).2.2 out.last (glu x A).1.first)
def iN:List az→GP→GA→GP×GA
 | [],out,A=>(out,A)
 | x::l,out,A=>iN l (orP out (glu x A).1) (glu x A).2
def cO:List az→GA→GP×GA
 | [],A=>(⟨false,[],[]⟩,A)
 | x::_,A=>glu x A
end
theorem kq {first:List Int}:∀ {last:List Int} {F:List (List Int)},(fG F last first).length=F.length
 | [],_=>rfl
 | i::last,F=>by
  show (fG (F.set _ _) last first).length=_
  rw[kq,List.length_set]
theorem oF {first:List Int} {j:Nat}:∀ {last:List Int} {F:List (List Int)} {row:List Int},(∀ i∈last,1≤i)→F[j]? =some row→
  ∃ row',(fG F last first)[j]? =some row'∧(∀ q,q∈row'↔q∈row∨((j:Int)+1∈last∧q∈first))∧(wP row→wP row')
 | [],F,row,_,h=>⟨row,h,fun q=>by simp,id⟩
 | i::last,F,row,hl,h=>by
  have hj:j < F.length:=(List.getElem?_eq_some_iff.1 h).1
  have hi:=hl i (by simp)
  by_cases e:(i - 1).toNat=j
  ·subst e
   obtain ⟨row',h1,h2,h3⟩:=oF (first:=first) (last:=last) (F:=F.set (i - 1).toNat (uni (F.getD (i - 1).toNat []) first)) (row:=uni row first) (fun k hk=>hl k (List.mem_cons_of_mem _ hk)) (by
    rw[List.getElem?_set_self hj,gD,h];rfl)
   refine ⟨row',h1,fun q=>?_,fun hr=>h3 (gu hr)⟩
   rw[h2,iE,List.mem_cons]
   have:(((i - 1).toNat:Nat):Int)+1=i:=by omega
   rw[this]
   constructor
   ·rintro ((h | h) | h)
    ·exact .inl h
    ·exact .inr ⟨.inl rfl,h⟩
    ·exact .inr ⟨.inr h.1,h.2⟩
   ·rintro (h | ⟨_,h⟩)
    ·exact .inl (.inl h)
    ·exact .inl (.inr h)
  ·obtain ⟨row',h1,h2,h3⟩:=oF (first:=first) (last:=last) (F:=F.set (i - 1).toNat (uni (F.getD (i - 1).toNat []) first)) (row:=row) (fun k hk=>hl k (List.mem_cons_of_mem _ hk)) (by
    rw[List.getElem?_set_ne e];exact h)
   refine ⟨row',h1,fun q=>?_,h3⟩
   rw[h2,List.mem_cons]
   constructor
   ·rintro (h | h)
    ·exact .inl h
    ·exact .inr ⟨.inr h.1,h.2⟩
   ·rintro (h | ⟨h | h,h4⟩)
    ·exact .inl h
    ·exfalso;omega
    ·exact .inr ⟨h,h4⟩
def js (P:GP) (F:List (List Int)) (lo hi:Int):PA:=⟨P.null=true,(· ∈P.first),(· ∈P.last),fun p q=>(lo < p∧p≤hi)∧∃ row,F[(p - 1).toNat]? =some row∧q∈row⟩
theorem PA.ext' {X Y:PA} (h1:X.null↔Y.null) (h2:∀ p,X.first p↔Y.first p) (h3:∀ p,X.last p↔Y.last p) (h4:∀ p q,X.E p q↔Y.E p q):X=Y:=by
 cases X;cases Y
 simp only[PA.mk.injEq]
 exact ⟨propext h1,funext fun p=>propext (h2 p),funext fun p=>propext (h3 p),funext fun p=>funext fun q=>propext (h4 p q)⟩
structure gT (P:GP) (A B:GA):Prop where
 sets:A.1 <+: B.1
 len:B.2.length=B.1.length
 old:∀ j,j < A.1.length→B.2[j]? =A.2[j]?
 inn:(js P B.2 (A.1.length:Int) (B.1.length:Int)).In (A.1.length:Int) (B.1.length:Int)
 rows:∀ (j:Nat) (row:List Int),A.1.length≤j→B.2[j]? =some row→wP row
 firsts:wP P.first
 lasts:wP P.last
def ai9 (hit:Int→Int→Bool) (T:List Int) (p a:Int):Prop:=∃ s,T[(p - 1).toNat]? =some s∧hit a s=true
def yH (hit:Int→Int→Bool) (P:GP) (A B:GA) (M:List Int→Prop):Prop:=∀ T,B.1 <+: T→∀ w,(js P B.2 (A.1.length:Int) (B.1.length:Int)).L (ai9 hit T) w↔M w
theorem lJ {F:List (List Int)} {last first:List Int} {lo hi p q:Int} (hl:∀ i∈last,lo < i∧i≤hi) (h0:0≤lo) (hp:1≤p):
  (∃ row,(fG F last first)[(p - 1).toNat]? =some row∧q∈row)↔(∃ row,F[(p - 1).toNat]? =some row∧q∈row)∨(((p - 1).toNat < F.length∧p∈last)∧q∈first):=by
 have hpos:∀ i∈last,1≤i:=fun i hi=>by have:=hl i hi;omega
 have hpp:(((p - 1).toNat:Nat):Int)+1=p:=by omega
 by_cases hj:(p - 1).toNat < F.length
 ·obtain ⟨row',h1,h2,h3⟩:=oF (first:=first) hpos (gE hj)
  rw[h1]
  constructor
  ·rintro ⟨row,e,hq⟩
   obtain rfl:=Option.some.inj e
   rcases (h2 q).1 hq with h | ⟨h,h4⟩
   ·exact .inl ⟨_,gE hj,h⟩
   ·rw[hpp]at h;exact .inr ⟨⟨hj,h⟩,h4⟩
  ·rintro (⟨row,e,hq⟩ | ⟨⟨_,h⟩,h4⟩)
   ·rw[gE hj]at e
    obtain rfl:=Option.some.inj e
    exact ⟨_,rfl,(h2 q).2 (.inl hq)⟩
   ·exact ⟨_,rfl,(h2 q).2 (.inr ⟨by rw[hpp];exact h,h4⟩)⟩
 ·have e1:(fG F last first)[(p - 1).toNat]? =none:=gN (by rw[kq];omega)
  have e2:F[(p - 1).toNat]? =none:=gN (by omega)
  rw[e1,e2]
  constructor
  ·rintro ⟨_,e,_⟩;cases e
  ·rintro (⟨_,e,_⟩ | ⟨⟨h,_⟩,_⟩)
   ·cases e
   ·exact absurd h hj
theorem alj {P R:GP} {A B C:GA} (h1:gT P A B) (h2:gT R B C):js (nT P R) (fG C.2 P.last R.first) (A.1.length:Int) (C.1.length:Int)=(js P B.2 (A.1.length:Int) (B.1.length:Int)).then_ (js R C.2 (B.1.length:Int) (C.1.length:Int)):=by
 have lAB:A.1.length≤B.1.length:=h1.sets.length_le
 have lBC:B.1.length≤C.1.length:=h2.sets.length_le
 refine PA.ext' ?_ (fun p=>?_) (fun p=>?_) (fun p q=>?_)
 ·simp[js,nT,PA.then_]
 ·simp only[js,nT,PA.then_]
  cases P.null <;> simp[iE]
 ·simp only[js,nT,PA.then_]
  cases R.null <;> simp[iE,or_comm]
 ·simp only[js,PA.then_]
  have hl:∀ i∈P.last,(A.1.length:Int) < i∧i≤(B.1.length:Int):=fun i hi=>h1.inn.last i hi
  constructor
  ·rintro ⟨⟨g1,g2⟩,g3⟩
   rcases (lJ hl (by omega) (by omega)).1 g3 with ⟨row,e,hq⟩ | ⟨⟨_,g4⟩,g5⟩
   ·by_cases hb:p≤(B.1.length:Int)
    ·rw[h2.old _ (by omega)]at e
     exact .inl (.inl ⟨⟨g1,hb⟩,row,e,hq⟩)
    ·exact .inl (.inr ⟨⟨by omega,g2⟩,row,e,hq⟩)
   ·exact .inr ⟨g4,g5⟩
  ·rintro ((⟨⟨g1,g2⟩,row,e,hq⟩ | ⟨⟨g1,g2⟩,row,e,hq⟩) | ⟨g4,g5⟩)
   ·refine ⟨⟨g1,by omega⟩,(lJ hl (by omega) (by omega)).2 (.inl ⟨row,?_,hq⟩)⟩
    rw[h2.old _ (by omega)];exact e
   ·exact ⟨⟨by omega,g2⟩,(lJ hl (by omega) (by omega)).2 (.inl ⟨row,e,hq⟩)⟩
   ·have:=hl p g4
    refine ⟨⟨this.1,by omega⟩,(lJ hl (by omega) (by omega)).2 (.inr ⟨⟨?_,g4⟩,g5⟩)⟩
    rw[h2.len];omega
theorem axs {P R:GP} {A B C:GA} (h1:gT P A B) (h2:gT R B C):js (orP P R) C.2 (A.1.length:Int) (C.1.length:Int)=(js P B.2 (A.1.length:Int) (B.1.length:Int)).or_ (js R C.2 (B.1.length:Int) (C.1.length:Int)):=by
 have lAB:A.1.length≤B.1.length:=h1.sets.length_le
 have lBC:B.1.length≤C.1.length:=h2.sets.length_le
 refine PA.ext' ?_ (fun p=>?_) (fun p=>?_) (fun p q=>?_)
 ·simp[js,orP,PA.or_]
 ·simp only[js,orP,PA.or_,iE]
 ·simp only[js,orP,PA.or_,iE]
 ·simp only[js,PA.or_]
  constructor
  ·rintro ⟨⟨g1,g2⟩,row,e,hq⟩
   by_cases hb:p≤(B.1.length:Int)
   ·rw[h2.old _ (by omega)]at e
    exact .inl ⟨⟨g1,hb⟩,row,e,hq⟩
   ·exact .inr ⟨⟨by omega,g2⟩,row,e,hq⟩
  ·rintro (⟨⟨g1,g2⟩,row,e,hq⟩ | ⟨⟨g1,g2⟩,row,e,hq⟩)
   ·exact ⟨⟨g1,by omega⟩,row,by rw[h2.old _ (by omega)];exact e,hq⟩
   ·exact ⟨⟨by omega,g2⟩,row,e,hq⟩
theorem atA {P:GP} {A B:GA} (h:gT P A B) (z:Bool):js ⟨P.null,P.first,P.last⟩ (fG B.2 P.last P.first) (A.1.length:Int) (B.1.length:Int)=(js P B.2 (A.1.length:Int) (B.1.length:Int)).more:=by
 refine PA.ext' Iff.rfl (fun p=>Iff.rfl) (fun p=>Iff.rfl) (fun p q=>?_)
 simp only[js,PA.more]
 have hl:∀ i∈P.last,(A.1.length:Int) < i∧i≤(B.1.length:Int):=fun i hi=>h.inn.last i hi
 constructor
 ·rintro ⟨⟨g1,g2⟩,g3⟩
  rcases (lJ hl (by omega) (by omega)).1 g3 with g | ⟨⟨_,g4⟩,g5⟩
  ·exact .inl ⟨⟨g1,g2⟩,g⟩
  ·exact .inr ⟨g4,g5⟩
 ·rintro (⟨⟨g1,g2⟩,g⟩ | ⟨g4,g5⟩)
  ·exact ⟨⟨g1,g2⟩,(lJ hl (by omega) (by omega)).2 (.inl g)⟩
  ·have:=hl p g4
   refine ⟨this,(lJ hl (by omega) (by omega)).2 (.inr ⟨⟨?_,g4⟩,g5⟩)⟩
   rw[h.len];omega
theorem xQ {F:List (List Int)} {last first:List Int} {n j:Nat} (hl:∀ i∈last,(n:Int) < i) (hj:j < n):(fG F last first)[j]? =F[j]? :=by
 induction last generalizing F with
 | nil=>rfl
 | cons i last ih=>
  show (fG (F.set _ _) last first)[j]? =_
  have:=hl i (by simp)
  rw[ih fun k hk=>hl k (List.mem_cons_of_mem _ hk),List.getElem?_set_ne (by omega)]
theorem ux {F:List (List Int)} {last first:List Int} {n:Nat} (hl:∀ i∈last,1≤i) (h:∀ (j:Nat) (row:List Int),n≤j→F[j]? =some row→wP row) (j:Nat) (row:List Int) (hj:n≤j) (e:(fG F last first)[j]? =some row):wP row:=by
 have hlt:j < F.length:=by have:=(List.getElem?_eq_some_iff.1 e).1;rwa[kq]at this
 obtain ⟨row',h1,_,h3⟩:=oF (first:=first) hl (gE hlt)
 rw[h1]at e
 obtain rfl:=Option.some.inj e
 exact h3 (h j _ hj (gE hlt))
theorem gT.then_ {P R:GP} {A B C:GA} (h1:gT P A B) (h2:gT R B C):gT (nT P R) A (C.1,fG C.2 P.last R.first):=by
 have lAB:A.1.length≤B.1.length:=h1.sets.length_le
 have lBC:B.1.length≤C.1.length:=h2.sets.length_le
 have hl:∀ i∈P.last,(A.1.length:Int) < i∧i≤(B.1.length:Int):=fun i hi=>h1.inn.last i hi
 refine ⟨h1.sets.trans h2.sets,by rw[kq];exact h2.len,fun j hj=>?_,?_,?_,?_,?_⟩
 ·show (fG C.2 P.last R.first)[j]? =_
  rw[xQ (n:=A.1.length) (fun i hi=>(hl i hi).1) hj,h2.old j (by omega),h1.old j hj]
 ·show (js (nT P R) (fG C.2 P.last R.first) (A.1.length:Int) (C.1.length:Int)).In _ _
  rw[alj h1 h2]
  have hi:=as0 h1.inn h2.inn (by omega) (by omega)
  exact hi
 ·refine ux (fun i hi=>by have:=hl i hi;omega) fun j row hj e=>?_
  by_cases hb:j < B.1.length
  ·rw[h2.old j hb]at e;exact h1.rows j row hj e
  ·exact h2.rows j row (by omega) e
 ·simp only[nT];split
  ·exact gu h1.firsts
  ·exact h1.firsts
 ·simp only[nT];split
  ·exact gu h1.lasts
  ·exact h2.lasts
theorem gT.or_ {P R:GP} {A B C:GA} (h1:gT P A B) (h2:gT R B C):gT (orP P R) A C:=by
 have lAB:A.1.length≤B.1.length:=h1.sets.length_le
 have lBC:B.1.length≤C.1.length:=h2.sets.length_le
 refine ⟨h1.sets.trans h2.sets,h2.len,fun j hj=>?_,?_,fun j row hj e=>?_,gu h1.firsts,gu h1.lasts⟩
 ·rw[h2.old j (by omega),h1.old j hj]
 ·rw[axs h1 h2];exact azW h1.inn h2.inn (by omega) (by omega)
 ·by_cases hb:j < B.1.length
  ·rw[h2.old j hb]at e;exact h1.rows j row hj e
  ·exact h2.rows j row (by omega) e
theorem gT.start (z:Bool) {A:GA} (hA:A.2.length=A.1.length):gT ⟨z,[],[]⟩ A A:=
 ⟨List.prefix_refl _,hA,fun _ _=>rfl,⟨fun p h=>(by cases h),fun p h=>(by cases h),fun p q h=>by have h':=h.1;omega⟩,fun j row hj e=>by have:=(List.getElem?_eq_some_iff.1 e).1;omega,List.Pairwise.nil,List.Pairwise.nil⟩
section
variable {hit:Int→Int→Bool}
theorem atX:∀ (n:az) (A:GA),A.2.length=A.1.length→(glu n A).2.2.length=(glu n A).2.1.length∧gT (glu n A).1 A (glu n A).2∧yH hit (glu n A).1 A (glu n A).2 (nC hit n):=by
 intro n
 induction n using az.ind with
 | h n ih=>
 have cat:∀ (l:List az),(∀ x∈l,x∈n.Kids)→∀ (out:GP) (A B:GA) (M:List Int→Prop),gT out A B→yH hit out A B M→gT (iz l out B).1 A (iz l out B).2∧yH hit (iz l out B).1 A (iz l out B).2 (ng M (aed hit l)):=by
  intro l
  induction l with
  | nil=>exact fun _ out A B M h1 h2=>⟨h1,fun T hT w=>(h2 T hT w).trans (by rw[aed];exact ng.nilR.symm)⟩
  | cons x l ihl=>
   intro hl out A B M h1 h2
   obtain ⟨_,g1,g2⟩:=ih x (hl x (by simp)) B h1.len
   have h3:=h1.then_ g1
   obtain ⟨r1,r2⟩:=ihl (fun y hy=>hl y (List.mem_cons_of_mem _ hy)) (nT out (glu x B).1) A ((glu x B).2.1,fG (glu x B).2.2 out.last (glu x B).1.first) (ng M (nC hit x)) h3 (fun T hT w=>by
    show (js (nT out (glu x B).1) (fG (glu x B).2.2 out.last (glu x B).1.first) (A.1.length:Int) ((glu x B).2.1.length:Int)).L (ai9 hit T) w↔_
    rw[alj h1 g1,avX h1.inn g1.inn]
    exact ng.congr (h2 T (g1.sets.trans hT)) (g2 T hT) w)
   exact ⟨r1,fun T hT w=>(r2 T hT w).trans (by rw[aed];exact ng.assoc)⟩
 have alt:∀ (l:List az),(∀ x∈l,x∈n.Kids)→∀ (out:GP) (A B:GA) (M:List Int→Prop),gT out A B→yH hit out A B M→gT (iN l out B).1 A (iN l out B).2∧yH hit (iN l out B).1 A (iN l out B).2 (fun w=>M w∨apV hit l w):=by
  intro l
  induction l with
  | nil=>exact fun _ out A B M h1 h2=>⟨h1,fun T hT w=>(h2 T hT w).trans (by simp[apV])⟩
  | cons x l ihl=>
   intro hl out A B M h1 h2
   obtain ⟨_,g1,g2⟩:=ih x (hl x (by simp)) B h1.len
   obtain ⟨r1,r2⟩:=ihl (fun y hy=>hl y (List.mem_cons_of_mem _ hy)) (orP out (glu x B).1) A (glu x B).2 (fun w=>M w∨nC hit x w) (h1.or_ g1) (fun T hT w=>by
    rw[axs h1 g1,aAm h1.inn g1.inn]
    exact or_congr (h2 T (g1.sets.trans hT) w) (g2 T hT w))
   exact ⟨r1,fun T hT w=>(r2 T hT w).trans (by simp only[apV];exact or_assoc)⟩
 intro A hA
 suffices H:gT (glu n A).1 A (glu n A).2∧yH hit (glu n A).1 A (glu n A).2 (nC hit n) from ⟨H.1.len,H⟩
 obtain ⟨k,s,l⟩:=n
 by_cases h1:k=1
 ·subst h1
  have e:glu ⟨1,s,l⟩ A=(⟨false,[(A.1.length:Int)+1],[(A.1.length:Int)+1]⟩,A.1++[s],A.2++[[]]):=by rw[glu,if_pos rfl]
  rw[e]
  refine ⟨⟨List.prefix_append _ _,by simp[hA],fun j hj=>?_,⟨fun p h=>?_,fun p h=>?_,fun p q h=>?_⟩,fun j row hj e=>?_,by simp,by simp⟩,fun T hT w=>?_⟩
  ·show (A.2++[[]])[j]? =_
   rw[List.getElem?_append_left (by omega)]
  ·simp only[js,List.mem_singleton]at h;simp only[List.length_append,List.length_singleton];omega
  ·simp only[js,List.mem_singleton]at h;simp only[List.length_append,List.length_singleton];omega
  ·obtain ⟨⟨q1,q2⟩,row,e,hq⟩:=h
   exfalso
   simp only[List.length_append,List.length_singleton]at q2
   have:(p - 1).toNat=A.2.length:=by omega
   rw[this,List.getElem?_concat_length]at e
   obtain rfl:=Option.some.inj e
   cases hq
  ·have hlt:=(List.getElem?_eq_some_iff.1 e).1
   simp only[List.length_append,List.length_singleton]at hlt
   have:j=A.2.length:=by omega
   subst this
   rw[List.getElem?_concat_length]at e
   obtain rfl:=Option.some.inj e
   exact List.Pairwise.nil
  ·have hs:T[A.1.length]? =some s:=by
    obtain ⟨t,rfl⟩:=hT
    rw[List.append_assoc,List.getElem?_append_right (Nat.le_refl _)];simp
   have hnoE:∀ p q,¬ (js ⟨false,[(A.1.length:Int)+1],[(A.1.length:Int)+1]⟩ (A.2++[[]]) (A.1.length:Int) ((A.1++[s]).length:Int)).E p q:=by
    rintro p q ⟨⟨q1,q2⟩,row,e,hq⟩
    simp only[List.length_append,List.length_singleton]at q2
    have:(p - 1).toNat=A.2.length:=by omega
    rw[this,List.getElem?_concat_length]at e
    obtain rfl:=Option.some.inj e
    cases hq
   rw[nC,if_pos rfl]
   cases w with
   | nil=>simp[PA.L,js]
   | cons a w=>
    simp only[PA.L]
    constructor
    ·rintro ⟨p,g1,⟨s',g2,g3⟩,g4⟩
     have hp:p=(A.1.length:Int)+1:=by simpa[js]using g1
     subst hp
     have e3:((A.1.length:Int)+1 - 1).toNat=A.1.length:=by omega
     rw[e3,hs]at g2
     obtain rfl:=Option.some.inj g2
     cases w with
     | nil=>exact ⟨a,rfl,g3⟩
     | cons b w=>obtain ⟨q,hE,_⟩:=g4;exact absurd hE (hnoE _ _)
    ·rintro ⟨a',e,h⟩
     simp only[List.cons.injEq]at e
     obtain ⟨rfl,rfl⟩:=e
     have e3:((A.1.length:Int)+1 - 1).toNat=A.1.length:=by omega
     exact ⟨(A.1.length:Int)+1,by simp[js],⟨s,by rw[e3];exact hs,h⟩,by simp[PA.Acc,js]⟩
 by_cases h0:k=0
 ·subst h0
  have e:glu ⟨0,s,l⟩ A=iz l ⟨true,[],[]⟩ A:=by rw[glu,if_neg (by decide),if_pos rfl]
  rw[e]
  obtain ⟨r1,r2⟩:=cat l (fun x hx=>hx) ⟨true,[],[]⟩ A A (fun w=>w=[]) (gT.start true hA) (fun T hT w=>by
   cases w with
   | nil=>simp[PA.L,js]
   | cons a w=>simp[PA.L,js])
  exact ⟨r1,fun T hT w=>(r2 T hT w).trans (by rw[nC,if_neg (by decide),if_pos rfl];exact ng.nilL)⟩
 by_cases h2:k=2
 ·subst h2
  have e:glu ⟨2,s,l⟩ A=iN l ⟨false,[],[]⟩ A:=by rw[glu,if_neg (by decide),if_neg (by decide),if_pos rfl]
  rw[e]
  obtain ⟨r1,r2⟩:=alt l (fun x hx=>hx) ⟨false,[],[]⟩ A A (fun w=>False) (gT.start false hA) (fun T hT w=>by
   cases w with
   | nil=>simp[PA.L,js]
   | cons a w=>simp[PA.L,js])
  exact ⟨r1,fun T hT w=>(r2 T hT w).trans (by rw[nC,if_neg (by decide),if_neg (by decide),if_pos rfl];simp)⟩
 have one:gT (cO l A).1 A (cO l A).2∧yH hit (cO l A).1 A (cO l A).2 (vp hit l):=by
  cases l with
  | nil=>
   rw[cO]
   exact ⟨gT.start false hA,fun T hT w=>by rw[vp];cases w <;> simp[PA.L,js]⟩
  | cons x l=>
   rw[cO]
   obtain ⟨_,g1,g2⟩:=ih x (by simp) A hA
   exact ⟨g1,fun T hT w=>(g2 T hT w).trans (by rw[vp])⟩
 obtain ⟨o1,o2⟩:=one
 have hl:∀ i∈(cO l A).1.last,(A.1.length:Int) < i∧i≤((cO l A).2.1.length:Int):=fun i hi=>o1.inn.last i hi
 have nul:∀ {P Q:GP} {F:List (List Int)} {lo hi:Int} {lab:Int→Int→Prop} {a:Int} {w:List Int},P.first=Q.first→P.last=Q.last→((js P F lo hi).L lab (a::w)↔(js Q F lo hi).L lab (a::w)):=by
  intro P Q F lo hi lab a w e1 e2
  have acc:∀ (w:List Int) (p:Int),(js P F lo hi).Acc lab p w↔(js Q F lo hi).Acc lab p w:=by
   intro w
   induction w with
   | nil=>intro p;simp only[PA.Acc,js,e2]
   | cons b w ihw=>intro p;simp only[PA.Acc,ihw];simp only[js]
  simp only[PA.L,acc]
  simp only[js,e1]
 by_cases h5:k=5
 ·subst h5
  have e:glu ⟨5,s,l⟩ A=(⟨(cO l A).1.null||true,(cO l A).1.first,(cO l A).1.last⟩,(cO l A).2.1,(cO l A).2.2):=by rw[glu,if_neg h1,if_neg h0,if_neg h2];rfl
  rw[e]
  refine ⟨⟨o1.sets,o1.len,o1.old,⟨o1.inn.first,o1.inn.last,o1.inn.E⟩,o1.rows,o1.firsts,o1.lasts⟩,fun T hT w=>?_⟩
  rw[nC,if_neg h1,if_neg h0,if_neg h2,if_pos rfl]
  cases w with
  | nil=>simp[PA.L,js]
  | cons a w=>
   refine (nul (P:=⟨(cO l A).1.null||true,(cO l A).1.first,(cO l A).1.last⟩) (Q:=(cO l A).1) rfl rfl).trans ((o2 T hT (a::w)).trans ?_)
   simp
 have e:glu ⟨k,s,l⟩ A=(⟨(cO l A).1.null||decide (k≠4),(cO l A).1.first,(cO l A).1.last⟩,(cO l A).2.1,fG (cO l A).2.2 (cO l A).1.last (cO l A).1.first):=by rw[glu,if_neg h1,if_neg h0,if_neg h2,if_neg h5]
 have hm:=atA o1 true
 rw[e]
 have hML:∀ T,(cO l A).2.1 <+: T→∀ w,(js ⟨(cO l A).1.null,(cO l A).1.first,(cO l A).1.last⟩ (fG (cO l A).2.2 (cO l A).1.last (cO l A).1.first) (A.1.length:Int) ((cO l A).2.1.length:Int)).L (ai9 hit T) w↔ng (vp hit l) (jY (vp hit l)) w:=fun T hT w=>by
  rw[hm,axo]
  exact ng.congr (o2 T hT) (jY.congr (o2 T hT)) w
 refine ⟨⟨o1.sets,by rw[kq];exact o1.len,fun j hj=>?_,?_,?_,o1.firsts,o1.lasts⟩,fun T hT w=>?_⟩
 ·show (fG _ _ _)[j]? =_
  rw[xQ (n:=A.1.length) (fun i hi=>(hl i hi).1) hj,o1.old j hj]
 ·have hi:=auE o1.inn
  rw[← hm]at hi
  exact ⟨hi.first,hi.last,hi.E⟩
 ·exact ux (fun i hi=>by have:=hl i hi;omega) o1.rows
 ·rw[nC,if_neg h1,if_neg h0,if_neg h2,if_neg h5]
  by_cases h4:k=4
  ·subst h4
   rw[if_pos rfl,← hML T hT w]
   simp
  ·rw[if_neg h4]
   cases w with
   | nil=>simp[PA.L,js,h4,jY.nil]
   | cons a w=>
    refine (nul (P:=⟨(cO l A).1.null||decide (k≠4),(cO l A).1.first,(cO l A).1.last⟩) (Q:=⟨(cO l A).1.null,(cO l A).1.first,(cO l A).1.last⟩) rfl rfl).trans ((hML T hT (a::w)).trans ?_)
    constructor
    ·rintro ⟨u,v,e,h1,h2⟩;rw[e];exact .cons h1 h2
    ·intro h
     rcases h.head with e | ⟨b,u,v,e,h1,h2⟩
     ·cases e
     ·exact ⟨b::u,v,e,h1,h2⟩
end
section
variable {α:Type} (same:α→α→Bool)
def qC (o:List α) (x:α):Option Nat:=o.findIdx? fun y=>same y x
def mR (o:List α) (x:α):List α×Nat:=match qC same o x with
 | some k=>(o,k)
 | none=>(o++[x],o.length)
def jT:List α→List α→List α×List Int
 | o,[]=>(o,[])
 | o,x::xs=>((jT (mR same o x).1 xs).1,((mR same o x).2:Int)::(jT (mR same o x).1 xs).2)
def bgo (succ:α→List α) (most:Nat):Nat→Nat→List α→List (List Int)→Option (List α×List (List Int))
 | 0,i,o,R=>none
 | fu+1,i,o,R=>match o[i]? with
  | none=>some (o,R)
  | some x=>if (jT same o (succ x)).1.length≤most then bgo succ most fu (i+1) (jT same o (succ x)).1 (R++[(jT same o (succ x)).2])else none
end
section
variable {α:Type} {same:α→α→Bool}
theorem alV {o:List α} {x:α} {k:Nat} (h:qC same o x=some k):k < o.length:=by
 unfold qC at h
 exact (List.findIdx?_eq_some_iff_getElem.1 h).1
theorem alR {o:List α} {x:α} {k:Nat} (h:qC same o x=some k):∃ y,o[k]? =some y∧same y x=true:=by
 unfold qC at h
 obtain ⟨h1,h2,_⟩:=List.findIdx?_eq_some_iff_getElem.1 h
 exact ⟨o[k],gE h1,h2⟩
theorem afm {o p:List α} {x:α} {k:Nat} (h:qC same o x=some k):qC same (o++p) x=some k:=by
 unfold qC at h ⊢
 rw[List.findIdx?_append,h];rfl
theorem aos {o:List α} {x:α} (h:qC same o x=none) (hr:same x x=true):qC same (o++[x]) x=some o.length:=by
 unfold qC at h ⊢
 rw[List.findIdx?_append,h]
 simp[List.findIdx?_cons,hr]
theorem akf {o:List α} {x:α} (h:qC same o x=none):∀ y∈o,same y x=false:=by
 unfold qC at h
 simpa[List.findIdx?_eq_none_iff]using h
theorem aeY (o:List α) (x:α):o <+: (mR same o x).1:=by
 unfold mR;split
 ·exact List.prefix_refl _
 ·exact List.prefix_append _ _
theorem alk (hr:∀ x,same x x=true) (o:List α) (x:α):qC same (mR same o x).1 x=some (mR same o x).2:=by
 unfold mR;split
 ·rename_i k h;exact h
 ·rename_i h;exact aos h (hr x)
theorem lq:∀ (xs o:List α),o <+: (jT same o xs).1
 | [],o=>List.prefix_refl _
 | x::xs,o=>(aeY o x).trans (lq xs _)
theorem aem:∀ (xs o:List α),(jT same o xs).2.length=xs.length
 | [],o=>rfl
 | x::xs,o=>by simp only[jT,List.length_cons,aem xs]
theorem qY:∀ (xs o:List α),∀ y∈(jT same o xs).1,y∈o∨y∈xs
 | [],o,y,h=>.inl h
 | x::xs,o,y,h=>by
  rcases qY xs _ y h with h | h
  ·unfold mR at h
   split at h
   ·exact .inl h
   ·rcases List.mem_append.1 h with h | h
    ·exact .inl h
    ·exact .inr (by simp at h;simp[h])
  ·exact .inr (List.mem_cons_of_mem _ h)
theorem afs (hr:∀ x,same x x=true):∀ (xs o:List α) (c:Nat) (x:α),xs[c]? =some x→∃ k:Nat,(jT same o xs).2[c]? =some (k:Int)∧qC same (jT same o xs).1 x=some k
 | [],o,c,x,h=>by simp at h
 | y::xs,o,0,x,h=>by
  obtain rfl:y=x:=by simpa using h
  refine ⟨(mR same o y).2,rfl,?_⟩
  obtain ⟨t,ht⟩:=lq xs (same:=same) (mR same o y).1
  show qC same (jT same (mR same o y).1 xs).1 y=_
  rw[← ht];exact afm (alk hr o y)
 | y::xs,o,c+1,x,h=>afs hr xs _ c x (by simpa using h)
def qm (same:α→α→Bool) (o:List α):Prop:=o.Pairwise fun x y=>same x y=false
theorem uu {o:List α} (x:α) (h:qm same o):qm same (mR same o x).1:=by
 unfold mR;split
 ·exact h
 ·rename_i hn
  exact List.pairwise_append.2 ⟨h,by simp,fun a ha b hb=>by
   obtain rfl:=List.mem_singleton.1 hb
   exact akf hn a ha⟩
theorem uR:∀ (xs o:List α),qm same o→qm same (jT same o xs).1
 | [],o,h=>h
 | x::xs,o,h=>uR xs _ (uu x h)
structure avQ (same:α→α→Bool) (succ:α→List α) (o:List α) (R:List (List Int)) (i:Nat):Prop where
 len:R.length=i
 le:i≤o.length
 row:∀ (j:Nat) (x:α),j < i→o[j]? =some x→∃ r,R[j]? =some r∧r.length=(succ x).length∧∀ (c:Nat) (y:α),(succ x)[c]? =some y→∃ k:Nat,r[c]? =some (k:Int)∧qC same o y=some k
theorem avQ.next {succ:α→List α} {o:List α} {R:List (List Int)} {i:Nat} {x:α} (hr:∀ x,same x x=true) (h:avQ same succ o R i) (hx:o[i]? =some x):
  avQ same succ (jT same o (succ x)).1 (R++[(jT same o (succ x)).2]) (i+1):=by
 obtain ⟨t,ht⟩:=lq (same:=same) (succ x) o
 have hi:=(List.getElem?_eq_some_iff.1 hx).1
 refine ⟨by simp[h.len],by rw[← ht];simp;omega,fun j y hj hy=>?_⟩
 by_cases e:j=i
 ·subst e
  rw[← ht,List.getElem?_append_left hi,hx]at hy
  obtain rfl:=Option.some.inj hy
  refine ⟨(jT same o (succ x)).2,by rw[List.getElem?_append_right (by rw[h.len];exact Nat.le_refl _),h.len];simp only[Nat.sub_self,List.getElem?_cons_zero],aem _ _,fun c z hz=>afs hr _ _ c z hz⟩
 ·rw[← ht,List.getElem?_append_left (by omega)]at hy
  obtain ⟨r,h1,h2,h3⟩:=h.row j y (by omega) hy
  refine ⟨r,by rw[List.getElem?_append_left (by rw[h.len];omega)];exact h1,h2,fun c z hz=>?_⟩
  obtain ⟨k,g1,g2⟩:=h3 c z hz
  exact ⟨k,g1,by rw[← ht];exact afm g2⟩
theorem acz {succ:α→List α} {most:Nat} (hr:∀ x,same x x=true):∀ (fu i:Nat) (o:List α) (R:List (List Int)) (o':List α) (R':List (List Int)),avQ same succ o R i→o.length≤most→bgo same succ most fu i o R=some (o',R')→avQ same succ o' R' o'.length∧o <+: o'∧o'.length≤most
 | 0,i,o,R,o',R',h,hm,e=>by cases e
 | fu+1,i,o,R,o',R',h,hm,e=>by
  simp only[bgo]at e
  split at e
  ·rename_i hn
   obtain ⟨rfl,rfl⟩:=Prod.mk.inj (Option.some.inj e)
   have:o.length≤i:=List.getElem?_eq_none_iff.1 hn
   have h2:=h.le
   obtain rfl:i=o.length:=by omega
   exact ⟨h,List.prefix_refl _,hm⟩
  ·rename_i x hx
   split at e
   ·rename_i hl
    obtain ⟨h1,h2,h3⟩:=acz hr fu _ _ _ _ _ (h.next hr hx) hl e
    exact ⟨h1,(lq _ _).trans h2,h3⟩
   ·cases e
theorem akT {succ:α→List α} {most:Nat} {P:α→Prop} (hs:∀ x,P x→∀ y∈succ x,P y):∀ (fu i:Nat) (o:List α) (R:List (List Int)) (o':List α) (R':List (List Int)),(∀ x∈o,P x)→bgo same succ most fu i o R=some (o',R')→∀ x∈o',P x
 | 0,i,o,R,o',R',h,e=>by cases e
 | fu+1,i,o,R,o',R',h,e=>by
  simp only[bgo]at e
  split at e
  ·obtain ⟨rfl,rfl⟩:=Prod.mk.inj (Option.some.inj e);exact h
  ·rename_i x hx
   split at e
   ·refine akT hs fu _ _ _ _ _ (fun y hy=>?_) e
    rcases qY _ _ y hy with hy | hy
    ·exact h y hy
    ·exact hs x (h x (List.mem_of_getElem? hx)) y hy
   ·cases e
end
def nc (N:List (List Int)) (s c:Nat):Nat:=((N.getD s []).getD c 0).toNat
def rC (N:List (List Int)) (s:Nat) (cs:List Nat):Nat:=cs.foldl (nc N) s
theorem ap5 {N:List (List Int)} {s c k:Nat} {r:List Int} (h1:N[s]? =some r) (h2:r[c]? =some (k:Int)):nc N s c=k:=by
 unfold nc
 rw[gD,gD,h1,Option.getD_some,h2];rfl
theorem ayT {α β:Type} {same:α→α→Bool} {succ:α→List α} {o:List α} {R:List (List Int)} (h:avQ same succ o R o.length) {Q:α→β→Prop} {nx:β→Nat→β} {m:Nat}
  (hQ:∀ x b c,Q x b→c < m→∃ y,(succ x)[c]? =some y∧Q y (nx b c)) (hs:∀ y y' b,y'∈o→same y' y=true→Q y b→Q y' b):
  ∀ (cs:List Nat),(∀ c∈cs,c < m)→∀ (s:Nat) (x:α) (b:β),o[s]? =some x→Q x b→∃ y,o[rC R s cs]? =some y∧Q y (cs.foldl nx b)
 | [],_,s,x,b,hx,hq=>⟨x,hx,hq⟩
 | c::cs,hc,s,x,b,hx,hq=>by
  obtain ⟨y,hy,hq'⟩:=hQ x b c hq (hc c (by simp))
  obtain ⟨r,h1,_,h3⟩:=h.row s x (List.getElem?_eq_some_iff.1 hx).1 hx
  obtain ⟨k,h4,h5⟩:=h3 c y hy
  obtain ⟨z,hz,hsz⟩:=alR h5
  have e:nc R s c=k:=ap5 h1 h4
  show ∃ y,o[rC R (nc R s c) cs]? =some y∧_
  rw[e]
  exact ayT h hQ hs cs (fun c' hc'=>hc c' (List.mem_cons_of_mem _ hc')) k z _ hz (hs y z _ (List.mem_of_getElem? hz) hsz hq')
section
variable (hit:Int→Int→Bool)
def stepG (S first:List Int) (F:List (List Int)) (at_:List Int) (a:Int):List Int:=
 ((List.range S.length).map fun j:Nat=>(j:Int)+1).filter fun k=>((at_.contains 0&&first.contains k)||at_.any fun i=>decide (0 < i)&&(F.getD (i - 1).toNat []).contains k)&&hit a (S.getD (k - 1).toNat 0)
def abw (S first:List Int) (F:List (List Int)) (at_:List Int) (a:Int):List Int:=0::stepG hit S first F at_ a
def ax2 (null:Bool) (last at_:List Int):Bool:=at_.any fun i=>(decide (i=0)&&null)||last.contains i
def aok (S first:List Int) (F:List (List Int)) (w:List Int):List Int:=w.foldl (abw hit S first F) [0]
end
section
variable {hit:Int→Int→Bool} {S first:List Int} {F:List (List Int)}
theorem sT {at_:List Int} {a k:Int}:k∈stepG hit S first F at_ a↔(1≤k∧k≤(S.length:Int))∧((0∈at_∧k∈first)∨∃ i∈at_,0 < i∧k∈F.getD (i - 1).toNat [])∧hit a (S.getD (k - 1).toNat 0)=true:=by
 unfold stepG
 simp only[List.mem_filter,List.mem_map,List.mem_range,Bool.and_eq_true,Bool.or_eq_true,List.contains_iff_mem,List.any_eq_true,decide_eq_true_eq]
 constructor
 ·rintro ⟨⟨j,hj,rfl⟩,h⟩
  exact ⟨⟨by omega,by omega⟩,h⟩
 ·rintro ⟨⟨h1,h2⟩,h⟩
  exact ⟨⟨(k - 1).toNat,by omega,by omega⟩,h⟩
theorem ur {at_:List Int} {a:Int}:wP (stepG hit S first F at_ a):=by
 unfold stepG
 refine List.Pairwise.filter _ ?_
 rw[List.pairwise_map]
 exact (List.pairwise_lt_range).imp fun h=>by omega
theorem xW {w:List Int} {a:Int}:aok hit S first F (w++[a])=abw hit S first F (aok hit S first F w) a:=by
 unfold aok;rw[List.foldl_append];rfl
theorem yU (w:List Int):0∈aok hit S first F w:=by
 rcases List.eq_nil_or_concat w with rfl | ⟨w',a,rfl⟩
 ·simp[aok]
 ·rw[List.concat_eq_append,xW];simp[abw]
theorem anJ {P:GP} {B:GA} (h:gT P ([],[]) B):∀ (v:List Int) (p:Int),p∈aok hit B.1 P.first B.2 v.reverse↔p=0∨(js P B.2 0 (B.1.length:Int)).FR (ai9 hit B.1) v p
 | [],p=>by simp[aok,PA.FR]
 | a::v,p=>by
  have ih:=anJ h v
  rw[List.reverse_cons,xW]
  unfold abw
  rw[List.mem_cons,sT]
  refine or_congr Iff.rfl ?_
  simp only[PA.FR,ai9]
  have hin:(js P B.2 0 (B.1.length:Int)).In 0 (B.1.length:Int):=h.inn
  have lab:∀ {k:Int},1≤k→k≤(B.1.length:Int)→(hit a (B.1.getD (k - 1).toNat 0)=true↔∃ s,B.1[(k - 1).toNat]? =some s∧hit a s=true):=fun {k} h1 h2=>by
   rw[gD,gE (by omega)]
   simp
  constructor
  ·rintro ⟨⟨h1,h2⟩,h3,h4⟩
   refine ⟨(lab h1 h2).1 h4,?_⟩
   rcases h3 with ⟨_,h3⟩ | ⟨i,g1,g2,g3⟩
   ·exact .inl h3
   ·rcases (ih i).1 g1 with e | g1
    ·omega
    ·refine .inr ⟨i,g1,?_⟩
     rw[gD]at g3
     cases e:B.2[(i - 1).toNat]? with
     | none=>rw[e]at g3;simp at g3
     | some row=>
      rw[e]at g3
      have:=(List.getElem?_eq_some_iff.1 e).1
      rw[h.len]at this
      exact ⟨⟨by omega,by omega⟩,row,e,g3⟩
  ·rintro ⟨h1,h2⟩
   have hp:1≤p∧p≤(B.1.length:Int):=by
    rcases h2 with h2 | ⟨q,_,h2⟩
    ·have:=hin.first _ h2;omega
    ·have:=hin.E _ _ h2;omega
   refine ⟨hp,?_,(lab hp.1 hp.2).2 h1⟩
   rcases h2 with h2 | ⟨q,g1,g2⟩
   ·exact .inl ⟨yU _,h2⟩
   ·have:=hin.E _ _ g2
    obtain ⟨_,row,e,hq⟩:=g2
    refine .inr ⟨q,(ih q).2 (.inr g1),by omega,?_⟩
    rw[gD,e];exact hq
theorem avh {P:GP} {B:GA} (h:gT P ([],[]) B) {M:List Int→Prop} (hM:yH hit P ([],[]) B M) (w:List Int):
  ax2 P.null P.last (aok hit B.1 P.first B.2 w)=true↔∃ u v,w=u++v∧M v:=by
 have hin:(js P B.2 0 (B.1.length:Int)).In 0 (B.1.length:Int):=h.inn
 have h1:(∃ u v,w=u++v∧M v)↔∃ u v,w=u++v∧(js P B.2 0 (B.1.length:Int)).L (ai9 hit B.1) v:=
  exists_congr fun u=>exists_congr fun v=>and_congr Iff.rfl (hM B.1 (List.prefix_refl _) v).symm
 rw[h1,anA]
 unfold ax2
 simp only[List.any_eq_true,Bool.or_eq_true,Bool.and_eq_true,decide_eq_true_eq,List.contains_iff_mem]
 have hst:=anJ (hit:=hit) h w.reverse
 rw[List.reverse_reverse]at hst
 constructor
 ·rintro ⟨i,g1,⟨_,g2⟩ | g2⟩
  ·exact .inl g2
  ·rcases (hst i).1 g1 with rfl | g1
   ·have:=hin.last 0 g2;omega
   ·exact .inr ⟨i,g1,g2⟩
 ·rintro (g | ⟨q,g1,g2⟩)
  ·exact ⟨0,yU w,.inl ⟨rfl,g⟩⟩
  ·exact ⟨q,(hst q).2 (.inr g1),.inr g2⟩
end
theorem zt (hit:Int→Int→Bool):∀ (n:az) (w:List Int),nC hit (iI n) w↔nC hit n w.reverse:=by
 intro n
 induction n using az.ind with
 | h n ih=>
 obtain ⟨k,s,l⟩:=n
 have ih':∀ x∈l,∀ w,nC hit (iI x) w↔nC hit x w.reverse:=ih
 clear ih
 have one:∀ w,vp hit (mA l) w↔vp hit l w.reverse:=by
  intro w
  cases l with
  | nil=>simp[mA,vp]
  | cons x l=>rw[mA,vp,vp];exact ih' x (by simp) w
 have alt:∀ (l:List az),(∀ x∈l,∀ w,nC hit (iI x) w↔nC hit x w.reverse)→∀ w,apV hit (mA l) w↔apV hit l w.reverse:=by
  intro l
  induction l with
  | nil=>intro _ w;simp[mA,apV]
  | cons x l ihl=>intro hl w;simp only[mA,apV];exact or_congr (hl x (by simp) w) (ihl (fun y hy=>hl y (by simp[hy])) w)
 have snoc:∀ (l:List az) (x:az) (w:List Int),aed hit (l++[x]) w↔ng (aed hit l) (nC hit x) w:=by
  intro l x
  induction l with
  | nil=>intro w;simp only[List.nil_append,aed];exact ng.nilR.trans ng.nilL.symm
  | cons y l ihl=>
   intro w
   simp only[List.cons_append,aed]
   exact (ng.congr (fun _=>Iff.rfl) ihl w).trans ng.assoc.symm
 have cat:∀ (l:List az),(∀ x∈l,∀ w,nC hit (iI x) w↔nC hit x w.reverse)→∀ w,aed hit (mA l).reverse w↔aed hit l w.reverse:=by
  intro l
  induction l with
  | nil=>intro _ w;simp[mA,aed]
  | cons x l ihl=>
   intro hl w
   rw[mA,List.reverse_cons,snoc,aed]
   have hl':=ihl (fun y hy=>hl y (by simp[hy]))
   constructor
   ·rintro ⟨u,v,rfl,h1,h2⟩
    exact ⟨v.reverse,u.reverse,by simp,(hl x (by simp) v).1 h2,(hl' u).1 h1⟩
   ·rintro ⟨u,v,e,h1,h2⟩
    exact ⟨v.reverse,u.reverse,by rw[← List.reverse_append,← e,List.reverse_reverse],(hl' _).2 (by rw[List.reverse_reverse];exact h2),(hl x (by simp) _).2 (by rw[List.reverse_reverse];exact h1)⟩
 intro w
 rw[iI,nC,nC]
 by_cases h1:k=1
 ·rw[if_pos h1,if_pos h1]
  constructor
  ·rintro ⟨a,rfl,h⟩;exact ⟨a,rfl,h⟩
  ·rintro ⟨a,e,h⟩;exact ⟨a,by simpa using congrArg List.reverse e,h⟩
 rw[if_neg h1,if_neg h1]
 by_cases h0:k=0
 ·rw[if_pos h0,if_pos h0,if_pos h0];exact cat l ih' w
 rw[if_neg h0,if_neg h0,if_neg h0]
 by_cases h2:k=2
 ·rw[if_pos h2,if_pos h2];exact alt l ih' w
 rw[if_neg h2,if_neg h2]
 have star:∀ w,jY (vp hit (mA l)) w↔jY (vp hit l) w.reverse:=fun w=>
  ⟨fun h=>h.rev fun w h=>(one w).1 h,fun h=>by
   have:=jY.rev (Q:=vp hit (mA l)) (fun w h=>(one _).2 (by rw[List.reverse_reverse];exact h)) h
   rwa[List.reverse_reverse]at this⟩
 by_cases h5:k=5
 ·rw[if_pos h5,if_pos h5]
  exact or_congr (by simp) (one w)
 rw[if_neg h5,if_neg h5]
 by_cases h4:k=4
 ·rw[if_pos h4,if_pos h4]
  constructor
  ·rintro ⟨u,v,rfl,h1,h2⟩
   rw[List.reverse_append]
   have h3:jY (vp hit l) (v.reverse++u.reverse):=((star v).1 h2).app (.one ((one u).1 h1))
   rcases h3.head with e | ⟨a,x,y,e,g1,g2⟩
   ·obtain ⟨e1,e2⟩:=List.append_eq_nil_iff.1 e
    rw[e1,e2]
    exact ⟨[],[],rfl,by rw[← e2];exact (one u).1 h1,.nil⟩
   ·rw[e];exact ⟨a::x,y,rfl,g1,g2⟩
  ·rintro ⟨u,v,e,h1,h2⟩
   have h3:jY (vp hit (mA l)) (v.reverse++u.reverse):=((star _).2 (by rw[List.reverse_reverse];exact h2)).app (.one ((one _).2 (by rw[List.reverse_reverse];exact h1)))
   have ew:w=v.reverse++u.reverse:=by rw[← List.reverse_append,← e,List.reverse_reverse]
   rw[ew]
   rcases h3.head with e | ⟨a,x,y,e,g1,g2⟩
   ·obtain ⟨e1,e2⟩:=List.append_eq_nil_iff.1 e
    rw[e1,e2]
    exact ⟨[],[],rfl,by rw[← e2];exact (one _).2 (by rw[List.reverse_reverse];exact h1),.nil⟩
   ·rw[e];exact ⟨a::x,y,rfl,g1,g2⟩
 ·rw[if_neg h4,if_neg h4];exact star w
noncomputable section
def okK (k s:Int) (m:Nat):Bool:=if k=1 then decide (m=0)&&(decide (0≤s)&&decide (s≤63))else if k=0 then true else if k=2 then decide (0 < m)else (decide (3≤k)&&decide (k≤5))&&decide (m=1)
mutual
def okN:az→Bool
 | ⟨k,s,l⟩=>okK k s l.length&&arL l
def arL:List az→Bool
 | []=>true
 | x::l=>okN x&&arL l
end
theorem rG (n:az):okN n=(okK n.Kind n.Set n.Kids.length&&arL n.Kids):=by cases n;rw[okN]
theorem lD:∀ {l:List az},arL l=l.all okN
 | []=>rfl
 | x::l=>by rw[arL,lD,List.all_cons]
theorem aaw {n x:az} (h:okN n=true) (hx:x∈n.Kids):okN x=true:=by
 rw[rG,Bool.and_eq_true,lD]at h
 exact List.all_eq_true.1 h.2 x hx
theorem azb {l:List az} {f:az→Option Bool} {g:az→Bool} (hf:∀ x∈l,f x=some (g x)) (hl:l.length≤1000000):cd l f=some (l.any g):=by
 unfold cd aD
 have key:∀ d k:Nat,k+d=l.length→∃ i:Int,Loop (aD.b1 l f) (k:Int)=some i∧decide (i≥0)=(l.drop k).any g:=by
  intro d
  induction d with
  | zero=>
   intro k hk
   refine ⟨-1,bP ?_,?_⟩
   ·simp only[aD.b1]
    rw[if_neg (by simp;omega)];rfl
   ·rw[List.drop_of_length_le (by omega)];rfl
  | succ d ih=>
   intro k hk
   have hlt:k < l.length:=by omega
   rw[List.drop_eq_getElem_cons hlt,List.any_cons]
   cases hg:g l[k]with
   | true=>
    refine ⟨k,cV ?_,by simp⟩
    simp only[aD.b1]
    rw[if_pos (by simp;omega),bw,gE hlt,oB,hf _ (gM _),hg];rfl
   | false=>
    obtain ⟨i,h1,h2⟩:=ih (k+1) (by omega)
    refine ⟨i,?_,by rw[h2];rfl⟩
    rw[bM (s':=((k+1:Nat):Int)),h1]
    simp only[aD.b1]
    rw[if_pos (by simp;omega),bw,gE hlt,oB,hf _ (gM _),hg,oB,if_neg (by simp),fH (by omega)]
 obtain ⟨i,h1,h2⟩:=key l.length 0 (by omega)
 have h1':Loop (aD.b1 l f) (0:Int)=some i:=h1
 rw[h1',oB,h2,List.drop_zero]
theorem aqb:∀ (n:az) (fu:Nat),dn n≤fu→dn n≤100000→bm.r fu n=some (okN n):=by
 intro n
 induction n using az.ind with
 | h n ih=>
 intro fu hfu hsz
 cases fu with
 | zero=>have:=gh n;omega
 | succ fu=>
 have hk1:∀ fits:Bool,bm.k1 (bm.r fu) n fits=some (fits&&arL n.Kids):=by
  intro fits
  unfold bm.k1
  cases fits with
  | false=>rfl
  | true=>
   rw[if_pos rfl,azb (g:=fun x=>!okN x) (fun x hx=>?_) (by have:=pD n;omega)]
   ·simp only[oB,Bool.true_and,lD]
    congr 1
    rw[Bool.eq_iff_iff]
    simp
   ·unfold im
    rw[ih x hx fu (by have:=eQ hx;omega) (by have:=eQ hx;omega)];rfl
 have hk2:∀ b:Bool,bm.k2 (bm.r fu) n b=some ((b&&decide (n.Kids.length=1))&&arL n.Kids):=by
  intro b
  unfold bm.k2
  cases b with
  | false=>rw[if_neg (by simp),hk1];rfl
  | true=>
   rw[if_pos rfl,hk1]
   congr 2
   rw[Bool.eq_iff_iff]
   simp only[beq_iff_eq,Bool.true_and,decide_eq_true_eq]
   omega
 rw[bm.r,rG]
 unfold okK
 by_cases h1:n.Kind=1
 ·rw[if_pos (by simp[h1]),if_pos h1]
  by_cases h2:n.Kids.length=0
  ·rw[if_pos (by simp[h2])]
   by_cases h3:0≤n.Set
   ·rw[if_pos (by simpa using h3),hk1];simp[h2,h3]
   ·rw[if_neg (by simpa using h3),hk1];simp[h3]
  ·rw[if_neg (by simpa using h2),hk1];simp[h2]
 rw[if_neg (by simpa using h1),if_neg h1]
 by_cases h0:n.Kind=0
 ·rw[if_pos (by simp[h0]),if_pos h0,hk1]
 rw[if_neg (by simpa using h0),if_neg h0]
 by_cases h2:n.Kind=2
 ·rw[if_pos (by simp[h2]),if_pos h2,hk1];simp
 rw[if_neg (by simpa using h2),if_neg h2]
 by_cases h3:n.Kind=3
 ·rw[if_pos (by simp[h3]),hk2];simp[h3]
 rw[if_neg (by simpa using h3)]
 by_cases h4:n.Kind=4
 ·rw[if_pos (by simp[h4]),hk2];simp[h4]
 rw[if_neg (by simpa using h4),hk2]
 congr 2
 rw[Bool.eq_iff_iff]
 simp only[Bool.and_eq_true,beq_iff_eq,decide_eq_true_eq]
 omega
theorem ana {n:az} (h:dn n≤100000):bm n=some (okN n):=tm (dn n) fun fu hf=>aqb n fu hf h
theorem xo {sets:Nat} {k:Int}:∀ {l:List az} {d g:Nat} {x:az},qI sets k l d g=true→x∈l→lr sets x (tz k x d) g=true
 | y::l,d,g,x,h,hx=>by
  rw[qI]at h
  simp only[Bool.and_eq_true]at h
  rcases List.mem_cons.1 hx with rfl | hx
  ·exact h.2.1
  ·exact xo h.2.2 hx
theorem ae9 {sets:Nat} (hs:sets≤60):∀ (n:az) (d g:Nat),lr sets n d g=true→okN n=true:=by
 intro n
 induction n using az.ind with
 | h n ih=>
 intro d g h
 rw[ro]at h
 rw[rG]
 unfold okK
 by_cases h1:n.Kind=1
 ·rw[if_pos h1]at h ⊢
  simp only[Bool.and_eq_true,decide_eq_true_eq,List.isEmpty_iff]at h ⊢
  rw[h.1]
  exact ⟨⟨rfl,h.2.1,by omega⟩,rfl⟩
 rw[if_neg h1]at h ⊢
 simp only[Bool.and_eq_true,decide_eq_true_eq]at h
 have hfit:=h.2.1
 have hl:arL n.Kids=true:=by
  rw[lD,List.all_eq_true]
  intro x hx
  have:=xo h.2.2.2 hx
  exact ih x hx _ _ this
 rw[hl,Bool.and_true]
 unfold aaA ain at hfit
 by_cases h0:n.Kind=0
 ·rw[if_pos h0]
 rw[if_neg h0]at hfit ⊢
 by_cases h2:n.Kind=2
 ·rw[if_pos h2]at hfit ⊢
  simp only[decide_eq_true_eq]at hfit ⊢;omega
 ·rw[if_neg h2]at hfit ⊢;exact hfit
end
noncomputable section
theorem auJ:∀ (n:az) (fu:Nat),dn n≤fu→dn n≤100000→∃ c:Nat,bx.r fu n=some (c:Int)∧c≤dn n:=by
 intro n
 induction n using az.ind with
 | h n ih=>
 intro fu hfu hsz
 cases fu with
 | zero=>have:=gh n;omega
 | succ fu=>
 rw[bx.r]
 by_cases h1:n.Kind=1
 ·rw[if_pos (by simp[h1])]
  exact ⟨1,rfl,gh n⟩
 rw[if_neg (by simpa using h1)]
 have loop:∀ (l:List az) (i k:Nat),n.Kids.drop i=l→k+dz l≤dn n→∃ c:Nat,Loop (bx.b1 (bx.r fu) n) ((k:Int),(i:Int))=some (c:Int)∧c≤k+dz l:=by
  intro l
  induction l with
  | nil=>
   intro i k hl hb
   have hi:n.Kids.length≤i:=List.drop_eq_nil_iff.1 hl
   refine ⟨k,bP ?_,by omega⟩
   simp only[bx.b1]
   rw[if_neg (by simp;omega)];rfl
  | cons x l ihl=>
   intro i k hl hb
   obtain ⟨hil,hx,hd⟩:=drop_cons hl
   have hxm:x∈n.Kids:=hx ▸ gM hil
   rw[dz]at hb ⊢
   obtain ⟨c,h1,h2⟩:=ih x hxm fu (by have:=eQ hxm;omega) (by have:=eQ hxm;omega)
   obtain ⟨c',h3,h4⟩:=ihl (i+1) (k+c) hd (by omega)
   refine ⟨c',?_,by omega⟩
   rw[← h3]
   refine bM ?_
   simp only[bx.b1]
   rw[if_pos (by simpa using hil),bw,gE hil,oB,hx,h1,oB,w64 (n:=(k:Int)+(c:Int)) (by omega) (by omega),fH (by have:=pD n;omega)]
   rfl
 have hs:=jh n
 obtain ⟨c,h1,h2⟩:=loop n.Kids 0 0 rfl (by omega)
 exact ⟨c,h1,by omega⟩
theorem count_eq {n:az} (h:dn n≤100000):∃ c:Nat,bx n=some (c:Int)∧c≤dn n:=by
 have hst:∀ fu,dn n≤fu→bx.r fu n=bx.r (dn n) n:=by
  have key:∀ (n:az) (fu:Nat),dn n≤fu→bx.r fu n=bx.r (dn n) n:=by
   intro n
   induction n using az.ind with
   | h n ih=>
   intro fu hfu
   have hp:=gh n
   obtain ⟨fu,rfl⟩:∃ k,fu=k+1:=⟨fu - 1,by omega⟩
   obtain ⟨m,hm⟩:∃ m,dn n=m+1:=⟨dn n - 1,by omega⟩
   rw[hm,bx.r,bx.r]
   have hb:bx.b1 (bx.r fu) n=bx.b1 (bx.r m) n:=by
    funext p
    obtain ⟨k,v⟩:=p
    simp only[bx.b1]
    split
    ·cases hx:idx n.Kids v with
     | none=>rfl
     | some x=>
      have hxm:x∈n.Kids:=by
       unfold idx at hx
       split at hx
       ·cases hx
       ·exact List.mem_of_getElem? hx
      have hk:=eQ hxm
      rw[oB,oB,ih x hxm fu (by omega),ih x hxm m (by omega)]
    ·rfl
   rw[hb]
  exact key n
 obtain ⟨c,h1,h2⟩:=auJ n (dn n) (Nat.le_refl _) h
 exact ⟨c,tm (dn n) fun fu hfu=>by rw[hst fu hfu,h1],h2⟩
theorem ajM {p q:List Int} (h:p.length+q.length≤1000000):al [p,q]=some (p++q):=by
 unfold al
 have e1:al.b2 [p,q] ((0:Int),(0:Int))=some (.next ((p.length:Int),(1:Int))):=by
  simp only[al.b2]
  rw[if_pos (by simp)]
  show (some p).bind _=_
  rw[oB,w64 (n:=0+(p.length:Int)) (by omega) (by omega),if_neg (by simp)]
  simp[show IntKind.i64.wrap 1=1 by decide]
 have e2:al.b2 [p,q] ((p.length:Int),(1:Int))=some (.next (((p.length+q.length:Nat):Int),(2:Int))):=by
  simp only[al.b2]
  rw[if_pos (by simp)]
  show (some q).bind _=_
  rw[oB,w64 (n:=(p.length:Int)+(q.length:Int)) (by omega) (by omega),if_neg (by simp;omega)]
  simp[show IntKind.i64.wrap 2=2 by decide]
 rw[bM e1,bM e2]
 refine bP ?_
 simp only[al.b2]
 rw[if_neg (by simp)]
 unfold al.k1 dq
 rw[if_pos ⟨rfl,by omega,by omega⟩,oB]
 congr 1
 have f1:al.b1 [p,q] ([],(0:Int))=some (.next (p,(1:Int))):=by
  simp only[al.b1]
  rw[if_pos (by simp)]
  show (some p).bind _=_
  rw[oB,cL (by simp;omega)]
  simp[show IntKind.i64.wrap 1=1 by decide]
 have f2:al.b1 [p,q] (p,(1:Int))=some (.next (p++q,(2:Int))):=by
  simp only[al.b1]
  rw[if_pos (by simp)]
  show (some q).bind _=_
  rw[oB,cL (by omega)]
  simp[show IntKind.i64.wrap 2=2 by decide]
 rw[bM f1,bM f2]
 refine bP ?_
 simp only[al.b1]
 rw[if_neg (by simp)];rfl
theorem ajQ {p q:List Int} (h:p.length+q.length≤1000000):bU p q=some (uni [] (p++q)):=by
 unfold bU
 have hr:dC=140737488355328:=rfl
 rw[ajM h,oB]
 unfold sZ
 rw[if_pos (by simp;omega),oB]
 unfold ch
 have hlen:((p++q).mergeSort fun x y=>decide (x≤y)).length=(p++q).length:=List.length_mergeSort ..
 rw[if_pos (by rw[hlen];simp;omega),oB]
 congr 1
 have hs:((p++q).mergeSort fun x y=>decide (x≤y)).Pairwise (· ≤ ·):=by
  have:=List.pairwise_mergeSort (le:=fun x y:Int=>decide (x≤y)) (fun a b c h1 h2=>by simp only[decide_eq_true_eq]at*;omega) (fun a b=>by simp only[Bool.or_eq_true,decide_eq_true_eq];omega) (p++q)
  exact this.imp fun h=>by simpa using h
 obtain ⟨c1,c2,_⟩:=mw hs
 refine oU c1 (gu List.Pairwise.nil) fun x=>?_
 rw[c2,iE,List.mem_mergeSort]
 simp
theorem ant {p q:List Int} (hp:wP p) (h:p.length+q.length≤1000000):bU p q=some (uni p q):=by
 rw[ajQ h]
 congr 1
 refine oU (gu List.Pairwise.nil) (gu hp) fun x=>?_
 rw[iE,iE,List.mem_append];simp
structure Bd (N:Nat) (l:List Int):Prop where
 rise:wP l
 le:∀ q∈l,1≤q∧q≤(N:Int)
theorem aek:∀ {l:List Int} {a b:Int},wP l→(∀ q∈l,a≤q∧q≤b)→(l.length:Int)≤b - a+1∨l=[]
 | [],a,b,_,_=>.inr rfl
 | x::l,a,b,h,hl=>by
  obtain ⟨h1,h2⟩:=List.pairwise_cons.1 h
  have hx:=hl x (by simp)
  left
  rcases aek (a:=x+1) (b:=b) h2 (fun q hq=>⟨by have:=h1 q hq;omega,(hl q (by simp[hq])).2⟩)with h3 | h3
  ·simp only[List.length_cons];omega
  ·subst h3;simp;omega
theorem Bd.len {N:Nat} {l:List Int} (h:Bd N l):l.length≤N:=by
 rcases aek h.rise h.le with h1 | h1
 ·omega
 ·subst h1;simp
theorem Bd.uni {N:Nat} {x y:List Int} (hx:Bd N x) (hy:Bd N y):Bd N (uni x y):=⟨gu hx.rise,fun q hq=>(iE.1 hq).elim (hx.le q) (hy.le q)⟩
theorem Bd.nil {N:Nat}:Bd N []:=⟨List.Pairwise.nil,fun q h=>by cases h⟩
theorem Bd.mono {N M:Nat} {l:List Int} (h:Bd N l) (hm:N≤M):Bd M l:=⟨h.rise,fun q hq=>by have:=h.le q hq;omega⟩
theorem ry {N:Nat} {x y:List Int} (hN:N≤1000) (hx:Bd N x) (hy:Bd N y):bU x y=some (uni x y):=ant hx.rise (by have:=hx.len;have:=hy.len;omega)
def wz (N:Nat) (F:List (List Int)):Prop:=∀ row∈F,Bd N row
theorem aho {F:List (List Int)} {l first:List Int} {i:Int}:fG F (l++[i]) first=(fG F l first).set (i - 1).toNat (uni ((fG F l first).getD (i - 1).toNat []) first):=by
 unfold fG;rw[List.foldl_append];rfl
theorem aeF {N:Nat} {first:List Int} (hf:Bd N first):∀ {last:List Int} {F:List (List Int)},wz N F→wz N (fG F last first)
 | [],F,h=>h
 | i::last,F,h=>by
  show wz N (fG (F.set _ _) last first)
  refine aeF hf fun row hr=>?_
  rcases List.mem_or_eq_of_mem_set hr with hr | rfl
  ·exact h row hr
  ·refine Bd.uni ?_ hf
   rw[gD]
   cases e:F[(i - 1).toNat]? with
   | none=>exact Bd.nil
   | some r=>exact h r (List.mem_of_getElem? e)
theorem anL {N:Nat} (hN:N≤1000) {a:cu} {last first:List Int} (hF:wz N a.Follow) (hf:Bd N first) (hl:Bd N last) (hlen:∀ i∈last,i≤(a.Follow.length:Int)):
  cx last first a=some ⟨a.Null,a.Sets,a.First,a.Last,fG a.Follow last first⟩:=by
 unfold cx
 have hll:=hl.len
 have hrun:=fc (b:=cx.b1 last first a) (fun j:Nat=>((j:Int),fG a.Follow (last.take j) first)) (i:=0) (n:=last.length) (Nat.zero_le _) (fun j _ hj=>by
  simp only[cx.b1]
  have hi:=hl.le last[j] (gM _)
  have hi2:=hlen last[j] (gM _)
  have hw:IntKind.i64.wrap (last[j] - 1)=(((last[j] - 1).toNat:Nat):Int):=by rw[w64 (by omega) (by omega)];omega
  have hlt:(last[j] - 1).toNat < (fG a.Follow (last.take j) first).length:=by rw[kq];omega
  have hrow:Bd N (fG a.Follow (last.take j) first)[(last[j] - 1).toNat]:=aeF hf hF _ (gM _)
  rw[if_pos (by simpa using hj),bw,gE hj,oB,hw,bw,gE hlt,oB,ry hN hrow hf,oB,fH (by omega)]
  simp only[Int.toNat_natCast]
  rw[dY hj,aho,gD,gE hlt];rfl)
 have h0:((0:Int),a.Follow)=(fun j:Nat=>((j:Int),fG a.Follow (last.take j) first)) 0:=rfl
 rw[h0,hrun]
 refine bP ?_
 simp only[cx.b1]
 rw[if_neg (by simp),List.take_length];rfl
def gp (x:GP):ar:=⟨x.null,x.first,x.last⟩
theorem then_eq {N:Nat} (hN:N≤1000) {a:cu} {x y:GP} (hF:wz N a.Follow) (h1:Bd N x.first) (h2:Bd N x.last) (h3:Bd N y.first) (h4:Bd N y.last) (hlen:∀ i∈x.last,i≤(a.Follow.length:Int)):
  bK (gp x) (gp y) a=some (gp (nT x y),⟨a.Null,a.Sets,a.First,a.Last,fG a.Follow x.last y.first⟩):=by
 obtain ⟨xn,xf,xl⟩:=x
 obtain ⟨yn,yf,yl⟩:=y
 show bK ⟨xn,xf,xl⟩ ⟨yn,yf,yl⟩ a=_
 have k1:∀ (r:cu) (fi:List Int),bK.k1 ⟨xn,xf,xl⟩ ⟨yn,yf,yl⟩ r fi=some (⟨xn&&yn,fi,if yn then uni xl yl else yl⟩,r):=by
  intro r fi
  unfold bK.k1
  cases yn with
  | true=>rw[if_pos rfl,ry hN h2 h4];rfl
  | false=>rw[if_neg (by simp)];rfl
 unfold bK
 rw[anL hN hF h3 h2 hlen,oB]
 cases xn with
 | true=>rw[if_pos rfl,ry hN h1 h3,oB,k1];rfl
 | false=>rw[if_neg (by simp),k1];rfl
theorem or_eq {N:Nat} (hN:N≤1000) {x y:GP} (h1:Bd N x.first) (h2:Bd N x.last) (h3:Bd N y.first) (h4:Bd N y.last):fo (gp x) (gp y)=some (gp (orP x y)):=by
 obtain ⟨xn,xf,xl⟩:=x
 obtain ⟨yn,yf,yl⟩:=y
 show fo ⟨xn,xf,xl⟩ ⟨yn,yf,yl⟩=_
 unfold fo
 rw[ry hN h1 h3,ry hN h2 h4]
 cases xn with
 | true=>rw[if_pos rfl];rfl
 | false=>rw[if_neg (by simp)];rfl
end
noncomputable section
theorem wk:∀ (n:az) (A:GA),(glu n A).2.1.length≤A.1.length+dn n:=by
 intro n
 induction n using az.ind with
 | h n ih=>
 intro A
 obtain ⟨k,s,l⟩:=n
 have ih':∀ x∈l,∀ A,(glu x A).2.1.length≤A.1.length+dn x:=ih
 have cat:∀ (l':List az),(∀ x∈l',x∈l)→∀ (out:GP) (A:GA),(iz l' out A).2.1.length≤A.1.length+dz l':=by
  intro l'
  induction l' with
  | nil=>intro _ out A;rw[iz,dz];exact Nat.le_refl _
  | cons x l' ihl=>
   intro hl out A
   rw[iz,dz]
   have h1:=ih' x (hl x (by simp)) A
   have h2:=ihl (fun y hy=>hl y (by simp[hy])) (nT out (glu x A).1) ((glu x A).2.1,fG (glu x A).2.2 out.last (glu x A).1.first)
   simp only at h2;omega
 have alt:∀ (l':List az),(∀ x∈l',x∈l)→∀ (out:GP) (A:GA),(iN l' out A).2.1.length≤A.1.length+dz l':=by
  intro l'
  induction l' with
  | nil=>intro _ out A;rw[iN,dz];exact Nat.le_refl _
  | cons x l' ihl=>
   intro hl out A
   rw[iN,dz]
   have h1:=ih' x (hl x (by simp)) A
   have h2:=ihl (fun y hy=>hl y (by simp[hy])) (orP out (glu x A).1) (glu x A).2
   omega
 have hs:=jh ⟨k,s,l⟩
 simp only at hs
 rw[glu]
 split
 ·simp only[List.length_append,List.length_singleton];omega
 ·split
  ·have:=cat l (fun x hx=>hx) ⟨true,[],[]⟩ A;omega
  ·split
   ·have:=alt l (fun x hx=>hx) ⟨false,[],[]⟩ A;omega
   ·have:(cO l A).2.1.length≤A.1.length+dz l:=by
     cases l with
     | nil=>rw[cO];exact Nat.le_add_right _ _
     | cons x l=>rw[cO,dz];have:=ih' x (by simp) A;omega
    simp only;omega
structure In2 (N:Nat) (P:GP) (A B:GA):Prop where
 g:gT P A B
 len:B.1.length≤N
 bd:wz N A.2
theorem In2.all {N:Nat} {P:GP} {A B:GA} (h:In2 N P A B):wz N B.2:=by
 intro row hr
 obtain ⟨j,hj,rfl⟩:=List.getElem_of_mem hr
 by_cases hb:j < A.1.length
 ·have:=h.g.old j hb
  rw[gE hj]at this
  exact h.bd _ (List.mem_of_getElem? this.symm)
 ·refine ⟨h.g.rows j _ (by omega) (gE hj),fun q hq=>?_⟩
  have hjl:j < B.1.length:=by rw[← h.g.len];exact hj
  have:=(h.g.inn.E ((j:Int)+1) q ⟨⟨by omega,by omega⟩,B.2[j],by
   rw[show ((j:Int)+1 - 1).toNat=j by omega];exact gE hj,hq⟩).2
  have:=h.len
  omega
theorem In2.first {N:Nat} {P:GP} {A B:GA} (h:In2 N P A B):Bd N P.first:=⟨h.g.firsts,fun q hq=>by have:=h.g.inn.first q hq;have:=h.len;omega⟩
theorem In2.last {N:Nat} {P:GP} {A B:GA} (h:In2 N P A B):Bd N P.last:=⟨h.g.lasts,fun q hq=>by have:=h.g.inn.last q hq;have:=h.len;omega⟩
theorem as5:∀ (n:az) (fu:Nat) (A:GA) (nu:Bool) (fi la:List Int),dn n≤fu→okN n=true→A.1.length+dn n≤1000→A.2.length=A.1.length→wz 1000 A.2→
  aP.r fu ⟨nu,A.1,fi,la,A.2⟩ n=some (gp (glu n A).1,⟨nu,(glu n A).2.1,fi,la,(glu n A).2.2⟩):=by
 intro n
 induction n using az.ind with
 | h n ih=>
 intro fu A nu fi la hfu hok hsz hA hbd
 have hp:=gh n
 obtain ⟨fu,rfl⟩:∃ k,fu=k+1:=⟨fu - 1,by omega⟩
 have hs:=jh n
 have gl:∀ (x:az) (A:GA),A.2.length=A.1.length→gT (glu x A).1 A (glu x A).2:=fun x A h=>(atX (hit:=fun _ _=>true) x A h).2.1
 have cat:∀ (l:List az) (i:Nat),n.Kids.drop i=l→∀ (out:GP) (A0 B:GA),In2 1000 out A0 B→B.1.length+dz l≤1000→
   Loop (aP.b1 (aP.r fu) n) ((i:Int),out.null,out.first,out.last,nu,B.1,fi,la,B.2)=some (gp (iz l out B).1,⟨nu,(iz l out B).2.1,fi,la,(iz l out B).2.2⟩):=by
  intro l
  induction l with
  | nil=>
   intro i hl out A0 B hI hb
   have hi:n.Kids.length≤i:=List.drop_eq_nil_iff.1 hl
   refine bP ?_
   simp only[aP.b1]
   rw[if_neg (by simp;omega)];rfl
  | cons x l ihl=>
   intro i hl out A0 B hI hb
   obtain ⟨hil,hx,hd⟩:=drop_cons hl
   have hxm:x∈n.Kids:=hx ▸ gM hil
   have hk:=eQ hxm
   rw[dz]at hb
   have h1:=ih x hxm fu B nu fi la (by omega) (aaw hok hxm) (by omega) hI.g.len hI.all
   have hgx:=gl x B hI.g.len
   have hlx:=wk x B
   have hIx:In2 1000 (glu x B).1 B (glu x B).2:=⟨hgx,by omega,hI.all⟩
   have h2:=then_eq (N:=1000) (Nat.le_refl _) (a:=⟨nu,(glu x B).2.1,fi,la,(glu x B).2.2⟩) (x:=out) (y:=(glu x B).1) hIx.all hI.first hI.last hIx.first hIx.last (fun q hq=>by
    have h3:=(hI.g.inn.last q hq).2
    have h4:=hgx.sets.length_le
    show q≤((glu x B).2.2.length:Int)
    rw[hgx.len];omega)
   have hI2:In2 1000 (nT out (glu x B).1) A0 ((glu x B).2.1,fG (glu x B).2.2 out.last (glu x B).1.first):=⟨hI.g.then_ hgx,by simp only;omega,hI.bd⟩
   have h5:=ihl (i+1) hd (nT out (glu x B).1) A0 ((glu x B).2.1,fG (glu x B).2.2 out.last (glu x B).1.first) hI2 (by simp only;omega)
   rw[iz,← h5]
   refine bM ?_
   simp only[aP.b1]
   have e1:(⟨out.null,out.first,out.last⟩:ar)=gp out:=rfl
   rw[if_pos (by simpa using hil),bw,gE hil,oB,hx,h1,oB,e1,h2,oB,fH (by have:=pD n;omega)]
   rfl
 have alt:∀ (l:List az) (i:Nat),n.Kids.drop i=l→∀ (out:GP) (A0 B:GA),In2 1000 out A0 B→B.1.length+dz l≤1000→
   Loop (aP.b2 (aP.r fu) n) ((i:Int),out.null,out.first,out.last,nu,B.1,fi,la,B.2)=some (gp (iN l out B).1,⟨nu,(iN l out B).2.1,fi,la,(iN l out B).2.2⟩):=by
  intro l
  induction l with
  | nil=>
   intro i hl out A0 B hI hb
   have hi:n.Kids.length≤i:=List.drop_eq_nil_iff.1 hl
   refine bP ?_
   simp only[aP.b2]
   rw[if_neg (by simp;omega)];rfl
  | cons x l ihl=>
   intro i hl out A0 B hI hb
   obtain ⟨hil,hx,hd⟩:=drop_cons hl
   have hxm:x∈n.Kids:=hx ▸ gM hil
   have hk:=eQ hxm
   rw[dz]at hb
   have h1:=ih x hxm fu B nu fi la (by omega) (aaw hok hxm) (by omega) hI.g.len hI.all
   have hgx:=gl x B hI.g.len
   have hlx:=wk x B
   have hIx:In2 1000 (glu x B).1 B (glu x B).2:=⟨hgx,by omega,hI.all⟩
   have h2:=or_eq (N:=1000) (Nat.le_refl _) (x:=out) (y:=(glu x B).1) hI.first hI.last hIx.first hIx.last
   have hI2:In2 1000 (orP out (glu x B).1) A0 (glu x B).2:=⟨hI.g.or_ hgx,by omega,hI.bd⟩
   have h5:=ihl (i+1) hd (orP out (glu x B).1) A0 (glu x B).2 hI2 (by omega)
   rw[iN,← h5]
   refine bM ?_
   simp only[aP.b2]
   have e1:(⟨out.null,out.first,out.last⟩:ar)=gp out:=rfl
   rw[if_pos (by simpa using hil),bw,gE hil,oB,hx,h1,oB,e1,h2,oB,fH (by have:=pD n;omega)]
   rfl
 have st:∀ z,In2 1000 ⟨z,[],[]⟩ A A:=fun z=>⟨gT.start z hA,by omega,hbd⟩
 obtain ⟨k,s,l⟩:=n
 simp only at hs
 rw[aP.r,glu]
 simp only
 by_cases h1:k=1
 ·subst h1
  rw[if_pos (by rfl),if_pos rfl,cL (by omega),oB,cL (by rw[hA];omega),oB]
  simp[gp]
 rw[if_neg (by simpa using h1),if_neg h1]
 by_cases h0:k=0
 ·subst h0
  rw[if_pos (by rfl),if_pos rfl]
  exact cat l 0 rfl ⟨true,[],[]⟩ A A (st true) (by omega)
 rw[if_neg (by simpa using h0),if_neg h0]
 by_cases h2:k=2
 ·subst h2
  rw[if_pos (by rfl),if_pos rfl]
  exact alt l 0 rfl ⟨false,[],[]⟩ A A (st false) (by omega)
 rw[if_neg (by simpa using h2),if_neg h2]
 have hok':=hok
 rw[rG]at hok'
 simp only[okK,if_neg h1,if_neg h0,if_neg h2,Bool.and_eq_true,decide_eq_true_eq]at hok'
 obtain ⟨x,rfl⟩:∃ x,l=[x]:=by
  match l,hok'.1.2 with
  | [x],_=>exact ⟨x,rfl⟩
 have hk:dn x < dn ⟨k,s,[x]⟩:=eQ (n:=⟨k,s,[x]⟩) (by simp)
 have hx:=ih x (by simp) fu A nu fi la (by omega) (aaw (n:=⟨k,s,[x]⟩) hok (by simp)) (by omega) hA hbd
 have hgx:=gl x A hA
 have hlx:=wk x A
 have hIx:In2 1000 (glu x A).1 A (glu x A).2:=⟨hgx,by omega,hbd⟩
 unfold aP.k1
 simp only[List.getElem?_cons_zero,oB,cO]
 rw[hx,oB]
 by_cases h5:k=5
 ·subst h5
  rw[if_neg (by simp)]
  simp[aP.k2,gp]
 ·rw[if_pos (by simpa using h5),if_neg h5]
  simp only[gp]
  rw[anL (N:=1000) (Nat.le_refl _) (a:=⟨nu,(glu x A).2.1,fi,la,(glu x A).2.2⟩) hIx.all hIx.first hIx.last (fun q hq=>by
   have h3:=(hgx.inn.last q hq).2
   show q≤((glu x A).2.2.length:Int)
   rw[hgx.len];omega),oB]
  simp only[aP.k2]
  congr 4
  rw[Bool.eq_iff_iff];simp
def lU (n:az):cu:=⟨(glu n ([],[])).1.null,(glu n ([],[])).2.1,(glu n ([],[])).1.first,(glu n ([],[])).1.last,(glu n ([],[])).2.2⟩
theorem vE {n:az} (hok:okN n=true) (h:dn n≤200):iL n=some (lU n,0):=by
 unfold iL
 rw[ana (by omega),hok,oB,if_neg (by simp)]
 obtain ⟨c,h1,h2⟩:=count_eq (n:=n) (by omega)
 rw[h1,oB,if_neg (by simp;omega)]
 have hb:aP ⟨false,[],[],[],[]⟩ n=some (gp (glu n ([],[])).1,⟨false,(glu n ([],[])).2.1,[],[],(glu n ([],[])).2.2⟩):=
  tm (dn n) fun fu hf=>as5 n fu ([],[]) false [] [] hf hok (by simp;omega) rfl (fun row hr=>by cases hr)
 rw[hb];rfl
end
noncomputable section
theorem gA {α:Type} {xs:List α} {i:Nat} (h:i < xs.length):idx xs (i:Int)=some xs[i]:=by rw[bw,gE h]
theorem ot:∀ {l:List az},mA l=l.map iI
 | []=>rfl
 | x::l=>by rw[mA,ot,List.map_cons]
theorem awL:∀ (n:az) (fu:Nat),dn n≤fu→dn n≤100000→bZ.r fu n=some (iI n):=by
 intro n
 induction n using az.ind with
 | h n ih=>
 intro fu hfu hsz
 have hp:=gh n
 obtain ⟨fu,rfl⟩:∃ k,fu=k+1:=⟨fu - 1,by omega⟩
 rw[bZ.r]
 have hkl:=pD n
 have hrun:=fc (b:=bZ.b1 (bZ.r fu) n) (fun j:Nat=>(((n.Kids.take j).map iI,(j:Int)):List az×Int)) (i:=0) (n:=n.Kids.length) (Nat.zero_le _) (fun j _ hj=>by
  simp only[bZ.b1]
  have hm:n.Kids[j]∈n.Kids:=gM hj
  have hk:=eQ hm
  rw[if_pos (by simpa using hj),gA hj,oB,ih _ hm fu (by omega) (by omega),oB,cL (by simp;omega),oB,fH (by omega),dY hj,List.map_append]
  rfl)
 have h0:(([]:List az),(0:Int))=(fun j:Nat=>(((n.Kids.take j).map iI,(j:Int)):List az×Int)) 0:=rfl
 rw[h0,hrun]
 refine bP ?_
 simp only[bZ.b1]
 rw[if_neg (by simp),List.take_length]
 unfold bZ.k1 bZ.k2 avP
 obtain ⟨k,s,l⟩:=n
 simp only at hkl ⊢
 rw[iI,ot]
 by_cases h0:k=0
 ·subst h0
  have hr:dC=140737488355328:=rfl
  rw[if_pos (by rfl),if_pos (by simp;omega),if_pos rfl];rfl
 ·rw[if_neg (by simpa using h0),if_neg h0]
theorem asm {n:az} (h:dn n≤100000):bZ n=some (iI n):=tm (dn n) fun fu hf=>awL n fu hf h
theorem alC:∀ n:az,dn (iI n)=dn n:=by
 intro n
 induction n using az.ind with
 | h n ih=>
 obtain ⟨k,s,l⟩:=n
 have hl:∀ l':List az,(∀ x∈l',x∈l)→dz (l'.map iI)=dz l':=by
  intro l'
  induction l' with
  | nil=>intro _;rfl
  | cons x l' ihl=>
   intro h
   rw[List.map_cons,dz,dz,ihl (fun y hy=>h y (by simp[hy])),ih x (h x (by simp))]
 have ha:∀ a b:List az,dz (a++b)=dz a+dz b:=by
  intro a b
  induction a with
  | nil=>simp[dz]
  | cons x a iha=>rw[List.cons_append,dz,dz,iha];omega
 have hv:∀ a:List az,dz a.reverse=dz a:=by
  intro a
  induction a with
  | nil=>rfl
  | cons x a iha=>rw[List.reverse_cons,ha,iha,dz,dz,dz];omega
 rw[iI,jh,jh]
 simp only
 rw[ot]
 split
 ·rw[hv,hl l fun x h=>h]
 ·rw[hl l fun x h=>h]
theorem atz:∀ n:az,okN (iI n)=okN n:=by
 intro n
 induction n using az.ind with
 | h n ih=>
 obtain ⟨k,s,l⟩:=n
 have hl:∀ l':List az,(∀ x∈l',x∈l)→(l'.map iI).all okN=l'.all okN:=by
  intro l'
  induction l' with
  | nil=>intro _;rfl
  | cons x l' ihl=>
   intro h
   rw[List.map_cons,List.all_cons,List.all_cons,ihl (fun y hy=>h y (by simp[hy])),ih x (h x (by simp))]
 rw[iI,rG,rG]
 simp only
 rw[ot,lD,lD]
 split
 ·rw[List.length_reverse,List.length_map,List.all_reverse,hl l fun x h=>h]
 ·rw[List.length_map,hl l fun x h=>h]
theorem apz {l:List Int} {f:Int→Option Bool} {g:Int→Bool} (hf:∀ x∈l,f x=some (g x)) (hl:l.length≤1000000000):cb l f=some (l.any g):=by
 unfold cb bf
 have key:∀ d k:Nat,k+d=l.length→∃ i:Int,Loop (bf.b1 l f) (k:Int)=some i∧decide (i≥0)=(l.drop k).any g:=by
  intro d
  induction d with
  | zero=>
   intro k hk
   refine ⟨-1,bP ?_,?_⟩
   ·simp only[bf.b1]
    rw[if_neg (by simp;omega)];rfl
   ·rw[List.drop_of_length_le (by omega)];rfl
  | succ d ih=>
   intro k hk
   have hlt:k < l.length:=by omega
   rw[List.drop_eq_getElem_cons hlt,List.any_cons]
   cases hg:g l[k]with
   | true=>
    refine ⟨k,cV ?_,by simp⟩
    simp only[bf.b1]
    rw[if_pos (by simp;omega),gA hlt,oB,hf _ (gM _),hg];rfl
   | false=>
    obtain ⟨i,h1,h2⟩:=ih (k+1) (by omega)
    refine ⟨i,?_,by rw[h2];rfl⟩
    rw[bM (s':=((k+1:Nat):Int)),h1]
    simp only[bf.b1]
    rw[if_pos (by simp;omega),gA hlt,oB,hf _ (gM _),hg,oB,if_neg (by simp),fH (by omega)]
 obtain ⟨i,h1,h2⟩:=key l.length 0 (by omega)
 have h1':Loop (bf.b1 l f) (0:Int)=some i:=h1
 rw[h1',oB,h2,List.drop_zero]
theorem ayY {l:List (List Int)} {f:List Int→Option Bool} {g:List Int→Bool} (hf:∀ x∈l,f x=some (g x)) (hl:l.length≤1000000000):cJ l f=some (l.any g):=by
 unfold cJ aT
 have key:∀ d k:Nat,k+d=l.length→∃ i:Int,Loop (aT.b1 l f) (k:Int)=some i∧decide (i≥0)=(l.drop k).any g:=by
  intro d
  induction d with
  | zero=>
   intro k hk
   refine ⟨-1,bP ?_,?_⟩
   ·simp only[aT.b1]
    rw[if_neg (by simp;omega)];rfl
   ·rw[List.drop_of_length_le (by omega)];rfl
  | succ d ih=>
   intro k hk
   have hlt:k < l.length:=by omega
   rw[List.drop_eq_getElem_cons hlt,List.any_cons]
   cases hg:g l[k]with
   | true=>
    refine ⟨k,cV ?_,by simp⟩
    simp only[aT.b1]
    rw[if_pos (by simp;omega),gA hlt,oB,hf _ (gM _),hg];rfl
   | false=>
    obtain ⟨i,h1,h2⟩:=ih (k+1) (by omega)
    refine ⟨i,?_,by rw[h2];rfl⟩
    rw[bM (s':=((k+1:Nat):Int)),h1]
    simp only[aT.b1]
    rw[if_pos (by simp;omega),gA hlt,oB,hf _ (gM _),hg,oB,if_neg (by simp),fH (by omega)]
 obtain ⟨i,h1,h2⟩:=key l.length 0 (by omega)
 have h1':Loop (aT.b1 l f) (0:Int)=some i:=h1
 rw[h1',oB,h2,List.drop_zero]
theorem az5 {l:List Int} {v:Int} (hl:l.length≤1000000000):cM l v=some (l.contains v):=by
 unfold cM
 have e:cg l v=bf l (fun n=>some (v==n)):=rfl
 have h:=apz (l:=l) (f:=fun n=>some (v==n)) (g:=fun n=>v==n) (fun _ _=>rfl) hl
 unfold cb at h
 rw[e,h]
 congr 1
 rw[Bool.eq_iff_iff]
 simp
def iP (first:List Int) (F:List (List Int)):List Int→List Int
 | []=>[]
 | i::l=>(if i=0 then first else F.getD (i - 1).toNat [])++iP first F l
theorem mN {first:List Int} {F:List (List Int)} {k:Int}:∀ {at_:List Int},(∀ i∈at_,0≤i)→(k∈iP first F at_↔(0∈at_∧k∈first)∨∃ i∈at_,0 < i∧k∈F.getD (i - 1).toNat [])
 | [],_=>by simp[iP]
 | i::l,h=>by
  have hi:=h i (by simp)
  rw[iP,List.mem_append,mN fun j hj=>h j (by simp[hj])]
  by_cases h0:i=0
  ·subst h0
   simp
   constructor
   ·rintro (h | ⟨_,h⟩ | h)
    ·exact .inl h
    ·exact .inl h
    ·exact .inr h
   ·rintro (h | h)
    ·exact .inl h
    ·exact .inr (.inr h)
  ·rw[if_neg h0]
   constructor
   ·rintro (h | ⟨h1,h2⟩ | ⟨j,h1,h2,h3⟩)
    ·exact .inr ⟨i,by simp,by omega,h⟩
    ·exact .inl ⟨by simp[h1],h2⟩
    ·exact .inr ⟨j,by simp[h1],h2,h3⟩
   ·rintro (⟨h1,h2⟩ | ⟨j,h1,h2,h3⟩)
    ·rcases List.mem_cons.1 h1 with h1 | h1
     ·exact absurd h1.symm h0
     ·exact .inr (.inl ⟨h1,h2⟩)
    ·rcases List.mem_cons.1 h1 with rfl | h1
     ·exact .inl h3
     ·exact .inr (.inr ⟨j,h1,h2,h3⟩)
structure afa (N:Nat) (a:cu):Prop where
 len:a.Follow.length=a.Sets.length
 le:a.Sets.length≤N
 first:Bd a.Sets.length a.First
 last:Bd a.Sets.length a.Last
 rows:wz a.Sets.length a.Follow
 sets:∀ s∈a.Sets,0≤s
theorem ny {first:List Int} {F:List (List Int)} {i:Int}:∀ {l:List Int},iP first F (l++[i])=iP first F l++(if i=0 then first else F.getD (i - 1).toNat [])
 | []=>by simp[iP]
 | j::l=>by rw[List.cons_append,iP,ny,iP,List.append_assoc]
theorem auh {N:Nat} (hN:N≤200) {a:cu} (ha:afa N a) {at_:List Int} {sign:Int} (hat:∀ i∈at_,0≤i∧i≤(a.Sets.length:Int)) (hl:at_.length≤201):
  cy a at_ sign=some (stepG qh a.Sets a.First a.Follow at_ sign):=by
 unfold cy
 have hN':=ha.le
 have hrow:∀ i:Int,0≤i→i≤(a.Sets.length:Int)→(if i=0 then a.First else a.Follow.getD (i - 1).toNat []).length≤N∧Bd a.Sets.length (if i=0 then a.First else a.Follow.getD (i - 1).toNat []):=by
  intro i h0 h1
  have:Bd a.Sets.length (if i=0 then a.First else a.Follow.getD (i - 1).toNat []):=by
   split
   ·exact ha.first
   ·have hlt:(i - 1).toNat < a.Follow.length:=by rw[ha.len];omega
    rw[gD,gE hlt]
    exact ha.rows _ (gM hlt)
  exact ⟨by have:=this.len;omega,this⟩
 have hpl:∀ j,j≤at_.length→(iP a.First a.Follow (at_.take j)).length≤j*N:=by
  intro j
  induction j with
  | zero=>intro _;simp[iP]
  | succ j ih=>
   intro hj
   have hj':j < at_.length:=by omega
   have:=hrow at_[j] (hat _ (gM hj')).1 (hat _ (gM hj')).2
   rw[dY hj',ny,List.length_append,Nat.add_mul]
   have:=ih (by omega)
   omega
 have hb:∀ j,j≤at_.length→j*N≤40200:=fun j hj=>by
  calc j*N≤201*200:=Nat.mul_le_mul (by omega) hN
   _=40200:=rfl
 have hrun:=fc (b:=cy.b1 a at_ sign) (fun j:Nat=>((iP a.First a.Follow (at_.take j),(j:Int)):List Int×Int)) (i:=0) (n:=at_.length) (Nat.zero_le _) (fun j _ hj=>by
  simp only[cy.b1,cy.k2]
  have hi:=hat at_[j] (gM hj)
  have h1:=hrow at_[j] hi.1 hi.2
  have h2:=hpl j (by omega)
  have h3:=hb j (by omega)
  rw[if_pos (by simpa using hj),gA hj,oB,dY hj,ny]
  by_cases h0:at_[j]=0
  ·rw[if_pos (by simpa using h0)]
   rw[if_pos h0]at h1 ⊢
   rw[cL (by omega),oB,fH (by omega)]
  ·have hw:IntKind.i64.wrap (at_[j] - 1)=(((at_[j] - 1).toNat:Nat):Int):=by rw[w64 (by omega) (by omega)];omega
   have hlt:(at_[j] - 1).toNat < a.Follow.length:=by rw[ha.len];omega
   rw[if_neg (by simpa using h0)]
   rw[if_neg h0]at h1 ⊢
   rw[gD,gE hlt,Option.getD_some]at h1 ⊢
   rw[hw,gA hlt,oB,cL (by omega),oB,fH (by omega)])
 have h0:(([]:List Int),(0:Int))=(fun j:Nat=>((iP a.First a.Follow (at_.take j),(j:Int)):List Int×Int)) 0:=rfl
 rw[h0,hrun]
 have hend:=hpl at_.length (Nat.le_refl _)
 have hend2:=hb at_.length (Nat.le_refl _)
 rw[List.take_length]at hend
 have hall:∀ k∈iP a.First a.Follow at_,1≤k∧k≤(a.Sets.length:Int):=by
  intro k hk
  rcases (mN fun i hi=>(hat i hi).1).1 hk with ⟨_,h⟩ | ⟨i,h1,h2,h3⟩
  ·exact ha.first.le k h
  ·have:=(hrow i (by omega) (hat i h1).2).2
   rw[if_neg (by omega)]at this
   exact this.le k h3
 refine bP ?_
 simp only[cy.b1]
 rw[if_neg (by simp),List.take_length]
 unfold cy.k1
 have hu:(uni [] (iP a.First a.Follow at_++[])).length≤a.Sets.length:=by
  have:Bd a.Sets.length (uni [] (iP a.First a.Follow at_++[])):=⟨gu List.Pairwise.nil,fun q hq=>by
   rw[iE]at hq
   simp at hq
   exact hall q hq⟩
  exact this.len
 have hr:dC=140737488355328:=rfl
 rw[ajQ (by simp;omega),oB]
 unfold bW
 have hdel:(uni [] (iP a.First a.Follow at_++[])).all (anj a)=true:=by
  rw[List.all_eq_true]
  intro k hk
  rw[iE]at hk
  simp at hk
  have:=hall k hk
  unfold anj
  have hlt:(k - 1).toNat < a.Sets.length:=by omega
  rw[gD,gE hlt]
  have h3:=ha.sets _ (gM hlt)
  simp only[Bool.and_eq_true,decide_eq_true_eq,Option.getD_some]
  exact ⟨⟨by omega,by omega⟩,h3⟩
 rw[if_pos ⟨by omega,hdel⟩,oB]
 refine congrArg (fun x=>Option.map Step.done (some x)) ?_
 refine oU ((gu List.Pairwise.nil).sublist List.filter_sublist) ur fun k=>?_
 rw[List.mem_filter,iE,sT,List.append_nil,mN fun i hi=>(hat i hi).1]
 constructor
 ·rintro ⟨h1,h2⟩
  have h1':=h1.resolve_left (by simp)
  exact ⟨hall k ((mN fun i hi=>(hat i hi).1).2 h1'),h1',h2⟩
 ·rintro ⟨h1,h2,h3⟩
  exact ⟨.inr h2,h3⟩
theorem awn {N:Nat} (hN:N≤200) {a:cu} (ha:afa N a) {at_:List Int} (hl:at_.length≤201):km a at_=some (ax2 a.Null a.Last at_):=by
 have h1:∀ i∈at_,gP i a=some ((decide (i=0)&&a.Null)||a.Last.contains i):=by
  intro i hi
  unfold gP
  have hll:=ha.last.len
  have hle:=ha.le
  rw[az5 (by omega)]
  by_cases h0:i=0
  ·subst h0
   cases hn:a.Null <;> simp
  ·rw[if_neg (by simpa using h0)];simp[h0]
 unfold km ax2
 rw[apz h1 (by omega)]
 rfl
end
noncomputable section
theorem aoL (n:Int):IntKind.u8.wrap n=n%256:=by simp[IntKind.wrap,IntKind.signed,IntKind.bits]
theorem arQ {a b:Int} (ha:0≤a∧a < 256) (hb:0≤b∧b < 256) (h:u8 a=u8 b):a=b:=by
 have h':UInt8.ofNat a.toNat=UInt8.ofNat b.toNat:=h
 have:=ofNat_inj (by omega) (by omega) h'
 omega
def afC (n:Int):List UInt8:=[u8 (IntKind.u8.wrap (shR .i64 n (8:Int))),u8 (IntKind.u8.wrap n)]
theorem az1 (n:Int):shR .i64 n 8=n/256:=by
 unfold shR
 have:(2:Int)^(min (8:Int).toNat IntKind.i64.bits)=256:=by decide
 rw[this,Int.fdiv_eq_ediv_of_nonneg _ (by omega)]
theorem apw {a b:Int} (ha:0≤a∧a < 65536) (hb:0≤b∧b < 65536) (h:afC a=afC b):a=b:=by
 unfold afC at h
 rw[aoL,aoL,aoL,aoL,az1,az1]at h
 simp only[List.cons.injEq,and_true]at h
 have h1:=arQ (by omega) (by omega) h.1
 have h2:=arQ (by omega) (by omega) h.2
 omega
def oc (l:List Int):Str:=l.flatMap afC
theorem rm:∀ {l m:List Int},(∀ i∈l,0≤i∧i < 65536)→(∀ i∈m,0≤i∧i < 65536)→oc l=oc m→l=m
 | [],[],_,_,_=>rfl
 | [],b::m,_,_,h=>by simp[oc,afC]at h
 | a::l,[],_,_,h=>by simp[oc,afC]at h
 | a::l,b::m,h1,h2,h=>by
  have h':afC a++oc l=afC b++oc m:=h
  have hs:=List.append_inj h' (by simp[afC])
  rw[apw (h1 a (by simp)) (h2 b (by simp)) hs.1,rm (fun i hi=>h1 i (by simp[hi])) (fun i hi=>h2 i (by simp[hi])) hs.2]
theorem ae7 {l:List Int}:(oc l).length=2*l.length:=by
 induction l with
 | nil=>rfl
 | cons a l ih=>show (afC a++oc l).length=_;rw[List.length_append,ih];simp[afC];omega
theorem xt {l:List Int} {a:Int}:oc (l++[a])=oc l++afC a:=by simp[oc]
theorem awR {l:List Int} (hl:l.length≤1000000):dK l=some (oc l):=by
 unfold dK
 have hrun:=fc (b:=dK.b1 l) (fun j:Nat=>((oc (l.take j),(j:Int)):List UInt8×Int)) (i:=0) (n:=l.length) (Nat.zero_le _) (fun j _ hj=>by
  simp only[dK.b1]
  rw[if_pos (by simpa using hj),gA hj,oB,cL (by rw[ae7,List.length_take];omega),oB,fH (by omega),dY hj,xt]
  rfl)
 have h0:(([]:List UInt8),(0:Int))=(fun j:Nat=>((oc (l.take j),(j:Int)):List UInt8×Int)) 0:=rfl
 rw[h0,hrun]
 refine bP ?_
 simp only[dK.b1]
 rw[if_neg (by simp),List.take_length];rfl
def eqL (a b:List Int):Bool:=decide (a=b)
theorem apT (a:List Int):eqL a a=true:=by simp[eqL]
theorem ae4 {α:Type} [DecidableEq α] {o:List α} {x:α}:qC (fun a b=>decide (a=b)) o x=if x∈o then some (pos o x)else none:=by
 unfold qC
 induction o with
 | nil=>rfl
 | cons y o ih=>
  rw[List.findIdx?_cons,rl]
  by_cases h:y=x
  ·subst h;simp
  ·rw[if_neg (by simpa using h),if_neg h,ih]
   by_cases hx:x∈o
   ·rw[if_pos hx,if_pos (by simp[hx])];rfl
   ·rw[if_neg hx,if_neg (by simp[hx,Ne.symm h])];rfl
def VS (x:List Int):Prop:=(∀ i∈x,0≤i∧i < 65536)∧x.length≤201
theorem mem_keys {o:List (List Int)} {x:List Int} (ho:∀ y∈o,VS y) (hx:VS x):oc x∈o.map oc↔x∈o:=by
 rw[List.mem_map]
 constructor
 ·rintro ⟨y,hy,e⟩
  rw[← rm (ho y hy).1 hx.1 e];exact hy
 ·exact fun h=>⟨x,h,rfl⟩
theorem aeX:∀ {o:List (List Int)} {x:List Int},(∀ y∈o,VS y)→VS x→pos (o.map oc) (oc x)=pos o x
 | [],x,_,_=>rfl
 | y::o,x,ho,hx=>by
  rw[List.map_cons,rl,rl,aeX (fun z hz=>ho z (by simp[hz])) hx]
  by_cases h:y=x
  ·subst h;simp
  ·rw[if_neg h,if_neg fun e=>h (rm (ho y (by simp)).1 hx.1 e)]
theorem amC {o:List (List Int)} {x:List Int} {m:List (Str×Int)} (ho:∀ y∈o,VS y) (hx:VS x) (hk:jx m (o.map oc)) (hl:o.length≤100000):
  ∃ m',dc x m o=some (((mR eqL o x).2:Int),m',(mR eqL o x).1)∧jx m' ((mR eqL o x).1.map oc):=by
 unfold dc dc.k1 mR
 rw[awR (by have:=hx.2;omega),oB]
 by_cases h:x∈o
 ·have hf:qC eqL o x=some (pos o x):=ae4.trans (if_pos h)
  rw[hf]
  have:=hk.some ((mem_keys ho hx).2 h)
  rw[this]
  exact ⟨m,by rw[if_neg (by simp),Option.getD_some,aeX ho hx],hk⟩
 ·have hf:qC eqL o x=none:=ae4.trans (if_neg h)
  rw[hf]
  have hn:oc x∉o.map oc:=fun e=>h ((mem_keys ho hx).1 e)
  have:=hk.none hn
  rw[this]
  refine ⟨iW (oc x) (o.length:Int) m,by rw[if_pos (by simp),cL (by omega)];rfl,?_⟩
  have:=hk.new hn
  rw[List.length_map]at this
  simpa using this
def nxA (a:cu) (x:List Int) (n:Int):List Int:=abw qh a.Sets a.First a.Follow x n
def enA (a:cu) (x:List Int):Bool:=ax2 a.Null a.Last x
def VA (a:cu) (x:List Int):Prop:=(∀ i∈x,0≤i∧i≤(a.Sets.length:Int))∧x.length≤201
section
variable {N:Nat} (hN:N≤200) {a:cu} (ha:afa N a)
include hN ha
theorem VA.vs {x:List Int} (h:VA a x):VS x:=⟨fun i hi=>by have:=h.1 i hi;have:=ha.le;omega,h.2⟩
theorem VA.next (x:List Int) (n:Int):VA a (nxA a x n):=by
 have hb:∀ i∈stepG qh a.Sets a.First a.Follow x n,1≤i∧i≤(a.Sets.length:Int):=fun i hi=>(sT.1 hi).1
 have:Bd a.Sets.length (stepG qh a.Sets a.First a.Follow x n):=⟨ur,hb⟩
 have h2:=this.len
 have h3:=ha.le
 refine ⟨fun i hi=>?_,by unfold nxA abw;rw[List.length_cons];omega⟩
 rcases List.mem_cons.1 hi with rfl | hi
 ·omega
 ·have:=hb i hi;omega
theorem alf {l:List Int} {x:List Int} {o:List (List Int)} (ho:∀ y∈o,VA a y):∀ y∈(jT eqL o (l.map (nxA a x))).1,VA a y:=fun y hy=>by
 rcases qY _ _ y hy with h | h
 ·exact ho y h
 ·obtain ⟨n,_,rfl⟩:=List.mem_map.1 h
  exact VA.next hN ha x n
theorem axH {masks:List Int} {limit:Nat} (hm:masks.length≤200) (hlim:limit≤5000) {s:Nat} {N1:List (List Int)} {F1:List Bool} {x:List Int} (hx:VA a x):
  ∀ (l:List Int) (i:Nat),masks.drop i=l→∀ (row:List Int) (o:List (List Int)) (m:List (Str×Int)),row.length=i→(∀ y∈o,VA a y)→jx m (o.map oc)→o.length≤limit→o[s]? =some x→
   if (jT eqL o (l.map (nxA a x))).1.length≤limit then
    ∃ m',Loop (aZ.b2 a masks true (limit:Int) (s:Int) N1 F1) (row,(i:Int),o,m)=aZ.k3 a (s:Int) N1 F1 (row++(jT eqL o (l.map (nxA a x))).2) (jT eqL o (l.map (nxA a x))).1 m'∧jx m' ((jT eqL o (l.map (nxA a x))).1.map oc)
   else Loop (aZ.b2 a masks true (limit:Int) (s:Int) N1 F1) (row,(i:Int),o,m)=some (Step.done (⟨[],[]⟩,8)):=by
 intro l
 induction l with
 | nil=>
  intro i hl row o m hrow ho hk hlen hs
  have hi:masks.length≤i:=List.drop_eq_nil_iff.1 hl
  simp only[List.map_nil,jT]
  rw[if_pos hlen]
  refine ⟨m,bP ?_,hk⟩
  simp only[aZ.b2]
  rw[if_neg (by simp;omega),List.append_nil]
 | cons n l ih=>
  intro i hl row o m hrow ho hk hlen hs
  obtain ⟨hil,hn,hd⟩:=mW hl
  have hnx:=VA.next hN ha x n
  obtain ⟨m1,e1,k1⟩:=amC (fun y hy=>VA.vs hN ha (ho y hy)) (VA.vs hN ha hnx) hk (by omega)
  obtain ⟨t,ht⟩:=aeY (same:=eqL) o (nxA a x n)
  obtain ⟨t2,ht2⟩:=lq (same:=eqL) (l.map (nxA a x)) (mR eqL o (nxA a x n)).1
  have hso:=(List.getElem?_eq_some_iff.1 hs).1
  have hconc:bk [[0],stepG qh a.Sets a.First a.Follow x n]=some (nxA a x n):=by
   have e:bk=al:=rfl
   have h1:=hnx.2
   unfold nxA abw at h1
   rw[List.length_cons]at h1
   rw[e,ajM (by simp;omega)];rfl
  have hb2:aZ.b2 a masks true (limit:Int) (s:Int) N1 F1 (row,(i:Int),o,m)=if ((mR eqL o (nxA a x n)).1.length:Int) > (limit:Int)then some (Step.done (Step.done (⟨[],[]⟩,8)))else some (Step.next (row++[((mR eqL o (nxA a x n)).2:Int)],((i+1:Nat):Int),(mR eqL o (nxA a x n)).1,m1)):=by
   simp only[aZ.b2]
   rw[if_pos (by simpa using hil),gA hil,oB,hn,bw,hs,oB,auh hN ha hx.1 hx.2,oB,if_pos trivial]
   unfold gJ
   rw[oB,hconc,oB]
   unfold aZ.k4
   rw[e1,oB,cL (by omega),oB,fH (by omega)]
   simp only[decide_eq_true_eq]
  simp only[List.map_cons,jT]
  by_cases hc:(mR eqL o (nxA a x n)).1.length≤limit
  ·rw[if_neg (by omega)]at hb2
   rw[bM hb2]
   have:=ih (i+1) hd (row++[((mR eqL o (nxA a x n)).2:Int)]) (mR eqL o (nxA a x n)).1 m1 (by simp[hrow]) (fun y hy=>by
    have:y∈(jT eqL o ([n].map (nxA a x))).1:=hy
    exact alf hN ha ho y this) k1 hc (by rw[← ht,List.getElem?_append_left hso];exact hs)
   rw[List.append_assoc]at this
   exact this
  ·rw[if_pos (by omega)]at hb2
   have hlong:¬ (jT eqL (mR eqL o (nxA a x n)).1 (l.map (nxA a x))).1.length≤limit:=by rw[← ht2];simp;omega
   rw[if_neg hlong]
   exact cV hb2
theorem run_eq {masks:List Int} {limit:Nat} (hm:masks.length≤200) (hlim:limit≤5000):
  ∀ (fu s:Nat) (o:List (List Int)) (R:List (List Int)) (m:List (Str×Int)),fu+s=limit+1→s≤o.length→o.length≤limit→R.length=s→(∀ y∈o,VA a y)→jx m (o.map oc)→
   Loop (aZ.b1 a masks true (limit:Int)) ((s:Int),R,(o.take s).map (enA a),o,m)=match bgo eqL (fun x=>masks.map (nxA a x)) limit fu s o R with
    | some (o',R')=>some (⟨R',o'.map (enA a)⟩,0)
    | none=>some (⟨[],[]⟩,8):=by
 intro fu
 induction fu with
 | zero=>intro s o R m h1 h2 h3;omega
 | succ fu ih=>
  intro s o R m h1 h2 h3 hR ho hk
  rw[bgo]
  cases hs:o[s]? with
  | none=>
   have hse:o.length≤s:=List.getElem?_eq_none_iff.1 hs
   refine bP ?_
   simp only[aZ.b1]
   rw[if_neg (by simp;omega),List.take_of_length_le hse];rfl
  | some x=>
   have hso:=(List.getElem?_eq_some_iff.1 hs)
   have hx:=ho x (List.mem_of_getElem? hs)
   have hrow:=axH hN ha hm hlim (s:=s) (N1:=R) (F1:=(o.take s).map (enA a)) hx masks 0 rfl [] o m rfl ho hk h3 hs
   obtain ⟨t,ht⟩:=lq (same:=eqL) (masks.map (nxA a x)) o
   simp only
   have hb1:aZ.b1 a masks true (limit:Int) ((s:Int),R,(o.take s).map (enA a),o,m)=Loop (aZ.b2 a masks true (limit:Int) (s:Int) R ((o.take s).map (enA a))) ([],(0:Int),o,m):=by
    simp only[aZ.b1]
    rw[if_pos (by simpa using hso.1)]
   have h00:((0:Nat):Int)=0:=rfl
   rw[h00]at hrow
   by_cases hc:(jT eqL o (masks.map (nxA a x))).1.length≤limit
   ·rw[if_pos hc]at hrow ⊢
    obtain ⟨m',e1,k1⟩:=hrow
    have hs':(jT eqL o (masks.map (nxA a x))).1[s]? =some x:=by rw[← ht,List.getElem?_append_left hso.1];exact hs
    have hso':=(List.getElem?_eq_some_iff.1 hs')
    have e2:aZ.b1 a masks true (limit:Int) ((s:Int),R,(o.take s).map (enA a),o,m)=some (Step.next (((s+1:Nat):Int),R++[(jT eqL o (masks.map (nxA a x))).2],((jT eqL o (masks.map (nxA a x))).1.take (s+1)).map (enA a),(jT eqL o (masks.map (nxA a x))).1,m')):=by
     rw[hb1,e1]
     unfold aZ.k3 aZ.k2
     rw[bw,hs',oB,cL (by omega),oB,awn hN ha hx.2,oB,cL (by simp;omega),oB,fH (by omega),List.nil_append,dY hso'.1,hso'.2,List.map_append,← ht,List.take_append_of_le_length (by omega)]
     rfl
    rw[bM e2]
    exact ih (s+1) _ _ m' (by omega) (by have:=hso'.1;omega) hc (by simp[hR]) (alf hN ha ho) k1
   ·rw[if_neg hc]at hrow ⊢
    exact cV (hb1.trans hrow)
theorem nE {masks:List Int} {limit:Nat} (hm0:1≤masks.length) (hm:masks.length≤200) (hlim0:1≤limit) (hlim:limit≤5000):
  aZ a masks true (limit:Int)=match bgo eqL (fun x=>masks.map (nxA a x)) limit (limit+1) 0 [[0]] []with
    | some (o',R')=>some (⟨R',o'.map (enA a)⟩,0)
    | none=>some (⟨[],[]⟩,8):=by
 unfold aZ gJ
 have h0:VA a [0]:=⟨fun i hi=>by simp at hi;omega,by simp⟩
 obtain ⟨m',e1,k1⟩:=amC (o:=[]) (x:=[0]) (m:=[]) (fun y hy=>by cases hy) (VA.vs hN ha h0) rz (by simp)
 have e2:mR eqL [] [0]=([[0]],0):=rfl
 rw[e2]at e1 k1
 rw[if_neg (by simp;omega),oB,e1,oB]
 exact run_eq hN ha hm hlim (limit+1) 0 [[0]] [] m' (by omega) (by simp) (by simpa using hlim0) rfl (fun y hy=>by simp at hy;exact hy ▸ h0) k1
end
end
end Go.Val
namespace Go.Val
set_option linter.unusedSectionVars false
noncomputable section
structure DOk (d:fa) (m:Nat):Prop where
 some:1≤d.Next.length
 few:d.Next.length≤5000
 fin:d.Final.length=d.Next.length
 row:∀ r∈d.Next,r.length=m∧∀ e∈r,0≤e∧e < (d.Next.length:Int)
theorem aar {d:fa} {m:Nat} (h:DOk d m) (h1:1≤m) (h2:m≤200):iM d=some true:=by
 unfold iM
 have hs:=h.some
 have hf:=h.few
 rw[if_neg (by simp[h.fin];omega)]
 have h0:d.Next[0]? =some d.Next[0]:=gE (by omega)
 have hl:=(h.row _ (gM (by omega:0 < d.Next.length))).1
 rw[h0,oB,hl,if_pos (by simp;omega),if_pos (by simp;omega)]
 have hrow:∀ r∈d.Next,fl r (m:Int) (fun x0=>eJ x0 (d.Next.length:Int))=some false:=by
  intro r hr
  unfold fl
  rw[if_neg (by simp[(h.row r hr).1]),apz (f:=fun x0=>eJ x0 (d.Next.length:Int)) (g:=fun s=>decide (s < 0)||decide (s≥(d.Next.length:Int))) (fun _ _=>rfl) (by rw[(h.row r hr).1];omega),oB,oB]
  congr 1
  rw[List.any_eq_false]
  intro e he
  have:=(h.row r hr).2 e he
  simp;omega
 rw[ayY (g:=fun _=>false) hrow (by omega)]
 simp
section
variable {K:Type} [DecidableEq K]
def mOf (F:List K):List (K×Int):=F.mapIdx fun i a=>(a,(i:Int))
theorem pe (F:List K):jx (mOf F) F:=⟨by simp[mOf],fun i=>by simp[mOf]⟩
theorem jx.eq {m:List (K×Int)} {F:List K} (h:jx m F):m=mOf F:=by
 apply List.ext_getElem?
 intro i
 rw[h.2 i,(pe F).2 i]
theorem akY {F:List K}:(mOf F).length=F.length:=by simp[mOf]
theorem ar1 {F:List K} {a:K} (h:a∈F):nh a (mOf F)=some (pos F a:Int):=(pe F).some h
theorem akS {F:List K} {a:K} (h:a∉F):nh a (mOf F)=none:=(pe F).none h
theorem akE {F:List K} {a:K} (h:a∉F):iW a (F.length:Int) (mOf F)=mOf (F++[a]):=((pe F).new h).eq
theorem aiK {α K':Type} [DecidableEq K'] {f:α→K} {g:α→K'} {l:List α} (h:∀ x∈l,∀ y∈l,f x=f y→g x=g y) (hc:(firsts (l.map f)).length≤(firsts (l.map g)).length) {x y:α} (hx:x∈l) (hy:y∈l) (e:g x=g y):f x=f y:=by
 classical
 refine Decidable.byContradiction fun hne=>?_
 have hex:∀ v,v∈l.map g→∃ z,z∈l∧g z=v:=fun v hv=>by
  obtain ⟨z,h1,h2⟩:=List.mem_map.1 hv;exact ⟨z,h1,h2⟩
 let c:K'→α:=fun v=>if v=g x then x else if hv:v∈l.map g then (hex v hv).choose else x
 have hcv:∀ v,v∈l.map g→c v∈l∧g (c v)=v:=by
  intro v hv
  by_cases h1:v=g x
  ·have:c v=x:=if_pos h1
   rw[this];exact ⟨hx,h1.symm⟩
  ·have:c v=(hex v hv).choose:=by show (if _ then _ else _)=_;rw[if_neg h1,dif_pos hv]
   rw[this];exact (hex v hv).choose_spec
 have hcx:c (g x)=x:=if_pos rfl
 have hnd:((firsts (l.map g)).map (fun v=>f (c v))++[f y]).Nodup:=by
  rw[List.nodup_append]
  refine ⟨?_,by simp,?_⟩
  ·show List.Pairwise _ _
   rw[List.pairwise_map]
   refine List.Pairwise.imp_of_mem ?_ (mL (l:=l.map g))
   intro a b ha hb hab hf
   have h1:=hcv a (eu.1 ha)
   have h2:=hcv b (eu.1 hb)
   exact hab (by rw[← h1.2,← h2.2];exact h _ h1.1 _ h2.1 hf)
  ·intro a ha b hb
   obtain rfl:=List.mem_singleton.1 hb
   obtain ⟨v,hv,rfl⟩:=List.mem_map.1 ha
   intro hf
   have h1:=hcv v (eu.1 hv)
   have h2:=h _ h1.1 _ hy hf
   have h3:v=g x:=by rw[← h1.2,h2,e]
   rw[h3,hcx]at hf
   exact hne hf
 have hsub:=ig (m:=firsts (l.map f)) hnd (fun a ha=>by
  rw[eu]
  rcases List.mem_append.1 ha with ha | ha
  ·obtain ⟨v,hv,rfl⟩:=List.mem_map.1 ha
   exact List.mem_map.2 ⟨_,(hcv v (eu.1 hv)).1,rfl⟩
  ·obtain rfl:=List.mem_singleton.1 ha
   exact List.mem_map.2 ⟨y,hy,rfl⟩)
 simp at hsub
 omega
end
def kd (kind:List Int) (i:Nat):Int:=kind.getD i 0
def pY (d:fa) (i:Nat):List Int:=d.Next.getD i []
def tt (d:fa) (kind:List Int) (i:Nat):Str:=oc (kd kind i::(pY d i).map fun e=>kd kind e.toNat)
def fX (d:fa) (kind:List Int) (j:Nat):List Str:=(List.range j).map (tt d kind)
def lz (d:fa) (kind:List Int) (j:Nat):List Int:=(List.range d.Next.length).map fun i=>if i < j then ((pos (firsts (fX d kind d.Next.length)) (tt d kind i):Nat):Int)else 0
section
variable {d:fa} {m:Nat} (hd:DOk d m) (hm:m≤200)
include hd hm
theorem abG {kind:List Int} (hk:kind.length=d.Next.length) {i:Nat} (hi:i < d.Next.length):ee kind (i:Int) d.Next[i]=some (tt d kind i):=by
 unfold ee
 have hr:=hd.row d.Next[i] (gM hi)
 have hki:i < kind.length:=by omega
 have hrow:pY d i=d.Next[i]:=by unfold pY;rw[gD,gE hi];rfl
 have hkd:kd kind i=kind[i]:=by unfold kd;rw[gD,gE hki];rfl
 have hrun:=fc (b:=ee.b1 kind d.Next[i]) (fun j:Nat=>((oc (kind[i]::(d.Next[i].take j).map fun e=>kd kind e.toNat),(j:Int)):List UInt8×Int)) (i:=0) (n:=d.Next[i].length) (Nat.zero_le _) (fun j _ hj=>by
  simp only[ee.b1]
  have he:=hr.2 d.Next[i][j] (gM hj)
  have hlt:d.Next[i][j].toNat < kind.length:=by omega
  have hl:=hr.1
  have hcast:d.Next[i][j]=((d.Next[i][j].toNat:Nat):Int):=by omega
  have hke:kd kind d.Next[i][j].toNat=kind[d.Next[i][j].toNat]:=by unfold kd;rw[gD,gE hlt];rfl
  rw[if_pos (by simpa using hj),gA hj,oB]
  rw[show idx kind d.Next[i][j]=some kind[d.Next[i][j].toNat]from rp he.1 (gE hlt)]
  rw[oB,cL (by rw[ae7];simp;omega),oB,fH (by omega),dY hj,List.map_append,← List.cons_append,List.map_singleton,xt,hke]
  rfl)
 rw[gA hki,oB]
 have h0:(([u8 (IntKind.u8.wrap (shR .i64 kind[i] (8:Int))),u8 (IntKind.u8.wrap kind[i])]:List UInt8),(0:Int))=(fun j:Nat=>((oc (kind[i]::(d.Next[i].take j).map fun e=>kd kind e.toNat),(j:Int)):List UInt8×Int)) 0:=by
  simp[oc,afC]
 rw[h0,hrun]
 refine bP ?_
 simp only[ee.b1]
 rw[if_neg (by simp),List.take_length]
 unfold tt
 rw[hrow,hkd];rfl
theorem ue {kind:List Int} {j:Nat} (hj:j < d.Next.length):fX d kind (j+1)=fX d kind j++[tt d kind j]:=by
 unfold fX;rw[List.range_succ,List.map_append];rfl
theorem xC {kind:List Int} {j:Nat} (hj:j≤d.Next.length):firsts (fX d kind j) <+: firsts (fX d kind d.Next.length):=by
 have e:fX d kind d.Next.length=fX d kind j++(fX d kind d.Next.length).drop j:=by
  have h1:=(List.take_append_drop j (fX d kind d.Next.length)).symm
  have h2:(fX d kind d.Next.length).take j=fX d kind j:=by
   unfold fX;rw[← List.map_take,List.take_range,Nat.min_eq_left hj]
  rw[h2]at h1;exact h1
 rw[e];exact pU
theorem zD {kind:List Int} {j:Nat} (hj:j < d.Next.length):(lz d kind j).set j ((pos (firsts (fX d kind d.Next.length)) (tt d kind j):Nat):Int)=lz d kind (j+1):=by
 apply List.ext_getElem?
 intro i
 unfold lz
 rw[List.getElem?_set]
 by_cases h:j=i
 ·subst h
  rw[if_pos rfl]
  simp[hj]
 ·rw[if_neg h]
  by_cases hi:i < d.Next.length
  ·simp only[List.getElem?_map,List.getElem?_range hi,Option.map_some]
   congr 1
   by_cases h2:i < j
   ·rw[if_pos h2,if_pos (by omega)]
   ·rw[if_neg h2,if_neg (by omega)]
  ·rw[gN (by simp;omega),gN (by simp;omega)]
theorem round_eq {kind:List Int} (hk:kind.length=d.Next.length) {many:Int}:
  aB.b1 d (kind,many)=aB.k3 many (lz d kind d.Next.length) (mOf (firsts (fX d kind d.Next.length))):=by
 have hf:=hd.few
 have hrun:=fc (b:=aB.b2 d kind many) (fun j:Nat=>((kind,lz d kind j,(j:Int),mOf (firsts (fX d kind j))):List Int×List Int×Int×List (Str×Int))) (i:=0) (n:=d.Next.length) (Nat.zero_le _) (fun j _ hj=>by
  simp only[aB.b2]
  have hnl:(lz d kind j).length=d.Next.length:=by simp[lz]
  have hjn:j < (lz d kind j).length:=by omega
  rw[if_pos (by rw[hk];simpa using hj),gA hj,oB,abG hd hm hk hj,oB,ue hd hm hj,ej]
  unfold aB.k4 zR
  by_cases h:tt d kind j∈firsts (fX d kind j)
  ·have hp:pos (firsts (fX d kind d.Next.length)) (tt d kind j)=pos (firsts (fX d kind j)) (tt d kind j):=sa (xC hd hm (by omega)) h
   rw[ar1 h,if_neg (by simp),if_pos h,gA hjn,oB,fH (by omega),← zD hd hm hj,hp];rfl
  ·have hp:pos (firsts (fX d kind d.Next.length)) (tt d kind j)=(firsts (fX d kind j)).length:=by
    have hpre:=xC hd hm (kind:=kind) (j:=j+1) (by omega)
    rw[ue hd hm hj,ej]at hpre
    have e:zR (firsts (fX d kind j)) (tt d kind j)=firsts (fX d kind j)++[tt d kind j]:=if_neg h
    rw[e]at hpre
    rw[sa hpre (by simp),aaC h]
   rw[akS h,if_pos (by simp),if_neg h,gA hjn,oB,fH (by omega),← zD hd hm hj,hp,akY,akE h];rfl)
 unfold aB.b1
 simp only
 have h0:(kind,List.replicate (Int.toNat (kind.length:Int)) (0:Int),(0:Int),([]:List (Str×Int)))=(fun j:Nat=>((kind,lz d kind j,(j:Int),mOf (firsts (fX d kind j))):List Int×List Int×Int×List (Str×Int))) 0:=by
  simp only[Int.toNat_natCast,hk]
  have:lz d kind 0=List.replicate d.Next.length 0:=by
   unfold lz
   simp[List.map_const']
  rw[this];rfl
 have hmk:mk 8 (0:Int) (kind.length:Int)=some (List.replicate (Int.toNat (kind.length:Int)) (0:Int)):=by
  unfold mk;rw[if_pos (by simp;unfold dC;omega)]
 rw[hmk,oB,h0,hrun]
 refine bP ?_
 simp only[aB.b2]
 rw[if_neg (by rw[hk];simp)]
end
end
noncomputable section
def pj (d:fa) (i:Nat):Bool:=d.Final.getD i false
structure aeh (d:fa) (m:Nat) (k:List Int):Prop where
 len:k.length=d.Next.length
 fin:∀ i j,i < d.Next.length→j < d.Next.length→kd k i=kd k j→pj d i=pj d j
 step:∀ i j,i < d.Next.length→j < d.Next.length→kd k i=kd k j→∀ c,c < m→kd k (nc d.Next i c)=kd k (nc d.Next j c)
section
variable {d:fa} {m:Nat} (hd:DOk d m) (hm:m≤200)
include hd hm
theorem lu {i:Nat} (hi:i < d.Next.length):(pY d i).length=m∧∀ e∈pY d i,0≤e∧e < (d.Next.length:Int):=by
 unfold pY
 rw[gD,gE hi]
 exact hd.row _ (gM hi)
theorem rh {i c:Nat} (hi:i < d.Next.length) (hc:c < m):nc d.Next i c < d.Next.length:=by
 obtain ⟨h1,h2⟩:=lu hd hm hi
 have:(pY d i).getD c 0∈pY d i:=by
  rw[gD,gE (by omega)];exact gM _
 have h3:=h2 _ this
 show ((pY d i).getD c 0).toNat < _
 omega
theorem abq {kind:List Int} (hb:∀ i,i < d.Next.length→0≤kd kind i∧kd kind i < 65536) {i j:Nat} (hi:i < d.Next.length) (hj:j < d.Next.length):
  tt d kind i=tt d kind j↔kd kind i=kd kind j∧∀ c,c < m→kd kind (nc d.Next i c)=kd kind (nc d.Next j c):=by
 have hv:∀ i,i < d.Next.length→∀ v∈(kd kind i::(pY d i).map fun e=>kd kind e.toNat),0≤v∧v < 65536:=by
  intro i hi v hv
  rcases List.mem_cons.1 hv with rfl | hv
  ·exact hb i hi
  ·obtain ⟨e,he,rfl⟩:=List.mem_map.1 hv
   have:=(lu hd hm hi).2 e he
   exact hb _ (by omega)
 have hl:∀ (i:Nat),i < d.Next.length→∀ c,c < m→((pY d i).map fun e=>kd kind e.toNat)[c]? =some (kd kind (nc d.Next i c)):=by
  intro i hi c hc
  have h1:=(lu hd hm hi).1
  rw[List.getElem?_map,gE (by omega)]
  show some _=some (kd kind ((pY d i).getD c 0).toNat)
  rw[gD,gE (by omega)];rfl
 constructor
 ·intro h
  have h2:=rm (hv i hi) (hv j hj) h
  rw[List.cons.injEq]at h2
  refine ⟨h2.1,fun c hc=>?_⟩
  have h3:=hl i hi c hc
  rw[h2.2,hl j hj c hc]at h3
  exact (Option.some.inj h3).symm
 ·rintro ⟨h1,h2⟩
  unfold tt
  rw[h1]
  congr 2
  apply List.ext_getElem?
  intro c
  by_cases hc:c < m
  ·rw[hl i hi c hc,hl j hj c hc,h2 c hc]
  ·rw[gN (by rw[List.length_map,(lu hd hm hi).1];omega),gN (by rw[List.length_map,(lu hd hm hj).1];omega)]
theorem adQ {kind:List Int} {i:Nat} (hi:i < d.Next.length):kd (lz d kind d.Next.length) i=((pos (firsts (fX d kind d.Next.length)) (tt d kind i):Nat):Int):=by
 unfold kd lz
 rw[gD,List.getElem?_map,List.getElem?_range hi]
 simp[hi]
theorem vY {kind:List Int} {i:Nat} (hi:i < d.Next.length):tt d kind i∈firsts (fX d kind d.Next.length):=by
 rw[eu];exact List.mem_map.2 ⟨i,List.mem_range.2 hi,rfl⟩
theorem asY {kind:List Int}:(firsts (fX d kind d.Next.length)).length≤d.Next.length:=by
 have:=tN (l:=fX d kind d.Next.length)
 simpa[fX]using this
theorem pc {kind:List Int} {i j:Nat} (hi:i < d.Next.length) (hj:j < d.Next.length):kd (lz d kind d.Next.length) i=kd (lz d kind d.Next.length) j↔tt d kind i=tt d kind j:=by
 rw[adQ hd hm hi,adQ hd hm hj]
 constructor
 ·intro h;exact asI (vY hd hm hi) (vY hd hm hj) (by omega)
 ·intro h;rw[h]
structure aAa (d:fa) (kind:List Int) (many:Nat):Prop where
 len:kind.length=d.Next.length
 bd:∀ i,i < d.Next.length→0≤kd kind i∧kd kind i < 65536
 fin:∀ i j,i < d.Next.length→j < d.Next.length→kd kind i=kd kind j→pj d i=pj d j
 many:many=0∨many=(firsts ((List.range d.Next.length).map (kd kind))).length
theorem xg:∀ (fu:Nat) (kind:List Int) (many:Nat),d.Next.length - many < fu→aAa d kind many→∃ k,Loop (aB.b1 d) (kind,(many:Int))=some k∧aeh d m k:=by
 intro fu
 induction fu with
 | zero=>intro kind many h;omega
 | succ fu ih=>
  intro kind many hfu hI
  have hs:=hd.some
  have hn:(lz d kind d.Next.length).length=d.Next.length:=by simp[lz]
  have hcl:=asY hd hm (kind:=kind)
  have hc1:1≤(firsts (fX d kind d.Next.length)).length:=List.length_pos_of_mem (vY hd hm (i:=0) (by omega))
  have href:∀ x∈List.range d.Next.length,∀ y∈List.range d.Next.length,tt d kind x=tt d kind y→kd kind x=kd kind y:=fun x hx y hy h=>((abq hd hm hI.bd (List.mem_range.1 hx) (List.mem_range.1 hy)).1 h).1
  have hfin:∀ i j,i < d.Next.length→j < d.Next.length→kd (lz d kind d.Next.length) i=kd (lz d kind d.Next.length) j→pj d i=pj d j:=fun i j hi hj h=>
   hI.fin i j hi hj ((abq hd hm hI.bd hi hj).1 ((pc hd hm hi hj).1 h)).1
  have hb:=round_eq hd hm hI.len (many:=(many:Int))
  unfold aB.k3 at hb
  rw[akY]at hb
  by_cases hc:(firsts (fX d kind d.Next.length)).length=many
  ·rw[if_pos (by simp[hc])]at hb
   refine ⟨_,cV hb,hn,hfin,fun i j hi hj h c hcm=>?_⟩
   have hmany:(firsts ((List.range d.Next.length).map (tt d kind))).length≤(firsts ((List.range d.Next.length).map (kd kind))).length:=by
    rcases hI.many with h0 | h0
    ·omega
    ·show (firsts (fX d kind d.Next.length)).length≤_
     omega
   have hk:=(pc hd hm hi hj).1 h
   have h2:=((abq hd hm hI.bd hi hj).1 hk).2 c hcm
   have hi':=rh hd hm hi hcm
   have hj':=rh hd hm hj hcm
   exact (pc hd hm hi' hj').2 (aiK href hmany (List.mem_range.2 hi') (List.mem_range.2 hj') h2)
  ·rw[if_neg (by simp;omega)]at hb
   unfold aB.k2 at hb
   rw[bM hb]
   have hle:(firsts ((List.range d.Next.length).map (kd kind))).length≤(firsts (fX d kind d.Next.length)).length:=count_le (fun x h=>h) href
   refine ih _ _ ?_ ⟨hn,fun i hi=>?_,hfin,.inr ?_⟩
   ·rcases hI.many with h0 | h0 <;> omega
   ·rw[adQ hd hm hi]
    have:=yW (vY hd hm (kind:=kind) hi)
    have:=hd.few
    omega
   ·refine Nat.le_antisymm ?_ ?_
    ·exact count_le (fun x h=>h) fun x hx y hy h=>(pc hd hm (List.mem_range.1 hx) (List.mem_range.1 hy)).1 h
    ·exact count_le (fun x h=>h) fun x hx y hy h=>(pc hd hm (List.mem_range.1 hx) (List.mem_range.1 hy)).2 h
def mi (d:fa) (j:Nat):List Int:=(List.range d.Next.length).map fun i=>if i < j∧pj d i=true then 1 else 0
theorem ai2:∃ k,aB d=some k∧aeh d m k:=by
 have hf:=hd.few
 have hkl:∀ j,(mi d j).length=d.Next.length:=fun j=>by simp[mi]
 have hrun:=fc (b:=aB.b3 d) (fun j:Nat=>((mi d j,(j:Int)):List Int×Int)) (i:=0) (n:=d.Next.length) (Nat.zero_le _) (fun j _ hj=>by
  simp only[aB.b3]
  have hjf:j < d.Final.length:=by rw[hd.fin];exact hj
  have hjk:j < (mi d j).length:=by rw[hkl];exact hj
  have hfj:pj d j=d.Final[j]:=by unfold pj;rw[gD,gE hjf];rfl
  rw[if_pos (by simpa using hj),gA hjf,oB,← hfj]
  have hset:(mi d j).set j (if pj d j=true then 1 else 0)=mi d (j+1):=by
   apply List.ext_getElem?
   intro i
   unfold mi
   rw[List.getElem?_set]
   by_cases h:j=i
   ·subst h
    rw[if_pos rfl]
    simp[hj]
   ·rw[if_neg h]
    by_cases hi:i < d.Next.length
    ·simp only[List.getElem?_map,List.getElem?_range hi,Option.map_some]
     congr 1
     by_cases h2:i < j
     ·simp[h2,show i < j+1 by omega]
     ·simp[h2,show ¬ i < j+1 by omega]
    ·rw[gN (by simp;omega),gN (by simp;omega)]
  unfold aB.k5
  rw[fH (by omega),← hset]
  cases hfd:pj d j with
  | true=>rw[if_pos rfl,gA hjk];rfl
  | false=>
   rw[if_neg (by simp),if_neg (by simp)]
   have:(mi d j).set j 0=mi d j:=by
    apply List.ext_getElem?
    intro i
    rw[List.getElem?_set]
    by_cases h:j=i
    ·subst h
     rw[if_pos rfl,if_pos hjk]
     unfold mi
     simp[hj]
    ·rw[if_neg h]
   rw[this])
 unfold aB
 have hmk:mk 8 (0:Int) (d.Next.length:Int)=some (List.replicate (Int.toNat (d.Next.length:Int)) (0:Int)):=by
  unfold mk;rw[if_pos (by simp;unfold dC;omega)]
 have h0:(List.replicate (Int.toNat (d.Next.length:Int)) (0:Int),(0:Int))=(fun j:Nat=>((mi d j,(j:Int)):List Int×Int)) 0:=by
  have:mi d 0=List.replicate d.Next.length 0:=by
   unfold mi
   simp[List.map_const']
  simp only[Int.toNat_natCast]
  rw[this];rfl
 rw[hmk,oB,h0,hrun]
 have hkd:∀ i,i < d.Next.length→kd (mi d d.Next.length) i=if pj d i=true then 1 else 0:=fun i hi=>by
  unfold kd mi
  rw[gD,List.getElem?_map,List.getElem?_range hi]
  simp[hi]
 obtain ⟨k,h1,h2⟩:=xg hd hm (d.Next.length+1) (mi d d.Next.length) 0 (by omega) ⟨hkl _,fun i hi=>by rw[hkd i hi];split <;> omega,fun i j hi hj h=>by
  rw[hkd i hi,hkd j hj]at h
  cases h3:pj d i <;> cases h4:pj d j <;> rw[h3,h4]at h <;> simp at h <;> rfl,.inl rfl⟩
 refine ⟨k,?_,h2⟩
 refine bP ?_
 simp only[aB.b3]
 rw[if_neg (by simp)]
 unfold aB.k1
 have h1':Loop (aB.b1 d) (mi d d.Next.length,(0:Int))=some k:=h1
 rw[h1']
end
end
noncomputable section
theorem vR {α K:Type} [DecidableEq K] {f:α→K} {x:α}:∀ {o:List α},qC (fun a b=>decide (f a=f b)) o x=if f x∈o.map f then some (pos (o.map f) (f x))else none
 | []=>by simp[qC]
 | y::o=>by
  have ih:=vR (f:=f) (x:=x) (o:=o)
  unfold qC at ih ⊢
  rw[List.findIdx?_cons,List.map_cons,rl]
  by_cases h:f y=f x
  ·simp[h]
  ·rw[if_neg (by simpa using h),if_neg h,ih]
   by_cases hx:f x∈o.map f
   ·rw[if_pos hx,if_pos (List.mem_cons_of_mem _ hx)];rfl
   ·rw[if_neg hx,if_neg (by rw[List.mem_cons];rintro (h2 | h2);exact h h2.symm;exact hx h2)];rfl
def kz (k:List Int) (s:Int):Int:=kd k s.toNat
def ie (k:List Int) (a b:Int):Bool:=decide (kz k a=kz k b)
section
variable {d:fa} {m:Nat} (hd:DOk d m) (hm:m≤200) {k:List Int} (hk:aeh d m k)
include hd hm hk
theorem ze {x:Int} (hx:0≤x∧x < (d.Next.length:Int)) {o:List Int} (hl:o.length≤100000):
  dd x (mOf (o.map (kz k))) k o=some (((mR (ie k) o x).2:Int),mOf ((mR (ie k) o x).1.map (kz k)),(mR (ie k) o x).1):=by
 unfold dd dd.k1 mR
 have hxk:x.toNat < k.length:=by rw[hk.len];omega
 have hxv:k[x.toNat]=kz k x:=by unfold kz kd;rw[gD,gE hxk];rfl
 rw[rp hx.1 (gE hxk),oB,hxv]
 by_cases h:kz k x∈o.map (kz k)
 ·have hf:qC (ie k) o x=some (pos (o.map (kz k)) (kz k x)):=vR.trans (if_pos h)
  rw[hf,ar1 h]
  simp
 ·have hf:qC (ie k) o x=none:=vR.trans (if_neg h)
  rw[hf,akS h,if_pos (by simp),cL (by omega),oB]
  have:=akE h
  rw[List.length_map]at this
  simp only[List.map_append,List.map_cons,List.map_nil]
  rw[this]
theorem ajJ {xs o:List Int} (hxs:∀ x∈xs,0≤x∧x < (d.Next.length:Int)) (ho:∀ x∈o,0≤x∧x < (d.Next.length:Int)):∀ x∈(jT (ie k) o xs).1,0≤x∧x < (d.Next.length:Int):=fun x hx=>
 (qY _ _ x hx).elim (ho x) (hxs x)
theorem oq {o:List Int} (ho:∀ x∈o,0≤x∧x < (d.Next.length:Int)) (ha:qm (ie k) o):o.length≤d.Next.length:=by
 have hn:o.Nodup:=ha.imp fun {a b} h e=>by subst e;simp[ie]at h
 have:=ig (m:=(List.range d.Next.length).map fun i:Nat=>(i:Int)) hn (fun x hx=>List.mem_map.2 ⟨x.toNat,List.mem_range.2 (by have:=ho x hx;omega),by have:=ho x hx;omega⟩)
 simpa using this
theorem at5 {i:Int} {N1:List (List Int)} {F1:List Bool} {xs:List Int} (hxs:∀ x∈xs,0≤x∧x < (d.Next.length:Int)) (hxl:xs.length≤200):
  ∀ (l:List Int) (j:Nat),xs.drop j=l→∀ (row o:List Int),row.length=j→(∀ x∈o,0≤x∧x < (d.Next.length:Int))→qm (ie k) o→
   Loop (bC.b2 d k i N1 F1 xs) (row,(j:Int),mOf (o.map (kz k)),o)=bC.k3 d i N1 F1 (row++(jT (ie k) o l).2) (mOf ((jT (ie k) o l).1.map (kz k))) (jT (ie k) o l).1:=by
 intro l
 induction l with
 | nil=>
  intro j hl row o hrow ho ha
  have hj:xs.length≤j:=List.drop_eq_nil_iff.1 hl
  refine bP ?_
  simp only[bC.b2]
  rw[if_neg (by simp;omega)]
  simp[jT]
 | cons x l ih=>
  intro j hl row o hrow ho ha
  obtain ⟨hj,hx,hdr⟩:=mW hl
  have hxb:=hxs x (hx ▸ gM hj)
  have hlo:=oq hd hm hk ho ha
  have hf:=hd.few
  have h1:=ze hd hm hk hxb (o:=o) (by omega)
  have hb:bC.b2 d k i N1 F1 xs (row,(j:Int),mOf (o.map (kz k)),o)=some (.next (row++[((mR (ie k) o x).2:Int)],((j+1:Nat):Int),mOf ((mR (ie k) o x).1.map (kz k)),(mR (ie k) o x).1)):=by
   simp only[bC.b2]
   rw[if_pos (by simpa using hj),gA hj,oB,hx,h1,oB,cL (by omega),oB,fH (by omega)]
  rw[bM hb,ih (j+1) hdr _ _ (by simp[hrow]) (fun y hy=>?_) (uu x ha)]
  ·simp[jT]
  ·have:y∈(jT (ie k) o [x]).1:=hy
   exact ajJ hd hm hk (fun z hz=>by simp at hz;exact hz ▸ hxb) ho y this
def ak4 (d:fa) (s:Int):Bool:=pj d s.toNat
theorem aj7:∀ (fu i:Nat) (o:List Int) (R:List (List Int)),fu+i=d.Next.length+1→i≤o.length→R.length=i→(∀ x∈o,0≤x∧x < (d.Next.length:Int))→qm (ie k) o→
  ∃ o' R',bgo (ie k) (fun x=>pY d x.toNat) d.Next.length fu i o R=some (o',R')∧Loop (bC.b1 d k) ((i:Int),mOf (o.map (kz k)),o,R,(o.take i).map (ak4 d))=some (⟨R',o'.map (ak4 d)⟩,0):=by
 intro fu
 induction fu with
 | zero=>intro i o R h1 h2 _ ho ha;have:=oq hd hm hk ho ha;omega
 | succ fu ih=>
  intro i o R h1 h2 hR ho ha
  have hlo:=oq hd hm hk ho ha
  have hf:=hd.few
  rw[bgo]
  cases hs:o[i]? with
  | none=>
   have hse:o.length≤i:=List.getElem?_eq_none_iff.1 hs
   refine ⟨o,R,rfl,bP ?_⟩
   simp only[bC.b1]
   rw[if_neg (by simp;omega),List.take_of_length_le hse];rfl
  | some x=>
   have hso:=(List.getElem?_eq_some_iff.1 hs)
   have hx:=ho x (List.mem_of_getElem? hs)
   have hxn:x.toNat < d.Next.length:=by omega
   have hrw:=lu hd hm hxn
   have hrow:d.Next[x.toNat]=pY d x.toNat:=by unfold pY;rw[gD,gE hxn];rfl
   have hin:=ajJ hd hm hk hrw.2 ho
   have hap:=uR (same:=ie k) (pY d x.toNat) o ha
   have hle:=oq hd hm hk hin hap
   obtain ⟨t,ht⟩:=lq (same:=ie k) (pY d x.toNat) o
   simp only
   rw[if_pos hle]
   have hs':(jT (ie k) o (pY d x.toNat)).1[i]? =some x:=by rw[← ht,List.getElem?_append_left hso.1];exact hs
   have hso':=(List.getElem?_eq_some_iff.1 hs')
   have hxf:x.toNat < d.Final.length:=by rw[hd.fin];exact hxn
   have hfv:d.Final[x.toNat]=ak4 d x:=by unfold ak4 pj;rw[gD,gE hxf];rfl
   have hb:bC.b1 d k ((i:Int),mOf (o.map (kz k)),o,R,(o.take i).map (ak4 d))=some (.next (((i+1:Nat):Int),mOf ((jT (ie k) o (pY d x.toNat)).1.map (kz k)),(jT (ie k) o (pY d x.toNat)).1,R++[(jT (ie k) o (pY d x.toNat)).2],((jT (ie k) o (pY d x.toNat)).1.take (i+1)).map (ak4 d))):=by
    simp only[bC.b1]
    have h0:(([]:List Int),(0:Int),mOf (o.map (kz k)),o)=(([]:List Int),((0:Nat):Int),mOf (o.map (kz k)),o):=rfl
    rw[if_pos (by simpa using hso.1),bw,hs,oB,rp hx.1 (gE hxn),oB,hrow,h0,at5 hd hm hk hrw.2 (by rw[hrw.1];exact hm) (pY d x.toNat) 0 rfl [] o rfl ho ha]
    unfold bC.k3 bC.k2
    rw[bw,hs',oB,rp hx.1 (gE hxf),oB,cL (by omega),oB,cL (by simp;omega),oB,fH (by omega),List.nil_append,dY hso'.1,hso'.2,List.map_append,← ht,List.take_append_of_le_length (by omega),hfv]
    rfl
   rw[bM hb]
   exact ih (i+1) _ _ (by omega) (by have:=hso'.1;omega) (by simp[hR]) hin hap
end
section
variable {d:fa} {m:Nat} (hd:DOk d m) (hm1:1≤m) (hm:m≤200)
include hd hm1 hm
theorem apC:∃ k o' R',aeh d m k∧bgo (ie k) (fun x=>pY d x.toNat) d.Next.length (d.Next.length+1) 0 [0] []=some (o',R')∧bC d=some (⟨R',o'.map (ak4 d)⟩,0):=by
 obtain ⟨k,h1,hk⟩:=ai2 hd hm
 have hs:=hd.some
 have h0:∀ x∈[(0:Int)],0≤x∧x < (d.Next.length:Int):=fun x hx=>by simp at hx;omega
 obtain ⟨o',R',h2,h3⟩:=aj7 hd hm hk (d.Next.length+1) 0 [0] [] (by omega) (by simp) rfl h0 (by simp[qm])
 refine ⟨k,o',R',hk,h2,?_⟩
 unfold bC
 have e:=ze hd hm hk (h0 0 (by simp)) (o:=[]) (by simp)
 have e':dd 0 [] k []=some (0,mOf ([(0:Int)].map (kz k)),[0]):=e
 rw[aar hd hm1 hm,oB,if_neg (by simp),h1,oB,e',oB]
 exact h3
theorem amj {N:List (List Int)} {s c:Nat} {cs:List Nat}:rC N s (cs++[c])=nc N (rC N s cs) c:=by unfold rC;rw[List.foldl_append];rfl
theorem akq:∀ {cs:List Nat} {s:Nat},s < d.Next.length→(∀ c∈cs,c < m)→rC d.Next s cs < d.Next.length
 | [],s,hs,_=>hs
 | c::cs,s,hs,h=>akq (s:=nc d.Next s c) (rh hd hm hs (h c (by simp))) fun c' hc'=>h c' (by simp[hc'])
theorem ahQ:∃ e,bC d=some (e,0)∧DOk e m∧∀ cs:List Nat,(∀ c∈cs,c < m)→pj e (rC e.Next 0 cs)=pj d (rC d.Next 0 cs):=by
 obtain ⟨k,o',R',hk,h1,h2⟩:=apC hd hm1 hm
 have hs:=hd.some
 have hf:=hd.few
 have h0:∀ x∈[(0:Int)],0≤x∧x < (d.Next.length:Int):=fun x hx=>by simp at hx;omega
 have hr:∀ x,ie k x x=true:=fun x=>by simp[ie]
 obtain ⟨hI,hpre,hlen⟩:=acz hr (d.Next.length+1) 0 [0] [] o' R' ⟨rfl,Nat.zero_le _,fun j x hj=>absurd hj (Nat.not_lt_zero _)⟩ (by simpa using hs) h1
 have hin:∀ x∈o',0≤x∧x < (d.Next.length:Int):=akT (P:=fun x=>0≤x∧x < (d.Next.length:Int)) (fun x hx y hy=>(lu hd hm (by omega)).2 y hy) _ _ _ _ _ _ h0 h1
 have ho0:o'[0]? =some 0:=by
  obtain ⟨t,ht⟩:=hpre
  rw[← ht];rfl
 have hR:R'.length=o'.length:=hI.len
 have hol:=(List.getElem?_eq_some_iff.1 ho0).1
 have hget:∀ {i:Nat} {y:Int},o'[i]? =some y→pj ⟨R',o'.map (ak4 d)⟩ i=ak4 d y:=fun {i y} h=>by
  unfold pj
  rw[gD,List.getElem?_map,h];rfl
 refine ⟨⟨R',o'.map (ak4 d)⟩,h2,⟨by simp only;omega,by simp only;omega,by simp[hR],fun r hr'=>?_⟩,fun cs hcs=>?_⟩
 ·obtain ⟨i,hi,rfl⟩:=List.getElem_of_mem hr'
  simp only at hi ⊢
  have hio:i < o'.length:=by omega
  obtain ⟨r,g1,g2,g3⟩:=hI.row i o'[i] hio (gE hio)
  rw[gE hi]at g1
  obtain rfl:=Option.some.inj g1
  have hxb:=hin _ (gM hio)
  have hrw:=lu hd hm (i:=o'[i].toNat) (by omega)
  refine ⟨g2.trans hrw.1,fun e he=>?_⟩
  obtain ⟨c,hc,rfl⟩:=List.getElem_of_mem he
  have hc2:c < (pY d o'[i].toNat).length:=by omega
  obtain ⟨kk,g4,g5⟩:=g3 c _ (gE hc2)
  rw[gE hc]at g4
  have:=Option.some.inj g4
  have:=alV g5
  omega
 ·have hsim:=ayT (β:=Nat) hI (Q:=fun x b=>(0≤x∧x < (d.Next.length:Int))∧b < d.Next.length∧kz k x=kd k b) (nx:=nc d.Next) (m:=m) (fun x b c hq hc=>by
   obtain ⟨hx,hb,he⟩:=hq
   have hrw:=lu hd hm (i:=x.toNat) (by omega)
   refine ⟨(pY d x.toNat)[c]'(by omega),gE _,hrw.2 _ (gM _),rh hd hm hb hc,?_⟩
   have h3:=hk.step x.toNat b (by omega) hb he c hc
   rw[← h3]
   unfold kz nc
   show _=kd k ((pY d x.toNat).getD c 0).toNat
   rw[gD,gE (by omega)];rfl) (fun y y' b hm' hs hq=>⟨hin y' hm',hq.2.1,(show kz k y'=kz k y by simpa[ie]using hs).trans hq.2.2⟩) cs hcs 0 0 0 ho0 ⟨h0 0 (by simp),by omega,rfl⟩
  obtain ⟨y,g1,hy,hb,he⟩:=hsim
  show pj ⟨R',o'.map (ak4 d)⟩ (rC R' 0 cs)=_
  rw[hget g1]
  exact hk.fin y.toNat _ (by omega) hb he
end
end
noncomputable section
theorem apS:∀ (n:az) (A:GA),okN n=true→(∀ s∈A.1,0≤s)→∀ s∈(glu n A).2.1,0≤s:=by
 intro n
 induction n using az.ind with
 | h n ih=>
 intro A hok hA
 obtain ⟨k,s,l⟩:=n
 have hok':=hok
 rw[rG,Bool.and_eq_true,lD,List.all_eq_true]at hok'
 have ih':∀ x∈l,∀ A:GA,(∀ s∈A.1,0≤s)→∀ s∈(glu x A).2.1,0≤s:=fun x hx A h=>ih x hx A (hok'.2 x hx) h
 have cat:∀ (l':List az),(∀ x∈l',x∈l)→∀ (out:GP) (A:GA),(∀ s∈A.1,0≤s)→∀ s∈(iz l' out A).2.1,0≤s:=by
  intro l'
  induction l' with
  | nil=>intro _ out A h;rw[iz];exact h
  | cons x l' ihl=>intro hl out A h;rw[iz];exact ihl (fun y hy=>hl y (by simp[hy])) _ _ (ih' x (hl x (by simp)) A h)
 have alt:∀ (l':List az),(∀ x∈l',x∈l)→∀ (out:GP) (A:GA),(∀ s∈A.1,0≤s)→∀ s∈(iN l' out A).2.1,0≤s:=by
  intro l'
  induction l' with
  | nil=>intro _ out A h;rw[iN];exact h
  | cons x l' ihl=>intro hl out A h;rw[iN];exact ihl (fun y hy=>hl y (by simp[hy])) _ _ (ih' x (hl x (by simp)) A h)
 rw[glu]
 split
 ·rename_i h1
  subst h1
  have h3:=hok'.1
  simp only[okK,if_pos,Bool.and_eq_true,decide_eq_true_eq]at h3
  intro s' hs'
  rcases List.mem_append.1 hs' with h | h
  ·exact hA s' h
  ·obtain rfl:=List.mem_singleton.1 h
   exact h3.2.1
 ·split
  ·exact cat l (fun x h=>h) _ A hA
  ·split
   ·exact alt l (fun x h=>h) _ A hA
   ·cases l with
    | nil=>rw[cO];exact hA
    | cons x l=>rw[cO];exact ih' x (by simp) A hA
theorem vX {n:az} (hok:okN n=true) (h:dn n≤200):afa 200 (lU n):=by
 have hg:=(atX (hit:=fun _ _=>true) n ([],[]) rfl).2.1
 have hI:In2 (glu n ([],[])).2.1.length (glu n ([],[])).1 ([],[]) (glu n ([],[])).2:=⟨hg,Nat.le_refl _,fun row hr=>by cases hr⟩
 have hl:=wk n ([],[])
 exact ⟨hg.len,by simp at hl;exact Nat.le_trans hl h,hI.first,hI.last,hI.all,apS n ([],[]) hok (fun s hs=>by cases hs)⟩
def msk (masks:List Int) (cs:List Nat):List Int:=cs.map fun c=>masks.getD c 0
def arD (n:az) (w:List Int):Prop:=∃ u v,w=u++v∧nC qh n v
section
variable {n:az} (hok:okN n=true) (hsz:dn n≤200) {masks:List Int} (hm1:1≤masks.length) (hm:masks.length≤200) {limit:Nat} (hl1:1≤limit) (hl:limit≤5000)
include hok hsz hm1 hm hl1 hl
theorem arm:(∃ d,aZ (lU n) masks true (limit:Int)=some (d,0)∧DOk d masks.length∧∀ cs:List Nat,(∀ c∈cs,c < masks.length)→(pj d (rC d.Next 0 cs)=true↔arD n (msk masks cs)))∨
  bgo eqL (fun x=>masks.map (nxA (lU n) x)) limit (limit+1) 0 [[0]] []=none∧aZ (lU n) masks true (limit:Int)=some (⟨[],[]⟩,8):=by
 have ha:=vX hok hsz
 have hsb:=nE (Nat.le_refl 200) ha hm1 hm hl1 hl
 cases hb:bgo eqL (fun x=>masks.map (nxA (lU n) x)) limit (limit+1) 0 [[0]] []with
 | none=>rw[hb]at hsb;exact .inr ⟨rfl,hsb⟩
 | some p=>
  obtain ⟨o',R'⟩:=p
  rw[hb]at hsb
  left
  obtain ⟨hI,hpre,hlen⟩:=acz apT (limit+1) 0 [[0]] [] o' R' ⟨rfl,Nat.zero_le _,fun j x hj=>absurd hj (Nat.not_lt_zero _)⟩ (by simpa using hl1) hb
  have ho0:o'[0]? =some [0]:=by
   obtain ⟨t,ht⟩:=hpre
   rw[← ht];rfl
  have hol:=(List.getElem?_eq_some_iff.1 ho0).1
  have hR:R'.length=o'.length:=hI.len
  refine ⟨_,hsb,⟨by simp only;omega,by simp only;omega,by simp[hR],fun r hr'=>?_⟩,fun cs hcs=>?_⟩
  ·obtain ⟨i,hi,rfl⟩:=List.getElem_of_mem hr'
   simp only at hi ⊢
   have hio:i < o'.length:=by omega
   obtain ⟨r,g1,g2,g3⟩:=hI.row i o'[i] hio (gE hio)
   rw[gE hi]at g1
   obtain rfl:=Option.some.inj g1
   rw[List.length_map]at g2
   refine ⟨g2,fun e he=>?_⟩
   obtain ⟨c,hc,rfl⟩:=List.getElem_of_mem he
   obtain ⟨kk,g4,g5⟩:=g3 c _ (gE (by rw[List.length_map];omega))
   rw[gE hc]at g4
   have:=Option.some.inj g4
   have:=alV g5
   omega
  ·have hsim:=ayT (β:=List Int) hI (Q:=fun x b=>x=b) (nx:=fun b c=>nxA (lU n) b (masks.getD c 0)) (m:=masks.length) (fun x b c hq hc=>by
    subst hq
    refine ⟨_,?_,rfl⟩
    rw[List.getElem?_map,gE hc,gD,gE hc];rfl) (fun y y' b hm' hs hq=>by
    have:y'=y:=by simpa[eqL]using hs
    rw[this];exact hq) cs hcs 0 [0] [0] ho0 rfl
   obtain ⟨y,g1,g2⟩:=hsim
   have hst:y=aok qh (lU n).Sets (lU n).First (lU n).Follow (msk masks cs):=by
    rw[g2]
    unfold aok msk
    rw[List.foldl_map];rfl
   have hg:=(atX (hit:=qh) n ([],[]) rfl).2
   have he:=avh hg.1 hg.2 (msk masks cs)
   show pj ⟨R',o'.map (enA (lU n))⟩ (rC R' 0 cs)=true↔_
   unfold pj
   rw[gD,List.getElem?_map,g1]
   rw[hst]
   exact he
theorem xa:(∃ e,dH n masks (limit:Int)=some (e,0)∧DOk e masks.length∧∀ cs:List Nat,(∀ c∈cs,c < masks.length)→(pj e (rC e.Next 0 cs)=true↔arD n (msk masks cs)))∨
  bgo eqL (fun x=>masks.map (nxA (lU n) x)) limit (limit+1) 0 [[0]] []=none∧dH n masks (limit:Int)=some (⟨[],[]⟩,8):=by
 unfold dH
 rw[vE hok hsz,oB,if_neg (by simp)]
 rcases arm hok hsz hm1 hm hl1 hl with ⟨d,h1,h2,h3⟩ | ⟨h0,h1⟩
 ·left
  obtain ⟨e,g1,g2,g3⟩:=ahQ h2 hm1 hm
  refine ⟨e,?_,g2,fun cs hcs=>by rw[g3 cs hcs];exact h3 cs hcs⟩
  rw[h1,oB,if_neg (by simp),g1];rfl
 ·right
  refine ⟨h0,?_⟩
  rw[h1,oB,if_pos (by simp)]
end
def nd:az:=⟨0,0,[]⟩
theorem aet:∀ {l:List (List Int)},(∀ x∈l,x=[0])→(jT eqL [[0]] l).1=[[0]]
 | [],_=>rfl
 | x::l,h=>by
  have hx:=h x (by simp)
  subst hx
  rw[jT]
  exact aet fun y hy=>h y (by simp[hy])
theorem xm {masks:List Int} {limit:Nat} (hl1:1≤limit):bgo eqL (fun x=>masks.map (nxA (lU nd) x)) limit (limit+1) 0 [[0]] []≠none:=by
 obtain ⟨k,rfl⟩:∃ k,limit=k+1:=⟨limit - 1,by omega⟩
 have h:∀ x∈masks.map (nxA (lU nd) [0]),x=[0]:=fun x hx=>by
  obtain ⟨c,_,rfl⟩:=List.mem_map.1 hx
  have e:lU nd=⟨true,[],[],[],[]⟩:=by unfold lU nd;simp[glu,iz]
  rw[e];rfl
 have e1:=aet h
 rw[bgo]
 simp only[List.getElem?_cons_zero]
 rw[e1,if_pos (by simp),bgo]
 simp
end
noncomputable section
def ed2 (x:ak):List Int:=[x.Low,x.High+1]
def qF (l:List ak):List Int:=l.flatMap ed2
theorem qU:∀ {l:List ak},(qF l).length=2*l.length
 | []=>rfl
 | x::l=>by
  show (ed2 x++qF l).length=_
  rw[List.length_append,qU];simp[ed2];omega
theorem aei {l m:List ak}:qF (l++m)=qF l++qF m:=by simp[qF]
theorem apI {l:List ak} {e:Int}:e∈qF l↔∃ x∈l,e=x.Low∨e=x.High+1:=by
 unfold qF
 rw[List.mem_flatMap]
 exact exists_congr fun x=>and_congr Iff.rfl (by simp[ed2])
theorem ak0 {xs:List ak} {v:Nat} (hx:∀ x∈xs,Ok x) (hl:xs.length≤1200) (hv:v≤1000) {out:List Int} (ho:out.length≤10000):
  Loop (aA.b3 (v:Int) xs) (out,(0:Int))=some (.next (out++qF xs,((v+1:Nat):Int))):=by
 have hrun:=fc (b:=aA.b3 (v:Int) xs) (fun j:Nat=>((out++qF (xs.take j),(j:Int)):List Int×Int)) (i:=0) (n:=xs.length) (Nat.zero_le _) (fun j _ hj=>by
  simp only[aA.b3]
  obtain ⟨a,b,c⟩:=hx _ (gM hj)
  rw[if_pos (by simpa using hj),gA hj,oB,cL (by rw[List.length_append,qU,List.length_take];omega),oB,w64 (n:=xs[j].High+1) (by omega) (by omega),fH (by omega),dY hj,aei,List.append_assoc]
  rfl)
 have h0:(out,(0:Int))=(fun j:Nat=>((out++qF (xs.take j),(j:Int)):List Int×Int)) 0:=by simp[qF]
 rw[h0,hrun]
 refine bP ?_
 simp only[aA.b3]
 rw[if_neg (by simp),List.take_length]
 unfold aA.k4
 rw[fH (by omega)]
 try rfl
section
variable {S:List (List ak)} (h:Good S)
include h
theorem akB {A:aH}:aA A S=aA.k1 A (0::qF S.flatten):=by
 have hs:=h.small
 have hf:=h.few
 unfold aA
 have hrun:=fc (b:=aA.b2 A S) (fun j:Nat=>((0::qF (S.take j).flatten,(j:Int)):List Int×Int)) (i:=0) (n:=S.length) (Nat.zero_le _) (fun j _ hj=>by
  simp only[aA.b2]
  have h1:=aeM hj
  rw[if_pos (by simpa using hj),gA hj,oB,ak0 (fun x hx=>h.ok x (qT hj hx)) (by omega) (by omega) (by rw[List.length_cons,qU];omega),kV hj,aei]
  rfl)
 have h0:(([(0:Int)]:List Int),(0:Int))=(fun j:Nat=>((0::qF (S.take j).flatten,(j:Int)):List Int×Int)) 0:=by simp[qF]
 rw[h0,hrun]
 refine bP ?_
 simp only[aA.b2]
 rw[if_neg (by simp),List.take_length]
def prC (S:List (List ak)) (e:Int):cQ:=⟨e,1114111,UInt8.ofNat (jz S e)⟩
theorem akh {r:Int} (hr:0≤r) (hr2:r≤1114111):agL ((edg S).map (prC S)) r=UInt8.ofNat (jz S r):=by
 obtain ⟨k,hk,h1,h2⟩:=sV h hr hr2
 have hp:=(eX h).2.2.1
 have hE:=kW h
 have key:∀ j,j≤(edg S).length→k < j→agL (((edg S).take j).map (prC S)) r=UInt8.ofNat (jz S r):=by
  intro j
  induction j with
  | zero=>intro _ h;omega
  | succ j ih=>
   intro hj hkj
   have hj':j < (edg S).length:=by omega
   rw[dY hj',List.map_append,List.map_singleton,sC]
   by_cases e:j=k
   ·subst e
    rw[gO hk]at h1
    rw[if_pos ⟨h1,hr2⟩]
    show UInt8.ofNat (jz S (edg S)[j])=_
    unfold jz
    rw[sE h hk (by rw[gO hk];exact h1) h2 hr2,gO hk]
   ·rw[if_neg,ih (by omega) (by omega)]
    rintro ⟨a,_⟩
    have hm:=vI hp (fun e he=>(hE e he).2) (j - (k+1)) (k+1) (by omega)
    rw[show k+1+(j - (k+1))=j by omega,gO hj']at hm
    have:(edg S)[j]≤r:=a
    omega
 have:=key (edg S).length (Nat.le_refl _) hk
 rwa[List.take_length]at this
theorem at3 {k:Nat} (hk:k < 4352):cP ((edg S).map (prC S)) k=cP (prp S) k:=by
 apply Vector.toList_inj.1
 apply List.ext_getElem?
 intro j
 by_cases hj:j < 256
 ·have hb:=axX hk hj
  rw[kX _ _ _ hj,kX _ _ _ hj,akh h hb.1 hb.2,abL h hb.1 hb.2]
 ·rw[gN (by simp;omega),gN (by simp;omega)]
def IsT (S:List (List ak)) (t:bB):Prop:=∀ r,inR r→fE t r=some (UInt8.ofNat (jz S r))
theorem yO (hF:Fit S) {A:aH} (hA:IsA S A):∃ t,aA A S=some (some t)∧IsT S t:=by
 have hs:=h.small
 have hel:=(eX h).2.2.2.2
 have hpl:((edg S).map (prC S)).length≤4096:=by rw[List.length_map];omega
 have hpo:∀ x∈(edg S).map (prC S),OkP x:=by
  intro x hx
  obtain ⟨e,he,rfl⟩:=List.mem_map.1 hx
  have:=kW h e he
  exact ⟨this.1,this.2,Int.le_refl _⟩
 have hbk:gC ((edg S).map (prC S)) nB=gC (prp S) nB:=by
  unfold gC
  apply List.map_congr_left
  intro k hk
  exact at3 h (by have:=List.mem_range.1 hk;rw[zP]at this;exact this)
 have hcnt:(firsts (gC ((edg S).map (prC S)) nB)).length≤256:=by rw[hbk];exact hF.2
 obtain ⟨like,hlike,hbuild⟩:=(yM zP hpo hpl).1 hcnt
 refine ⟨⟨like,firsts (gC ((edg S).map (prC S)) nB)⟩,?_,fun r hr=>?_⟩
 ·rw[akB h]
  have hr:dC=140737488355328:=rfl
  have hol:(0::qF S.flatten).length≤2401:=by rw[List.length_cons,qU];omega
  have hpm:((0::qF S.flatten).mergeSort fun x y=>decide (x≤y)).Perm (0::qF S.flatten):=List.mergeSort_perm _ _
  have hsort:((0::qF S.flatten).mergeSort fun x y=>decide (x≤y)).Pairwise (· ≤ ·):=by
   have:=List.pairwise_mergeSort (le:=fun x y:Int=>decide (x≤y)) (by intro a b c;simp;omega) (by intro a b;simp;omega) (0::qF S.flatten)
   exact this.imp (by simp)
  obtain ⟨c1,c2,c3⟩:=mw hsort
  have hlen:=hpm.length_eq
  have hu:aA.k1 A (0::qF S.flatten)=Loop (aA.b1 A (Go.Lib.compact ((0::qF S.flatten).mergeSort fun x y=>decide (x≤y)))) ([],(0:Int)):=by
   unfold aA.k1 sZ
   rw[if_pos (by omega),oB]
   unfold cF
   rw[if_pos (by omega)];rfl
  rw[hu]
  have hr1:∀ e,e∈Go.Lib.compact ((0::qF S.flatten).mergeSort fun x y=>decide (x≤y))↔e=0∨∃ x∈S.flatten,e=x.Low∨e=x.High+1:=fun e=>by
   rw[c2,hpm.mem_iff,List.mem_cons,apI]
  have hrl:(Go.Lib.compact ((0::qF S.flatten).mergeSort fun x y=>decide (x≤y))).length≤2401:=by omega
  generalize Go.Lib.compact ((0::qF S.flatten).mergeSort fun x y=>decide (x≤y))=rr at c1 hr1 hrl
  have hfe:rr.filter (fun e=>decide (e≤1114111))=edg S:=by
   refine oU (c1.sublist List.filter_sublist) (eX h).2.2.1 fun e=>?_
   rw[List.mem_filter,hr1,(eX h).2.2.2.1,decide_eq_true_eq]
   constructor
   ·rintro ⟨h0 | ⟨x,hx,h1 | h1⟩,h2⟩
    ·exact .inl h0
    ·exact .inr ⟨x,hx,.inl h1⟩
    ·exact .inr ⟨x,hx,.inr ⟨by omega,h1⟩⟩
   ·rintro (h0 | ⟨x,hx,h1 | ⟨h2,h1⟩⟩)
    ·exact ⟨.inl h0,by omega⟩
    ·obtain ⟨a,b,c⟩:=h.ok x hx
     exact ⟨.inr ⟨x,hx,.inl h1⟩,by omega⟩
    ·exact ⟨.inr ⟨x,hx,.inr h1⟩,by omega⟩
  have hrun:=fc (b:=aA.b1 A rr) (fun j:Nat=>((((rr.take j).filter (fun e=>decide (e≤1114111))).map (prC S),(j:Int)):List cQ×Int)) (i:=0) (n:=rr.length) (Nat.zero_le _) (fun j _ hj=>by
   simp only[aA.b1]
   have hpl:(((rr.take j).filter (fun e=>decide (e≤1114111))).map (prC S)).length≤2401:=by
    rw[List.length_map]
    exact Nat.le_trans (List.length_filter_le _ _) (by rw[List.length_take];omega)
   rw[if_pos (by simpa using hj),gA hj,oB,dY hj,List.filter_append,List.map_append]
   by_cases hc:rr[j]≤1114111
   ·have h0:0≤rr[j]:=by
     rcases (hr1 _).1 (gM hj)with e | ⟨x,hx,e | e⟩
     ·omega
     ·obtain ⟨a,b,c⟩:=h.ok x hx;omega
     ·obtain ⟨a,b,c⟩:=h.ok x hx;omega
    have hlt:=pg h ⟨h0,hc⟩
    have hF1:=hF.1
    have hof:ofI S rr[j]=((jz S rr[j]:Nat):Int):=if_pos ⟨h0,hc⟩
    rw[if_pos (decide_eq_true hc),ay0 h hF hA,oB,cL (by omega),oB,hof,vW (by omega)]
    unfold aA.k3
    rw[fH (by omega)]
    simp[hc,prC]
   ·rw[if_neg (by simpa using hc)]
    unfold aA.k3
    rw[fH (by omega)]
    simp[hc])
  have h0:(([]:List cQ),(0:Int))=(fun j:Nat=>((((rr.take j).filter (fun e=>decide (e≤1114111))).map (prC S),(j:Int)):List cQ×Int)) 0:=by simp
  rw[h0,hrun]
  refine bP ?_
  simp only[aA.b1]
  rw[if_neg (by simp),List.take_length,hfe]
  unfold aA.k2
  rw[hbuild];rfl
 ·rw[xI zP hlike hcnt hr.1 hr.2,akh h hr.1 hr.2]
end
end
noncomputable section
structure ar3 (p:aW):Prop where
 few:aw7 p
 flat:p.Sets.flatten.length≤1200
def xy (n:az) (masks:List Int) (limit:Nat):Prop:=bgo eqL (fun x=>masks.map (nxA (lU n) x)) limit (limit+1) 0 [[0]] []≠none
def arW (n:az) (masks:List Int) (e:fa):Prop:=DOk e masks.length∧∀ cs:List Nat,(∀ c∈cs,c < masks.length)→(pj e (rC e.Next 0 cs)=true↔arD n (msk masks cs))
def oV (p:aW) (limit:Nat):Prop:=fW p∧Fit p.Sets∧∀ x∈p.Rules,xy x.Left (cls p.Sets) limit∧xy (iI x.Right) (cls p.Sets) limit
def arI (S:List (List ak)) (x:iV) (r:bA):Prop:=r.breaks=x.Break∧arW x.Left (cls S) r.states.v0∧arW (iI x.Right) (cls S) r.states.v1
structure MOk (p:aW) (y:aS):Prop where
 len:y.rules.length=p.Rules.length
 rule:∀ (k:Nat) (x:iV) (r:bA),p.Rules[k]? =some x→y.rules[k]? =some r→arI p.Sets x r
 trie:IsT p.Sets y.trie
section
variable {p:aW} (hp:ar3 p) {limit:Nat} (hl1:1≤limit) (hl:limit≤5000)
include hp hl1 hl
theorem fW.good (h:fW p):Good p.Sets:=⟨h.2.2.1,h.1,hp.flat⟩
theorem fW.ok (h:fW p) {x:iV} (hx:x∈p.Rules):(okN x.Left=true∧dn x.Left≤200)∧(okN (iI x.Right)=true∧dn (iI x.Right)≤200):=by
 have hf:=sW h.2.2.2.2 x hx
 have hn:=hp.few.nodes x hx
 refine ⟨⟨ae9 h.1 _ _ _ hf.1,by omega⟩,?_,?_⟩
 ·rw[atz];exact ae9 h.1 _ _ _ hf.2
 ·rw[alC];omega
theorem atO (h:Good p.Sets):1≤(cls p.Sets).length:=List.length_pos_of_mem (wJ h (r:=0) (by omega) (by omega))
theorem aqZ {A:aH} (hF:Fit p.Sets) (hA:IsA p.Sets A):cA A=some (cls p.Sets):=by
 obtain ⟨like,hL,rfl⟩:=hA
 unfold cA dg
 have:=hF.1
 rw[cL (by show (0+(cls p.Sets).length)*8≤_;omega)];rfl
theorem agY (hR:fW p) (hF:Fit p.Sets) {A:aH} (hA:IsA p.Sets A) {t:bB} {n:Int}:
  ∀ (l:List iV) (i:Nat),p.Rules.drop i=l→∀ out:List bA,out.length=i→
   ((∀ x∈l,xy x.Left (cls p.Sets) limit∧xy (iI x.Right) (cls p.Sets) limit)→∃ more:List bA,more.length=l.length∧(∀ (k:Nat) (x:iV) (r:bA),l[k]? =some x→more[k]? =some r→arI p.Sets x r)∧
     Loop (ay.b2 p (limit:Int) A t n) ((i:Int),out)=some (some ⟨out++more,t,n⟩,0))∧
   ((¬ ∀ x∈l,xy x.Left (cls p.Sets) limit∧xy (iI x.Right) (cls p.Sets) limit)→Loop (ay.b2 p (limit:Int) A t n) ((i:Int),out)=some (none,8)):=by
 have hG:=fW.good hp hl1 hl hR
 have hc1:=atO hp hl1 hl hG
 have hc2:=hF.1
 have hrl:=hp.few.rules
 intro l
 induction l with
 | nil=>
  intro i hli out ho
  have hi:p.Rules.length≤i:=List.drop_eq_nil_iff.1 hli
  refine ⟨fun _=>⟨[],rfl,fun k x r h=>by simp at h,?_⟩,fun h=>absurd (fun x hx=>by cases hx) h⟩
  refine bP ?_
  simp only[ay.b2]
  rw[if_neg (by simp;omega),List.append_nil];rfl
 | cons x l ih=>
  intro i hli out ho
  obtain ⟨hil,hx,hd⟩:=mW hli
  have hxm:x∈p.Rules:=hx ▸ gM hil
  have hok:=fW.ok hp hl1 hl hR hxm
  have hn:=hp.few.nodes x hxm
  have e1:ay.b2 p (limit:Int) A t n ((i:Int),out)=(dH x.Left (cls p.Sets) (limit:Int)).bind fun r12=>if (r12.2 != (0:Int))then some (Step.done (none,r12.2))else (dH (iI x.Right) (cls p.Sets) (limit:Int)).bind fun r14=>if (r14.2 != (0:Int))then some (Step.done (none,r14.2))else ay.k6 (i:Int) out x r12.1.Next r12.1.Final r14.1.Next r14.1.Final:=by
   simp only[ay.b2]
   rw[if_pos (by simpa using hil),gA hil,oB,hx,asm (by omega),oB,aqZ hp hl1 hl hF hA,oB]
   rfl
  rcases xa hok.1.1 hok.1.2 hc1 hc2 hl1 hl with ⟨d1,a1,a2,a3⟩ | ⟨b0,b1⟩
  ·rcases xa hok.2.1 hok.2.2 hc1 hc2 hl1 hl with ⟨d2,c1,c2,c3⟩ | ⟨b0,b1⟩
   ·have e2:ay.b2 p (limit:Int) A t n ((i:Int),out)=some (Step.next (((i+1:Nat):Int),out++[⟨x.Break,⟨d1,d2⟩⟩])):=by
     rw[e1,a1,oB,if_neg (by simp),c1,oB,if_neg (by simp)]
     unfold ay.k6 ay.k5
     rw[cL (by omega),oB,fH (by omega)]
    have h1:=ih (i+1) hd (out++[⟨x.Break,⟨d1,d2⟩⟩]) (by simp[ho])
    rw[bM e2]
    constructor
    ·intro hall
     obtain ⟨more,g1,g2,g3⟩:=h1.1 fun y hy=>hall y (List.mem_cons_of_mem _ hy)
     refine ⟨⟨x.Break,⟨d1,d2⟩⟩::more,by simp[g1],fun k y r hy hr=>?_,by rw[g3];simp⟩
     cases k with
     | zero=>
      simp at hy hr
      subst hy;subst hr
      exact ⟨rfl,⟨a2,a3⟩,⟨c2,c3⟩⟩
     | succ k=>exact g2 k y r (by simpa using hy) (by simpa using hr)
    ·intro hnot
     refine h1.2 fun hall=>hnot fun y hy=>?_
     rcases List.mem_cons.1 hy with rfl | hy
     ·constructor
      ·intro hnone
       have hsb:=nE (Nat.le_refl 200) (vX hok.1.1 hok.1.2) hc1 hc2 hl1 hl
       rw[hnone]at hsb
       have:dH y.Left (cls p.Sets) (limit:Int)=some (⟨[],[]⟩,8):=by
        unfold dH
        rw[vE hok.1.1 hok.1.2,oB,if_neg (by simp),hsb,oB,if_pos (by simp)]
       rw[this]at a1
       simp at a1
      ·intro hnone
       have hsb:=nE (Nat.le_refl 200) (vX hok.2.1 hok.2.2) hc1 hc2 hl1 hl
       rw[hnone]at hsb
       have:dH (iI y.Right) (cls p.Sets) (limit:Int)=some (⟨[],[]⟩,8):=by
        unfold dH
        rw[vE hok.2.1 hok.2.2,oB,if_neg (by simp),hsb,oB,if_pos (by simp)]
       rw[this]at c1
       simp at c1
     ·exact hall y hy
   ·have e2:ay.b2 p (limit:Int) A t n ((i:Int),out)=some (Step.done (none,8)):=by
     rw[e1,a1,oB,if_neg (by simp),b1,oB,if_pos (by simp)]
    exact ⟨fun hall=>absurd b0 (hall x (by simp)).2,fun _=>cV e2⟩
  ·have e2:ay.b2 p (limit:Int) A t n ((i:Int),out)=some (Step.done (none,8)):=by
    rw[e1,b1,oB,if_pos (by simp)]
   exact ⟨fun hall=>absurd b0 (hall x (by simp)).1,fun _=>cV e2⟩
open Classical in
theorem jj:(oV p limit→∃ y,ay p (limit:Int)=some (some y,0)∧MOk p y)∧(¬ oV p limit→∃ e:Int,e≠0∧ay p (limit:Int)=some (none,e)):=by
 have hr:=afG hp.few
 unfold ay
 rw[hr,oB]
 by_cases hR:fW p
 ·rw[decide_eq_true hR,if_neg (by simp),if_neg (by simp;omega),oB,if_neg (by simp;omega)]
  have hG:=fW.good hp hl1 hl hR
  by_cases hF:Fit p.Sets
  ·obtain ⟨A,hA,hnew⟩:=auX hG hF
   obtain ⟨t,ht,hT⟩:=yO hG hF hA
   have hloop:=agY hp hl1 hl hR hF hA (t:=t) (n:=((cls p.Sets).length:Int)) p.Rules 0 rfl [] rfl
   rw[hnew,oB]
   simp only
   rw[if_neg (by simp),ht,oB]
   simp only
   rw[apq hA,oB]
   constructor
   ·intro hC
    obtain ⟨more,g1,g2,g3⟩:=hloop.1 hC.2.2
    exact ⟨_,g3,⟨by simpa using g1,fun k x r hx hr=>g2 k x r hx (by simpa using hr),hT⟩⟩
   ·intro hC
    exact ⟨8,by omega,hloop.2 fun hall=>hC ⟨hR,hF,hall⟩⟩
  ·refine ⟨fun hC=>absurd hC.2.1 hF,fun _=>⟨3,by omega,?_⟩⟩
   rw[alq hG hF,oB]
   simp
 ·refine ⟨fun hC=>absurd hC.1 hR,fun _=>⟨1,by omega,?_⟩⟩
  rw[decide_eq_false hR];rfl
end
end
noncomputable section
def upd {α:Type} (n:Nat) (f g:Nat→α) (j:Nat):List α:=(List.range n).map fun i=>if i < j then g i else f i
section
variable {α:Type} {n:Nat} {f g:Nat→α} {j:Nat}
theorem vb:(upd n f g j).length=n:=by simp[upd]
theorem pt {i:Nat} (h:i < n):(upd n f g j)[i]? =some (if i < j then g i else f i):=by
 unfold upd;rw[List.getElem?_map,List.getElem?_range h];rfl
theorem acR (hj:j < n):(upd n f g j).set j (g j)=upd n f g (j+1):=by
 apply List.ext_getElem?
 intro i
 rw[List.getElem?_set]
 by_cases h:j=i
 ·subst h
  rw[if_pos rfl,if_pos (by rw[vb];exact hj),pt hj,if_pos (by omega)]
 ·rw[if_neg h]
  by_cases hi:i < n
  ·rw[pt hi,pt hi]
   by_cases h2:i < j
   ·rw[if_pos h2,if_pos (by omega)]
   ·rw[if_neg h2,if_neg (by omega)]
  ·rw[gN (by rw[vb];omega),gN (by rw[vb];omega)]
theorem akz (hj:j < n) (h:g j=f j):upd n f g j=upd n f g (j+1):=by
 rw[← acR hj]
 apply List.ext_getElem?
 intro i
 rw[List.getElem?_set]
 by_cases h2:j=i
 ·subst h2
  rw[if_pos rfl,if_pos (by rw[vb];exact hj),pt hj,if_neg (by omega),h]
 ·rw[if_neg h2]
theorem aeg:upd n f g 0=(List.range n).map f:=by unfold upd;simp
theorem akV:upd n f g n=(List.range n).map g:=by
 unfold upd
 apply List.map_congr_left
 intro i hi
 rw[if_pos (List.mem_range.1 hi)]
end
def ff (B:Nat→Bool):Nat→Nat→Int
 | 0,_=> -1
 | d+1,k=>if B k then (k:Int)else ff B d (k+1)
theorem aeB {B B':Nat→Bool}:∀ {d k:Nat},(∀ j,k≤j→j < k+d→B j=B' j)→ff B d k=ff B' d k
 | 0,k,_=>rfl
 | d+1,k,h=>by
  rw[ff,ff,h k (by omega) (by omega),aeB fun j h1 h2=>h j (by omega) (by omega)]
theorem avZ {B:Nat→Bool}:∀ {d k:Nat},ff B d k= -1∨((k:Int)≤ff B d k∧ff B d k < ((k+d:Nat):Int))
 | 0,k=>.inl rfl
 | d+1,k=>by
  rw[ff]
  split
  ·right;omega
  ·rcases avZ (B:=B) (d:=d) (k:=k+1)with h | h
   ·exact .inl h
   ·right;omega
def okT (l:List Int):Prop:=∀ r∈l,inR r
def jk (S:List (List ak)) (l:List Int):List Nat:=l.map (jz S)
def vP (d:fa) (cs:List Nat):Bool:=pj d (rC d.Next 0 cs)
section
variable {S:List (List ak)} (hG:Good S) (hF:Fit S) {y:aS} (hT:IsT S y.trie) {l:List Int} (hl:okT l) (hll:l.length≤1000)
include hG hF hT hl hll
theorem auK:∀ c∈jk S l,c < (cls S).length:=fun c hc=>by
 obtain ⟨r,hr,rfl⟩:=List.mem_map.1 hc
 exact pg hG (hl r hr)
theorem afj {d:fa} (hd:DOk d (cls S).length) {which:Int} {ix:Nat→Nat} {ws:List Int} (hwl:ws.length=l.length) (hws:∀ r∈ws,inR r)
  (h1:∀ v,v≤l.length→dh (v:Int) which l=some (ix v:Int)) (h2:∀ v,v≤l.length→ix v≤l.length∧ix (ix v)=v)
  (h3:∀ v,v < l.length→idx l (mn (ix v:Int) (ix (v+1):Int))=ws[v]?):
  bc y l d which=some ((List.range (l.length+1)).map fun i=>vP d ((jk S ws).take (ix i))):=by
 have hcs:∀ c∈jk S ws,c < (cls S).length:=fun c hc=>by
  obtain ⟨r,hr,rfl⟩:=List.mem_map.1 hc
  exact pg hG (hws r hr)
 have hm:=hF.1
 have hc1:1≤(cls S).length:=List.length_pos_of_mem (wJ hG (r:=0) (by omega) (by omega))
 have hlen:IntKind.i64.wrap ((l.length:Int)+1)=((l.length+1:Nat):Int):=fH (by omega)
 unfold bc
 rw[hlen,ayh (by omega),oB]
 let st:Nat→List Bool×Int×Int:=fun j=>((List.range (l.length+1)).map (fun i=>if ix i < j then vP d ((jk S ws).take (ix i))else false),((rC d.Next 0 ((jk S ws).take j):Nat):Int),(j:Int))
 have hrun:=fc (b:=bc.b1 y l d which) st (i:=0) (n:=l.length+1) (Nat.zero_le _) (fun j _ hj=>by
  simp only[bc.b1,st]
  rw[hlen]
  have hs:rC d.Next 0 ((jk S ws).take j) < d.Next.length:=akq hd hc1 hm hd.some fun c hc=>hcs c (List.mem_of_mem_take hc)
  have hsf:rC d.Next 0 ((jk S ws).take j) < d.Final.length:=by rw[hd.fin];exact hs
  have hfv:d.Final[rC d.Next 0 ((jk S ws).take j)]=vP d ((jk S ws).take j):=by
   unfold vP pj;rw[gD,gE hsf];rfl
  have hj':j≤l.length:=by omega
  have hix:=h2 j hj'
  have hout:∀ (o:List Bool),o.length=l.length+1→ix j < o.length:=fun o ho=>by rw[ho];omega
  have hol:((List.range (l.length+1)).map (fun i=>if ix i < j then vP d ((jk S ws).take (ix i))else false)).length=l.length+1:=by simp
  have hset:((List.range (l.length+1)).map (fun i=>if ix i < j then vP d ((jk S ws).take (ix i))else false)).set (ix j) (vP d ((jk S ws).take j))=(List.range (l.length+1)).map (fun i=>if ix i < j+1 then vP d ((jk S ws).take (ix i))else false):=by
   apply List.ext_getElem?
   intro i
   rw[List.getElem?_set]
   by_cases h:ix j=i
   ·subst h
    rw[if_pos rfl,if_pos (by rw[hol];omega),List.getElem?_map,List.getElem?_range (by omega)]
    simp[hix.2]
   ·rw[if_neg h]
    by_cases hi:i < l.length+1
    ·simp only[List.getElem?_map,List.getElem?_range hi,Option.map_some]
     congr 1
     have hne:ix i≠j:=fun e=>h (by rw[← e];exact (h2 i (by omega)).2)
     by_cases h4:ix i < j
     ·rw[if_pos h4,if_pos (by omega)]
     ·rw[if_neg h4,if_neg (by omega)]
    ·rw[gN (by simp;omega),gN (by simp;omega)]
  rw[if_pos (by simp;omega),gA hsf,oB,h1 j hj',oB,gA (hout _ hol),oB,hfv]
  unfold bc.k2
  rw[fH (by omega),Int.toNat_natCast,hset]
  by_cases hlt:j < l.length
  ·have hwj:j < ws.length:=by omega
   have hr:=hws ws[j] (gM hwj)
   have hcl:=pg hG hr
   have hto:((UInt8.ofNat (jz S ws[j])).toNat:Int)=((jz S ws[j]:Nat):Int):=by
    rw[UInt8.toNat_ofNat',Nat.mod_eq_of_lt (by omega)]
   have hrow:=hd.row _ (gM hs)
   have hcr:jz S ws[j] < d.Next[rC d.Next 0 ((jk S ws).take j)].length:=by rw[hrow.1];exact hcl
   have hnx:d.Next[rC d.Next 0 ((jk S ws).take j)][jz S ws[j]]=((rC d.Next 0 ((jk S ws).take (j+1)):Nat):Int):=by
    have hcj:j < (jk S ws).length:=by unfold jk;rw[List.length_map];exact hwj
    rw[dY hcj,amj hd hc1 hm]
    have e:(jk S ws)[j]=jz S ws[j]:=by simp[jk]
    rw[e]
    unfold nc
    have e2:(d.Next.getD (rC d.Next 0 ((jk S ws).take j)) []).getD (jz S ws[j]) 0=d.Next[rC d.Next 0 ((jk S ws).take j)][jz S ws[j]]:=by
     rw[gD,gD,gE hs,Option.getD_some,gE hcr];rfl
    rw[e2]
    have:=hrow.2 _ (gM hcr)
    omega
   rw[if_pos (by simpa using hlt),gA hs,oB,oB,h1 (j+1) hlt,oB,h3 j hlt,gE hwj,oB,hT _ hr,oB,hto,gA hcr,oB,hnx]
  ·rw[if_neg (by simpa using hlt)]
   have hj2:j=l.length:=by omega
   have e:(jk S ws).take (j+1)=(jk S ws).take j:=by
    have:(jk S ws).length=l.length:=by unfold jk;rw[List.length_map,hwl]
    rw[List.take_of_length_le (by omega),List.take_of_length_le (by omega)]
   rw[e])
 have h0:(List.replicate (Int.toNat ((l.length+1:Nat):Int)) false,(0:Int),(0:Int))=st 0:=by
  show _=(_,_,_)
  simp only[Int.toNat_natCast]
  congr 1
  simp[List.map_const']
 rw[h0,hrun]
 refine bP ?_
 simp only[bc.b1,st]
 rw[hlen,if_neg (by simp)]
 unfold bc.k1
 congr 2
 apply List.map_congr_left
 intro i hi
 rw[if_pos]
 have:=(h2 i (by have:=List.mem_range.1 hi;omega)).1
 omega
theorem anv {d:fa} (hd:DOk d (cls S).length):bc y l d 0=some ((List.range (l.length+1)).map fun i=>vP d ((jk S l).take i)):=
 afj hG hF hT hl hll hd (ix:=fun v=>v) (ws:=l) rfl hl (fun v hv=>rfl) (fun v hv=>⟨hv,rfl⟩) (fun v hv=>by
  have:mn (v:Int) ((v+1:Nat):Int)=(v:Int):=by unfold mn;rw[if_neg (by omega)]
  rw[this,bw])
theorem agm {d:fa} (hd:DOk d (cls S).length):bc y l d 1=some ((List.range (l.length+1)).map fun i=>vP d ((jk S l).drop i).reverse):=by
 rw[afj hG hF hT hl hll hd (which:=1) (ix:=fun v=>l.length - v) (ws:=l.reverse) (by simp) (fun r hr=>hl r (by simpa using hr)) (fun v hv=>by
  unfold dh
  rw[if_pos (by rfl),w64 (by omega) (by omega)]
  congr 1;omega) (fun v hv=>⟨by omega,by omega⟩) (fun v hv=>by
  have:mn ((l.length - v:Nat):Int) ((l.length - (v+1):Nat):Int)=((l.length - (v+1):Nat):Int):=by unfold mn;split <;> omega
  rw[this,bw,List.getElem?_reverse hv]
  congr 1;omega)]
 congr 1
 apply List.map_congr_left
 intro i hi
 have hi':i≤l.length:=by have:=List.mem_range.1 hi;omega
 have hcl:(jk S l).length=l.length:=by unfold jk;rw[List.length_map]
 have e:(jk S l.reverse).take (l.length - i)=((jk S l).drop i).reverse:=by
  have e1:jk S l.reverse=(jk S l).reverse:=by unfold jk;rw[List.map_reverse]
  rw[e1,List.reverse_drop,hcl]
 rw[e]
end
end
noncomputable section
def awV (n:az) (w:List Int):Prop:=∃ u v,w=u++v∧nC qh n u
def arj (S:List (List ak)) (x:iV) (l:List Int) (i:Nat):Prop:=arD x.Left ((l.map (mkI S)).take i)∧awV x.Right ((l.map (mkI S)).drop i)
open Classical in
def isB (p:aW) (l:List Int) (i:Nat) (k:Nat):Bool:=decide (∃ x,p.Rules[k]? =some x∧arj p.Sets x l i)
def lv (p:aW) (l:List Int) (i:Nat):Int:=ff (isB p l i) p.Rules.length 0
theorem adu {p:aW} {l:List Int} {i k:Nat}:isB p l i k=true↔∃ x,p.Rules[k]? =some x∧arj p.Sets x l i:=by
 unfold isB;simp only[decide_eq_true_eq]
theorem aoE {n:az} {w:List Int}:arD (iI n) w.reverse↔awV n w:=by
 unfold arD awV
 constructor
 ·rintro ⟨u,v,e,h⟩
  refine ⟨v.reverse,u.reverse,?_,(zt qh n v).1 h⟩
  rw[← List.reverse_append,← e,List.reverse_reverse]
 ·rintro ⟨u,v,e,h⟩
  refine ⟨v.reverse,u.reverse,by rw[e,List.reverse_append],(zt qh n _).2 (by rw[List.reverse_reverse];exact h)⟩
section
variable {p:aW} (hp:ar3 p) (hR:fW p) (hF:Fit p.Sets) {y:aS} (hM:MOk p y) {l:List Int} (hl:okT l) (hll:l.length≤1000)
include hp hR hF hM hl hll
theorem avr:Good p.Sets:=⟨hR.2.2.1,hR.1,hp.flat⟩
theorem alY:∀ m:List Int,okT m→msk (cls p.Sets) (jk p.Sets m)=m.map (mkI p.Sets):=fun m hm=>by
 have hG:=avr hp hR hF hM hl hll
 unfold msk jk
 rw[List.map_map]
 apply List.map_congr_left
 intro r hr
 have hmem:=wJ hG (r:=r) (hm r hr).1 (hm r hr).2
 show (cls p.Sets).getD (jz p.Sets r) 0=_
 unfold jz
 rw[gD,si hmem];rfl
theorem asV {k:Nat} {x:iV} {r:bA} (hx:p.Rules[k]? =some x) (hr:y.rules[k]? =some r) {i:Nat} (hi:i≤l.length):
  ((vP r.states.v0 ((jk p.Sets l).take i))&&(vP r.states.v1 ((jk p.Sets l).drop i).reverse))=isB p l i k:=by
 have hG:=avr hp hR hF hM hl hll
 obtain ⟨_,⟨_,a2⟩,⟨_,b2⟩⟩:=hM.rule k x r hx hr
 have hcs:∀ c∈jk p.Sets l,c < (cls p.Sets).length:=auK hG hF hM.trie hl hll
 have e1:msk (cls p.Sets) ((jk p.Sets l).take i)=(l.map (mkI p.Sets)).take i:=by
  rw[← alY hp hR hF hM hl hll l hl];unfold msk;rw[List.map_take]
 have e2:msk (cls p.Sets) ((jk p.Sets l).drop i).reverse=((l.map (mkI p.Sets)).drop i).reverse:=by
  rw[← alY hp hR hF hM hl hll l hl];unfold msk;rw[List.map_reverse,List.map_drop]
 rw[Bool.eq_iff_iff,Bool.and_eq_true,adu]
 unfold vP
 rw[a2 _ fun c hc=>hcs c (List.mem_of_mem_take hc),b2 _ fun c hc=>hcs c (List.mem_of_mem_drop (List.mem_reverse.1 hc)),e1,e2,aoE]
 constructor
 ·intro h;exact ⟨x,hx,h⟩
 ·rintro ⟨x',hx',h⟩
  rw[hx]at hx'
  cases hx'
  exact h
theorem aqc {k:Nat} {x:iV} {r:bA} (hx:p.Rules[k]? =some x) (hr:y.rules[k]? =some r) {d:Nat} (hkd:k+(d+1)=p.Rules.length) (out2:List Int) (ho2:out2.length=l.length+1):
  Loop (aq.b2 out2 (k:Int) ((List.range (l.length+1)).map fun i=>vP r.states.v0 ((jk p.Sets l).take i)) ((List.range (l.length+1)).map fun i=>vP r.states.v1 ((jk p.Sets l).drop i).reverse)) ((List.range (l.length+1)).map fun i=>ff (isB p l i) d (k+1),(0:Int))=
   some (Step.next ((List.range (l.length+1)).map fun i=>ff (isB p l i) (d+1) k,IntKind.i64.wrap ((k:Int) - 1))):=by
 have hrun:=fc (b:=aq.b2 out2 (k:Int) ((List.range (l.length+1)).map fun i=>vP r.states.v0 ((jk p.Sets l).take i)) ((List.range (l.length+1)).map fun i=>vP r.states.v1 ((jk p.Sets l).drop i).reverse))
  (fun j=>(upd (l.length+1) (fun i=>ff (isB p l i) d (k+1)) (fun i=>ff (isB p l i) (d+1) k) j,(j:Int))) (i:=0) (n:=l.length+1) (Nat.zero_le _) (fun j _ hj=>by
  simp only[aq.b2]
  have hat:=asV hp hR hF hM hl hll hx hr (i:=j) (by omega)
  rw[if_pos (by rw[ho2];simp;omega),bw,List.getElem?_map,List.getElem?_range hj,Option.map_some,oB,bw,List.getElem?_map,List.getElem?_range hj,Option.map_some]
  generalize vP r.states.v0 ((jk p.Sets l).take j)=u at hat ⊢
  generalize vP r.states.v1 ((jk p.Sets l).drop j).reverse=v at hat ⊢
  unfold aq.k4
  have hset:ff (isB p l j) (d+1) k=if isB p l j k then (k:Int)else ff (isB p l j) d (k+1):=rfl
  have hin:idx (upd (l.length+1) (fun i=>ff (isB p l i) d (k+1)) (fun i=>ff (isB p l i) (d+1) k) j) (j:Int)≠none:=by rw[bw,pt hj];simp
  have yes:isB p l j k=true→(idx (upd (l.length+1) (fun i=>ff (isB p l i) d (k+1)) (fun i=>ff (isB p l i) (d+1) k) j) (j:Int)).bind (fun n=>some (Step.next (List.set (upd (l.length+1) (fun i=>ff (isB p l i) d (k+1)) (fun i=>ff (isB p l i) (d+1) k) j) (Int.toNat (j:Int)) (k:Int),IntKind.i64.wrap ((j:Int)+1))))=some (Step.next (ρ:=Step (List Int×Int) (List Int)) (upd (l.length+1) (fun i=>ff (isB p l i) d (k+1)) (fun i=>ff (isB p l i) (d+1) k) (j+1),((j+1:Nat):Int))):=fun hb=>by
   obtain ⟨n,hn⟩:=Option.ne_none_iff_exists'.1 hin
   have e:ff (isB p l j) (d+1) k=(k:Int):=by rw[hset,hb];rfl
   rw[hn,oB,fH (by omega),Int.toNat_natCast,← acR hj,e]
  have no:isB p l j k=false→(some (Step.next (List.map id (upd (l.length+1) (fun i=>ff (isB p l i) d (k+1)) (fun i=>ff (isB p l i) (d+1) k) j),IntKind.i64.wrap ((j:Int)+1))):Option (Step (List Int×Int) (Step (List Int×Int) (List Int))))=some (Step.next (upd (l.length+1) (fun i=>ff (isB p l i) d (k+1)) (fun i=>ff (isB p l i) (d+1) k) (j+1),((j+1:Nat):Int))):=fun hb=>by
   have e:(fun i=>ff (isB p l i) (d+1) k) j=(fun i=>ff (isB p l i) d (k+1)) j:=by show ff (isB p l j) (d+1) k=ff (isB p l j) d (k+1);rw[hset,hb];rfl
   rw[List.map_id,fH (by omega),akz hj e]
  rw[List.map_id]at no
  cases u with
  | false=>exact no (by rw[← hat];rfl)
  | true=>
   cases v with
   | false=>exact no (by rw[← hat];rfl)
   | true=>exact yes (by rw[← hat];rfl))
 have h0:((List.range (l.length+1)).map fun i=>ff (isB p l i) d (k+1),(0:Int))=(upd (l.length+1) (fun i=>ff (isB p l i) d (k+1)) (fun i=>ff (isB p l i) (d+1) k) 0,((0:Nat):Int)):=by rw[aeg];rfl
 rw[h0]
 refine hrun.trans (bP ?_)
 simp only[aq.b2]
 rw[if_neg (by rw[ho2];simp),akV]
 rfl
theorem aoz:∀ (d k:Nat),k+d=p.Rules.length→Loop (aq.b1 y l) ((List.range (l.length+1)).map fun i=>ff (isB p l i) d k,(k:Int) - 1)=some ((List.range (l.length+1)).map (lv p l)):=by
 intro d k
 induction k generalizing d with
 | zero=>
  intro h
  refine bP ?_
  simp only[aq.b1]
  rw[if_neg (by simp)]
  have:d=p.Rules.length:=by omega
  rw[this];rfl
 | succ k ih=>
  intro h
  have hG:=avr hp hR hF hM hl hll
  have hk:k < p.Rules.length:=by omega
  have hky:k < y.rules.length:=by rw[hM.len];exact hk
  have hrl:=hp.few.rules
  obtain ⟨_,⟨a1,_⟩,⟨b1,_⟩⟩:=hM.rule k _ _ (gE hk) (gE hky)
  have e0:(((k+1:Nat):Int) - 1)=(k:Int):=by omega
  rw[e0]
  have hin:=aqc hp hR hF hM hl hll (gE hk) (gE hky) (d:=d) (by omega) ((List.range (l.length+1)).map fun i=>ff (isB p l i) d (k+1)) (by simp)
  have e:aq.b1 y l ((List.range (l.length+1)).map fun i=>ff (isB p l i) d (k+1),(k:Int))=some (Step.next ((List.range (l.length+1)).map fun i=>ff (isB p l i) (d+1) k,(k:Int) - 1)):=by
   simp only[aq.b1]
   rw[if_pos (by simp),gA hky,oB,anv hG hF hM.trie hl hll a1,oB,agm hG hF hM.trie hl hll b1,oB,hin,w64 (by omega) (by omega)]
  rw[bM e]
  exact ih (d+1) (by omega)
theorem aqn:aq y l=some ((List.range (l.length+1)).map (lv p l)):=by
 have hlen:IntKind.i64.wrap ((l.length:Int)+1)=((l.length+1:Nat):Int):=fH (by omega)
 have hrl:=hp.few.rules
 unfold aq
 rw[hlen,ayh (by omega),oB,Int.toNat_natCast]
 have hrun:=fc (b:=aq.b3 y l) (fun j=>(upd (l.length+1) (fun _=>(0:Int)) (fun _=>(-1:Int)) j,(j:Int))) (i:=0) (n:=l.length+1) (Nat.zero_le _) (fun j _ hj=>by
  simp only[aq.b3]
  rw[hlen,if_pos (by simp;omega),bw,pt hj,oB,fH (by omega),Int.toNat_natCast,← acR hj])
 have h0:(List.replicate (l.length+1) (0:Int),(0:Int))=(upd (l.length+1) (fun _=>(0:Int)) (fun _=>(-1:Int)) 0,((0:Nat):Int)):=by rw[aeg];simp[List.map_const']
 rw[h0]
 refine hrun.trans (bP ?_)
 simp only[aq.b3]
 rw[hlen,if_neg (by simp),akV]
 unfold aq.k1
 have:=aoz hp hR hF hM hl hll 0 p.Rules.length (by omega)
 rw[hM.len,w64 (by omega) (by omega)]
 rw[show (fun i=>ff (isB p l i) 0 p.Rules.length)=fun _:Nat=>(-1:Int) from rfl]at this
 rw[this]
end
end
noncomputable section
def okB (l:List Int):Bool:=l.all fun r=>decide (0≤r)&&decide (r≤1114111)
theorem aa5 {l:List Int}:okB l=true↔okT l:=by
 unfold okB okT inR
 rw[List.all_eq_true]
 constructor
 ·intro h r hr;have:=h r hr;simpa using this
 ·intro h r hr;have:=h r hr;simpa using this
theorem ajX {l:List Int} (hl:l.length≤1000000):kS l=some (okB l):=by
 unfold kS
 rw[apz (f:=iR) (g:=fun r=>decide (r < 0)||decide (r > 1114111)) (fun r _=>rfl) (by omega),oB]
 congr 1
 unfold okB
 rw[List.not_any_eq_all_not]
 congr 1
 funext r
 rw[Bool.eq_iff_iff]
 simp
def brk (p:aW) (l:List Int) (i:Nat):Bool:=decide (i=0)||decide (i=l.length)||decide (lv p l i < 0)||(p.Rules.getD (lv p l i).toNat ⟨false,⟨0,0,[]⟩,⟨0,0,[]⟩⟩).Break
def vS (p:aW) (l:List Int):List Int:=((List.range (l.length+1)).filter (brk p l)).map fun i:Nat=>(i:Int)
theorem apH {p:aW} {l:List Int} {i:Nat}:lv p l i= -1∨(0≤lv p l i∧lv p l i < (p.Rules.length:Int)):=by
 rcases avZ (B:=isB p l i) (d:=p.Rules.length) (k:=0)with h | h
 ·exact .inl h
 ·right;unfold lv;omega
theorem vJ {y:aS} {l:List Int} (hll:l.length≤1000) (h:¬ okT l):aM y l=some []:=by
 unfold aM
 have:okB l=false:=by cases e:okB l with
  | false=>rfl
  | true=>exact absurd (aa5.1 e) h
 rw[ajX (by omega),oB,this];rfl
theorem aey {y:aS} {l:List Int} {i:Int} {a:List Int} (h:aM y l=some a) (hl:a.length≤1000000):cZ y l i=some (a.contains i):=by
 unfold cZ
 rw[h,oB,az5 (by omega)];rfl
theorem ajP {y:aS} {l:List Int} {i:Int} (hll:l.length≤1000) (h:¬ okT l):cZ y l i=some false:=aey (vJ hll h) (by simp)
section
variable {p:aW} (hp:ar3 p) (hR:fW p) (hF:Fit p.Sets) {y:aS} (hM:MOk p y) {l:List Int} (hl:okT l) (hll:l.length≤1000)
include hp hR hF hM hl hll
theorem xD:aM y l=some (vS p l):=by
 unfold aM
 rw[ajX (by omega),oB,aa5.2 hl]
 simp only[Bool.not_true,if_false,Bool.false_eq_true]
 rw[aqn hp hR hF hM hl hll,oB]
 have hrl:=hp.few.rules
 have hrun:=fc (b:=aM.b1 y l ((List.range (l.length+1)).map (lv p l))) (fun j=>(((List.range j).filter (brk p l)).map fun i:Nat=>(i:Int),(j:Int))) (i:=0) (n:=l.length+1) (Nat.zero_le _) (fun j _ hj=>by
  simp only[aM.b1]
  have hj':j≤l.length:=by omega
  rw[if_pos (by simp;omega),bw,List.getElem?_map,List.getElem?_range hj,Option.map_some,oB]
  have hle:(((List.range j).filter (brk p l)).map fun i:Nat=>(i:Int)).length≤j:=by
   rw[List.length_map]
   exact Nat.le_trans (List.length_filter_le _ _) (by simp)
  have hb:(if ((j:Int)==(0:Int))then some true else if ((j:Int)==(l.length:Int))then some true else if (decide (lv p l j < (0:Int)))then some true else (idx y.rules (lv p l j)).bind fun x=>some x.breaks)=some (brk p l j):=by
   unfold brk
   by_cases h1:j=0
   ·subst h1;simp
   ·rw[if_neg (by simpa using h1),decide_eq_false h1]
    by_cases h2:j=l.length
    ·rw[if_pos (by simp;omega),decide_eq_true h2];rfl
    ·rw[if_neg (by simp;omega),decide_eq_false h2]
     by_cases h3:lv p l j < 0
     ·rw[if_pos (by simpa using h3),decide_eq_true h3];rfl
     ·rw[if_neg (by simpa using h3),decide_eq_false h3]
      obtain ⟨k,hk⟩:∃ k:Nat,lv p l j=(k:Int):=⟨(lv p l j).toNat,by omega⟩
      have hkl:k < p.Rules.length:=by
       rcases apH (p:=p) (l:=l) (i:=j)with h | h
       ·omega
       ·omega
      have hky:k < y.rules.length:=by rw[hM.len];exact hkl
      rw[hk,gA hky,oB]
      have:=(hM.rule k _ _ (gE hkl) (gE hky)).1
      rw[this,Int.toNat_natCast,gD,gE hkl]
      rfl
  rw[hb,oB,List.range_succ,List.filter_append,List.map_append]
  cases e:brk p l j with
  | true=>
   rw[if_pos rfl,cL (by omega),oB]
   unfold aM.k2
   rw[fH (by omega)]
   simp[List.filter,e]
  | false=>
   rw[if_neg (by simp)]
   unfold aM.k2
   rw[fH (by omega)]
   simp[List.filter,e])
 refine hrun.trans (bP ?_)
 simp only[aM.b1]
 rw[if_neg (by simp)]
 rfl
theorem wx:(vS p l).length≤l.length+1:=by
 unfold vS
 rw[List.length_map]
 exact Nat.le_trans (List.length_filter_le _ _) (by simp)
theorem apd {i:Nat}:(vS p l).contains (i:Int)=(decide (i≤l.length)&&brk p l i):=by
 rw[Bool.eq_iff_iff,List.contains_iff_mem,Bool.and_eq_true]
 unfold vS
 rw[List.mem_map]
 constructor
 ·rintro ⟨j,hj,e⟩
  obtain rfl:j=i:=by omega
  rw[List.mem_filter,List.mem_range]at hj
  exact ⟨by have:=hj.1;simp;omega,hj.2⟩
 ·rintro ⟨h1,h2⟩
  exact ⟨i,List.mem_filter.2 ⟨List.mem_range.2 (by simp at h1;omega),h2⟩,rfl⟩
theorem apP {i:Nat} (hi:i≤l.length):cZ y l (i:Int)=some (brk p l i):=by
 have h:=wx hp hR hF hM hl hll
 rw[aey (xD hp hR hF hM hl hll) (by omega),apd hp hR hF hM hl hll,decide_eq_true hi];rfl
end
end
def bAt (a:List Bool) (i:Nat):Bool:=a.getD i false
def seg (w:List Int) (i j:Nat):List Int:=(w.drop i).take (j - i)
theorem aep {w:List Int} {i:Nat}:seg w i i=[]:=by simp[seg]
theorem vO {w:List Int} {i j:Nat} (h:i≤j) (hj:j≤w.length):(seg w i j).length=j - i:=by unfold seg;rw[List.length_take,List.length_drop];omega
theorem vU {w:List Int} {i k j:Nat} (h1:i≤k) (h2:k≤j):seg w i j=seg w i k++seg w k j:=by
 unfold seg
 rw[show j - i=(k - i)+(j - k) by omega,List.take_add,List.drop_drop,show i+(k - i)=k by omega]
theorem amv {w u v:List Int} {i j:Nat} (h:i≤j) (hj:j≤w.length) (e:seg w i j=u++v):i+u.length≤j∧seg w i (i+u.length)=u∧seg w (i+u.length) j=v:=by
 have hl:=vO h hj
 rw[e,List.length_append]at hl
 have hk:i+u.length≤j:=by omega
 have h2:=vU (w:=w) (i:=i) (k:=i+u.length) (j:=j) (by omega) hk
 rw[e]at h2
 have hl2:=vO (w:=w) (i:=i) (j:=i+u.length) (by omega) (by omega)
 have h3:=List.append_inj h2 (by rw[hl2];omega)
 exact ⟨hk,h3.1.symm,h3.2.symm⟩
def reach (M:List Int→Prop) (w:List Int) (a:List Bool) (j:Nat):Prop:=∃ i,i≤j∧j≤w.length∧bAt a i=true∧M (seg w i j)
structure gj (M:List Int→Prop) (w:List Int) (a o:List Bool):Prop where
 len:o.length=w.length+1
 iff:∀ j,j≤w.length→(bAt o j=true↔reach M w a j)
section
variable {P Q:List Int→Prop} {w:List Int} {a o o':List Bool}
theorem reach.congr (h:∀ u,P u↔Q u) {j:Nat}:reach P w a j↔reach Q w a j:=
 ⟨fun ⟨i,h1,h2,h3,h4⟩=>⟨i,h1,h2,h3,(h _).1 h4⟩,fun ⟨i,h1,h2,h3,h4⟩=>⟨i,h1,h2,h3,(h _).2 h4⟩⟩
theorem gj.congr (h:∀ u,P u↔Q u) (e:gj P w a o):gj Q w a o:=⟨e.len,fun j hj=>(e.iff j hj).trans (reach.congr h)⟩
theorem gj.nil (h:a.length=w.length+1):gj (fun u=>u=[]) w a a:=by
 refine ⟨h,fun j hj=>⟨fun e=>⟨j,Nat.le_refl _,hj,e,aep⟩,?_⟩⟩
 rintro ⟨i,h1,h2,h3,h4⟩
 have:=vO h1 h2
 rw[h4]at this
 have:i=j:=by simp at this;omega
 rwa[← this]
theorem gj.cat (h1:gj P w a o) (h2:gj Q w o o'):gj (ng P Q) w a o':=by
 refine ⟨h2.len,fun j hj=>(h2.iff j hj).trans ⟨?_,?_⟩⟩
 ·rintro ⟨k,a1,a2,a3,a4⟩
  obtain ⟨i,b1,b2,b3,b4⟩:=(h1.iff k (by omega)).1 a3
  exact ⟨i,by omega,hj,b3,_,_,vU b1 a1,b4,a4⟩
 ·rintro ⟨i,b1,b2,b3,u,v,e,b4,b5⟩
  obtain ⟨c1,c2,c3⟩:=amv b1 b2 e
  refine ⟨i+u.length,c1,hj,(h1.iff _ (by omega)).2 ⟨i,by omega,by omega,b3,by rw[c2];exact b4⟩,by rw[c3];exact b5⟩
theorem gj.none:gj (fun _=>False) w a (List.replicate (w.length+1) false):=by
 refine ⟨by simp,fun j hj=>⟨fun e=>?_,fun ⟨_,_,_,_,h⟩=>h.elim⟩⟩
 unfold bAt at e
 rw[gD,List.getElem?_replicate]at e
 split at e <;> simp at e
def orB (a b:List Bool):List Bool:=(List.range a.length).map fun i=>bAt a i||bAt b i
theorem anq {a b:List Bool}:(orB a b).length=a.length:=by simp[orB]
theorem ann {f:Nat→Bool} {n i:Nat} (h:i < n):bAt ((List.range n).map f) i=f i:=by
 unfold bAt
 rw[gD,List.getElem?_map,List.getElem?_range h];rfl
theorem tq {a b:List Bool} {i:Nat} (h:i < a.length):bAt (orB a b) i=(bAt a i||bAt b i):=ann h
theorem gj.or (h1:gj P w a o) (h2:gj Q w a o'):gj (fun u=>P u∨Q u) w a (orB o o'):=by
 refine ⟨by rw[anq];exact h1.len,fun j hj=>?_⟩
 rw[tq (by rw[h1.len];omega),Bool.or_eq_true,h1.iff j hj,h2.iff j hj]
 constructor
 ·rintro (⟨i,c1,c2,c3,c4⟩ | ⟨i,c1,c2,c3,c4⟩)
  ·exact ⟨i,c1,c2,c3,.inl c4⟩
  ·exact ⟨i,c1,c2,c3,.inr c4⟩
 ·rintro ⟨i,c1,c2,c3,c4 | c4⟩
  ·exact .inl ⟨i,c1,c2,c3,c4⟩
  ·exact .inr ⟨i,c1,c2,c3,c4⟩
structure nI (P:List Int→Prop) (w:List Int) (b out fresh:List Bool):Prop where
 len:out.length=w.length+1
 flen:fresh.length=w.length+1
 says:∀ j,j≤w.length→bAt out j=true→reach (jY P) w b j
 base:∀ j,j≤w.length→bAt b j=true→bAt out j=true
 sub:∀ j,j≤w.length→bAt fresh j=true→bAt out j=true
 step:∀ i j,i≤j→j≤w.length→bAt out i=true→bAt fresh i=false→P (seg w i j)→bAt out j=true
variable {b out fresh nxt:List Bool}
theorem nI.start (h:b.length=w.length+1):nI P w b b b:=
 ⟨h,h,fun j hj e=>⟨j,Nat.le_refl _,hj,e,by rw[aep];exact .nil⟩,fun j hj e=>e,fun j hj e=>e,fun i j _ _ h1 h2 _=>by rw[h1]at h2;cases h2⟩
def azw (out nxt:List Bool):List Bool:=(List.range out.length).map fun i=>bAt nxt i&& !bAt out i
theorem akv {i:Nat} (h:i < out.length):bAt (azw out nxt) i=(bAt nxt i&& !bAt out i):=ann h
theorem nI.next (h:nI P w b out fresh) (hn:gj P w fresh nxt):nI P w b (orB out nxt) (azw out nxt):=by
 have hl:=h.len
 refine ⟨by rw[anq];exact hl,by simp[azw,hl],fun j hj e=>?_,fun j hj e=>?_,fun j hj e=>?_,fun i j hi hj h1 h2 h3=>?_⟩
 ·rw[tq (by omega),Bool.or_eq_true]at e
  rcases e with e | e
  ·exact h.says j hj e
  ·obtain ⟨k,k1,k2,k3,k4⟩:=(hn.iff j hj).1 e
   obtain ⟨i,i1,i2,i3,i4⟩:=h.says k (by omega) (h.sub k (by omega) k3)
   exact ⟨i,by omega,hj,i3,by rw[vU i1 k1];exact i4.app (.one k4)⟩
 ·rw[tq (by omega),h.base j hj e];rfl
 ·rw[akv (by omega)]at e
  rw[tq (by omega)]
  simp at e
  simp[e.1]
 ·rw[tq (by omega)]at h1 ⊢
  rw[akv (by omega)]at h2
  by_cases ho:bAt out i=true
  ·by_cases hf:bAt fresh i=true
   ·rw[(hn.iff j hj).2 ⟨i,hi,hj,hf,h3⟩];simp
   ·rw[h.step i j hi hj ho (by simpa using hf) h3];rfl
  ·simp at ho
   rw[ho]at h1 h2
   simp at h1 h2
   rw[h1]at h2;cases h2
theorem nI.done (h:nI P w b out fresh) (hf:∀ j,j≤w.length→bAt fresh j=false):gj (jY P) w b out:=by
 refine ⟨h.len,fun j hj=>⟨h.says j hj,?_⟩⟩
 have key:∀ u,jY P u→∀ i,i≤j→bAt out i=true→seg w i j=u→bAt out j=true:=by
  intro u hu
  induction hu with
  | nil=>
   intro i hi ho e
   have:=vO hi hj
   rw[e]at this
   have:i=j:=by simp at this;omega
   rwa[← this]
  | cons h1 _ ih=>
   rename_i u v _
   intro i hi ho e
   obtain ⟨c1,c2,c3⟩:=amv hi hj e
   exact ih (i+u.length) c1 (h.step i _ (by omega) (by omega) ho (hf i (by omega)) (by rw[c2];exact h1)) c3
 rintro ⟨i,h1,h2,h3,h4⟩
 exact key _ h4 i h1 (h.base i (by omega) h3) rfl
def outs (a:List Bool):Nat:=a.count false
theorem gj.star {b0:List Bool} (ha:a.length=w.length+1) (h1:gj P w a b0) (h2:gj (jY P) w (orB b0 a) o):gj (jY P) w a o:=by
 refine ⟨h2.len,fun j hj=>(h2.iff j hj).trans ⟨?_,?_⟩⟩
 ·rintro ⟨i,i1,i2,i3,i4⟩
  rw[tq (by rw[h1.len];omega),Bool.or_eq_true]at i3
  rcases i3 with i3 | i3
  ·obtain ⟨k,k1,k2,k3,k4⟩:=(h1.iff i (by omega)).1 i3
   exact ⟨k,by omega,hj,k3,by rw[vU k1 i1];exact .cons k4 i4⟩
  ·exact ⟨i,i1,i2,i3,i4⟩
 ·rintro ⟨i,i1,i2,i3,i4⟩
  exact ⟨i,i1,i2,by rw[tq (by rw[h1.len];omega),i3];simp,i4⟩
end
noncomputable section
theorem nJ {a b:List Int} (ha:a.length≤1000000):bj a b=some (decide (a=b)):=by
 unfold bj
 by_cases hl:a.length=b.length
 ·rw[if_neg (by simp;omega)]
  have hall:=sy (b:=bj.b1 a b) (fun j=>a[j]? =b[j]?) a.length (r:=false) (R:=true) (fun j hj hP=>by
   simp only[bj.b1]
   have hb:j < b.length:=by omega
   rw[gE hj,gE hb]at hP
   rw[if_pos (by simpa using hj),gA hj,oB,gA hb,oB,Option.some.inj hP,if_neg (by simp),fH (by omega)]) (fun j hj hP=>by
   simp only[bj.b1]
   have hb:j < b.length:=by omega
   rw[gE hj,gE hb]at hP
   rw[if_pos (by simpa using hj),gA hj,oB,gA hb,oB,if_pos (by simpa using fun e=>hP (congrArg some e))]) (by
   simp only[bj.b1]
   rw[if_neg (by simp)];rfl)
  by_cases e:a=b
  ·rw[decide_eq_true e]
   exact hall.1 fun j hj=>by rw[e]
  ·rw[decide_eq_false e]
   refine hall.2 fun h=>e (List.ext_getElem? fun j=>?_)
   by_cases hj:j < a.length
   ·exact h j hj
   ·rw[gN (by omega),gN (by omega)]
 ·rw[if_pos (by simp;omega),decide_eq_false (fun e=>hl (by rw[e]))]
section
variable {p:aW} (hp:ar3 p) (hR:fW p) (hF:Fit p.Sets) {l:List Int} (hl:okT l) (hll:l.length≤1000)
include hp hR hF hl hll
end
end
noncomputable section
theorem ak6 {S:List (List ak)} (h:∀ s∈S,∀ x∈s,x.High≤255) {r:Int} (hr:256≤r):mkI S r=0:=by
 have hb:∀ s∈S,hasB s r=false:=fun s hs=>by
  unfold hasB
  rw[List.any_eq_false]
  intro x hx
  have:=h s hs x hx
  simp;omega
 have:∀ k,mY S r k=0:=by
  intro k
  induction k with
  | zero=>rfl
  | succ k ih=>
   rw[mY,ih]
   have:hasB (S.getD k []) r=false:=by
    rw[gD]
    cases e:S[k]? with
    | none=>rfl
    | some s=>exact hb s (List.mem_of_getElem? e)
   rw[this];rfl
 unfold mkI
 rw[this];rfl
theorem akU {S:List (List ak)} (hG:Good S) (h:∀ s∈S,∀ x∈s,x.High≤255) {k:Nat} (h1:1≤k) (hk:k < 4352):cP (prp S) k=cP (prp S) 1:=by
 apply Vector.toList_inj.1
 apply List.ext_getElem?
 intro j
 by_cases hj:j < 256
 ·rw[rS hG hk hj,rS hG (by omega) hj]
  unfold jz
  rw[ak6 h (by omega),ak6 h (by omega)]
 ·rw[gN (by rw[Vector.length_toList];omega),gN (by rw[Vector.length_toList];omega)]
theorem api {S:List (List ak)} (hG:Good S) (h:∀ s∈S,∀ x∈s,x.High≤255) {N:Nat} (hN:N=4352):(firsts (gC (prp S) N)).length≤256:=by
 have:(firsts (gC (prp S) N)).length≤[cP (prp S) 0,cP (prp S) 1].length:=ig mL fun x hx=>by
  rw[eu]at hx
  unfold gC at hx
  obtain ⟨k,hk,rfl⟩:=List.mem_map.1 hx
  have hk:=List.mem_range.1 hk
  rcases Nat.eq_zero_or_pos k with h0 | h0
  ·subst h0;simp
  ·rw[akU hG h h0 (by omega)];simp
 exact Nat.le_trans this (by simp)
theorem aj3 {S:List (List ak)} (hG:Good S) (h:∀ s∈S,∀ x∈s,x.High≤255) (hc:(cls S).length≤200):Fit S:=⟨hc,api hG h zP⟩
theorem aqx:Good uv.Sets:=by
 refine ⟨fun s hs=>?_,by decide,by decide⟩
 have:s=[⟨97,122⟩]:=by simpa[uv]using hs
 subst this
 exact ⟨fun x hx=>by simp at hx;subst hx;unfold Ok;simp,List.pairwise_singleton _ _⟩
theorem aAd:edg uv.Sets=[0,97,123]:=by
 refine nL (eX aqx).2.2.1 (by decide) fun x=>?_
 rw[(eX aqx).2.2.2.1]
 show Edge [⟨97,122⟩] x↔_
 unfold Edge
 simp only[List.mem_cons,List.not_mem_nil,or_false]
 constructor
 ·rintro (h | ⟨y,rfl,h⟩)
  ·exact .inl h
  ·rcases h with h | ⟨_,h⟩
   ·exact .inr (.inl h)
   ·exact .inr (.inr h)
 ·rintro (h | h | h)
  ·exact .inl h
  ·exact .inr ⟨_,rfl,.inl h⟩
  ·exact .inr ⟨_,rfl,.inr ⟨by decide,h⟩⟩
theorem azX:cls uv.Sets=[0,1]:=by unfold cls;rw[aAd];decide
theorem azY:Fit uv.Sets:=aj3 aqx (by decide) (by rw[azX];decide)
theorem art:fW uv:=⟨by decide,by decide,aqx.1,by decide,by decide⟩
theorem az6:ar3 uv:=⟨⟨by decide,by decide,by decide,by decide⟩,by decide⟩
theorem aw6 {s:Int} {masks:List Int} {limit:Nat} (h:(bgo eqL (fun x=>masks.map (nxA (lU (kb s)) x)) limit (limit+1) 0 [[0]] []).isSome=true):xy (kb s) masks limit:=by
 unfold xy
 intro e
 rw[e]at h;cases h
theorem azR:oV uv 100:=by
 refine ⟨art,azY,fun x hx=>?_⟩
 rw[azX]
 have:x=⟨false,kb 0,kb 0⟩:=by simpa[uv]using hx
 subst this
 exact ⟨aw6 (by decide+kernel),aw6 (by decide+kernel)⟩
end
noncomputable section
theorem mT {s:Int} {u:List Int}:nC qh (kb s) u↔∃ c,u=[c]∧qh c s=true:=by
 show nC qh ⟨1,s,[]⟩ u↔_
 rw[nC,if_pos rfl]
theorem zO {s:Int} {w:List Int} {i:Nat} (hi:i≤w.length):arD (kb s) (w.take i)↔∃ j c,i=j+1∧w[j]? =some c∧qh c s=true:=by
 unfold arD
 constructor
 ·rintro ⟨u,v,e,h⟩
  obtain ⟨c,rfl,hc⟩:=mT.1 h
  have hl:(w.take i).length=i:=by rw[List.length_take];omega
  have hl2:(w.take i).length=u.length+1:=by rw[e];simp
  refine ⟨u.length,c,by omega,?_,hc⟩
  have:(w.take i)[u.length]? =some c:=by rw[e];simp
  rw[List.getElem?_take,if_pos (by omega)]at this
  exact this
 ·rintro ⟨j,c,rfl,h,hc⟩
  have hj:j < w.length:=by omega
  refine ⟨w.take j,[c],?_,mT.2 ⟨c,rfl,hc⟩⟩
  rw[List.take_add_one,h];rfl
theorem xU {s:Int} {w:List Int} {i:Nat}:awV (kb s) (w.drop i)↔∃ c,w[i]? =some c∧qh c s=true:=by
 unfold awV
 constructor
 ·rintro ⟨u,v,e,h⟩
  obtain ⟨c,rfl,hc⟩:=mT.1 h
  refine ⟨c,?_,hc⟩
  have:(w.drop i)[0]? =some c:=by rw[e];rfl
  rw[List.getElem?_drop]at this
  simpa using this
 ·rintro ⟨c,h,hc⟩
  have hi:i < w.length:=(List.getElem?_eq_some_iff.1 h).1
  refine ⟨[c],w.drop (i+1),?_,mT.2 ⟨c,rfl,hc⟩⟩
  rw[List.drop_eq_getElem_cons hi]
  rw[gE hi]at h
  rw[Option.some.inj h];rfl
def az3 (p:aW):Prop:=∀ x∈p.Rules,∃ b s t,x=⟨b,kb s,kb t⟩
theorem atI:az3 uv:=fun x hx=>by
 have:x=⟨false,kb 0,kb 0⟩:=by simpa[uv]using hx
 exact ⟨_,_,_,this⟩
def ayv (p:aW) (a b:Int):Int:=ff (fun k=>match p.Rules[k]? with
 | none=>false
 | some x=>qh (mkI p.Sets a) x.Left.Set&&qh (mkI p.Sets b) x.Right.Set) p.Rules.length 0
theorem sr {p:aW} (hN:az3 p) {l:List Int} {j:Nat} {a b:Int} (ha:l[j]? =some a) (hb:l[j+1]? =some b):lv p l (j+1)=ayv p a b:=by
 unfold lv ayv
 have hj:j+1 < l.length:=(List.getElem?_eq_some_iff.1 hb).1
 refine aeB fun k _ hk=>?_
 have hk':k < p.Rules.length:=by omega
 rw[Bool.eq_iff_iff,adu,gE hk']
 obtain ⟨br,s,t,hx⟩:=hN _ (gM hk')
 rw[hx]
 show (∃ x,some (⟨br,kb s,kb t⟩:iV)=some x∧arj p.Sets x l (j+1))↔(qh (mkI p.Sets a) s&&qh (mkI p.Sets b) t)=true
 rw[Bool.and_eq_true]
 constructor
 ·rintro ⟨x,hx,h1,h2⟩
  cases hx
  obtain ⟨j',c,e,h3,h4⟩:=(zO (by simp;omega)).1 h1
  obtain ⟨d,h5,h6⟩:=xU.1 h2
  obtain rfl:j=j':=by omega
  rw[List.getElem?_map,ha]at h3
  rw[List.getElem?_map,hb]at h5
  cases h3;cases h5
  exact ⟨h4,h6⟩
 ·rintro ⟨h1,h2⟩
  refine ⟨_,rfl,(zO (by simp;omega)).2 ⟨j,_,rfl,by rw[List.getElem?_map,ha];rfl,h1⟩,xU.2 ⟨_,by rw[List.getElem?_map,hb];rfl,h2⟩⟩
theorem awd {l:List Int} (h:okB l=true):okT l:=aa5.1 h
theorem aAp:vS uv [97,98,32,99]=[0,2,3,4]:=by
 have b0:brk uv [97,98,32,99] 0=true:=rfl
 have b4:brk uv [97,98,32,99] 4=true:=by unfold brk;simp
 have b1:brk uv [97,98,32,99] 1=false:=by
  unfold brk
  rw[sr atI (j:=0) (a:=97) (b:=98) rfl rfl]
  decide+kernel
 have b2:brk uv [97,98,32,99] 2=true:=by
  unfold brk
  rw[sr atI (j:=1) (a:=98) (b:=32) rfl rfl]
  decide+kernel
 have b3:brk uv [97,98,32,99] 3=true:=by
  unfold brk
  rw[sr atI (j:=2) (a:=32) (b:=99) rfl rfl]
  decide+kernel
 unfold vS
 have:List.range (([97,98,32,99]:List Int).length+1)=[0,1,2,3,4]:=by decide
 rw[this]
 simp[List.filter,b0,b1,b2,b3,b4]
theorem aud:eh=some true:=by
 unfold eh
 obtain ⟨y,hy,hM⟩:=(jj az6 (limit:=100) (by omega) (by omega)).1 azR
 have hp:dJ ayN=some (uv,0,0):=rfl
 have hr:dL avO=some [97,98,32,99]:=rfl
 have hA:=xD az6 art azY hM (l:=[97,98,32,99]) (awd (by decide)) (by simp)
 rw[aAp]at hA
 show (dJ ayN).bind _=_
 rw[hp,oB]
 simp only
 rw[show (100:Int)=((100:Nat):Int) from rfl,hy,oB]
 simp only
 rw[if_pos (by rfl),if_pos (by rfl)]
 show ((dL avO).bind _).bind _=_
 rw[hr,oB,hA,oB,nJ (by simp)]
 rfl
end
noncomputable section
theorem aoD {l:List (List ak)} {m:Nat} (h:∀ s∈l,s.length≤m):l.flatten.length≤l.length*m:=by
 induction l with
 | nil=>simp
 | cons s l ih=>
  have h1:=h s (by simp)
  have h2:=ih fun t ht=>h t (List.mem_cons_of_mem _ ht)
  rw[List.flatten_cons,List.length_append,List.length_cons,Nat.succ_mul]
  omega
theorem avN.toC {p:aW} (h:avN p):ar3 p:=⟨h.few,by
 have h1:=aoD h.each
 have h2:=h.sets
 have:p.Sets.length*8≤64:=by omega
 omega⟩
end
noncomputable section
def we:aW:=⟨[],[]⟩
def zS (p:aW) (is:Bool):aW:=⟨p.Sets,⟨is,nd,nd⟩::p.Rules⟩
theorem axB:Good we.Sets:=⟨fun s hs=>(by cases hs),by decide,by decide⟩
theorem aze:Fit we.Sets:=aj3 axB (fun s hs=>(by cases hs)) (by
 have h1:=(eX axB).2.2.2.2
 have h2:=tN (l:=(edg we.Sets).map (mkI we.Sets))
 rw[List.length_map]at h2
 have h3:we.Sets.flatten.length=0:=rfl
 show (firsts ((edg we.Sets).map (mkI we.Sets))).length≤200
 omega)
theorem alc:fW we:=⟨by decide,by decide,fun s hs=>(by cases hs),by decide,rfl⟩
theorem azn:ar3 we:=⟨⟨by decide,by decide,fun s hs=>(by cases hs),fun s hs=>(by cases hs)⟩,by decide⟩
theorem ayU:oV we 40:=⟨alc,aze,fun x hx=>(by cases hx)⟩
theorem azv (n:Nat):lr n nd 0 0=true:=by
 rw[ro];rfl
theorem ayf {n:Nat} {is:Bool} {l:List iV}:mv n (⟨is,nd,nd⟩::l) 0=mv n l 0:=by
 rw[mv]
 show (if lr n nd 0 0&&lr n nd 0 0 then _ else _)=_
 rw[azv,if_pos (by rfl)]
 rfl
section
variable {p:aW} (h:avN p) {is:Bool}
include h
theorem aAn:ar3 (zS p is):=by
 have hp:=h.toC
 refine ⟨⟨hp.few.sets,by have:=h.rules;simp[zS];omega,hp.few.each,fun r hr=>?_⟩,hp.flat⟩
 rcases List.mem_cons.1 hr with rfl | hr
 ·exact ⟨show dn nd < 150 by decide,show dn nd < 150 by decide⟩
 ·exact hp.few.nodes r hr
theorem ayo:fW (zS p is)↔fW p:=by
 have hr:=h.rules
 unfold fW zS
 simp only[ayf]
 constructor
 ·rintro ⟨h1,h2,h3⟩;exact ⟨h1,by omega,h3⟩
 ·rintro ⟨h1,h2,h3⟩;exact ⟨h1,by simp;omega,h3⟩
theorem axz:oV (zS p is) 40↔oV p 40:=by
 unfold oV
 rw[ayo h]
 constructor
 ·rintro ⟨h1,h2,h3⟩;exact ⟨h1,h2,fun x hx=>h3 x (List.mem_cons_of_mem _ hx)⟩
 ·rintro ⟨h1,h2,h3⟩
  refine ⟨h1,h2,fun x hx=>?_⟩
  rcases List.mem_cons.1 hx with rfl | hx
  ·exact ⟨xm (by omega),xm (by omega)⟩
  ·exact h3 x hx
end
theorem azr {S:List (List ak)} {is:Bool} {l:List Int} {i:Nat}:arj S ⟨is,nd,nd⟩ l i:=by
 have hL:nC qh nd []:=by
  show nC qh ⟨0,0,[]⟩ []
  rw[nC,if_neg (by decide),if_pos rfl,aed]
 exact ⟨⟨(l.map (mkI S)).take i,[],by simp,hL⟩,⟨[],(l.map (mkI S)).drop i,by simp,hL⟩⟩
theorem awz {p:aW} {is:Bool} {l:List Int} {i:Nat}:lv (zS p is) l i=0:=by
 unfold lv
 have:(zS p is).Rules.length=p.Rules.length+1:=rfl
 rw[this,ff,if_pos]
 ·rfl
 ·exact adu.2 ⟨_,rfl,azr⟩
theorem au2 {p:aW} {is:Bool} {l:List Int} {i:Nat}:brk (zS p is) l i=(decide (i=0)||decide (i=l.length)||is):=by
 unfold brk
 rw[awz]
 simp[zS]
theorem ayZ {l:List Int} {i:Nat}:brk we l i=true:=by
 unfold brk
 have:lv we l i= -1:=rfl
 rw[this]
 simp
theorem asC {l:List Int}:vS we l=(List.range (l.length+1)).map fun i:Nat=>(i:Int):=by
 unfold vS
 rw[List.filter_eq_self.2 fun i _=>ayZ]
theorem azp {p:aW} {l:List Int}:vS (zS p true) l=vS we l:=by
 rw[asC]
 unfold vS
 rw[List.filter_eq_self.2 fun i _=>by rw[au2];simp]
theorem azu {p:aW} {l:List Int}:((vS (zS p false) l).length:Int)=mn (((vS we l).length:Nat):Int) 2:=by
 rw[asC]
 unfold vS
 rw[List.length_map,List.length_map,List.length_range,an8]
 have hf:(List.range (l.length+1)).filter (brk (zS p false) l)=(List.range (l.length+1)).filter fun i=>decide (i=0)||decide (i=l.length):=by
  congr 1
  funext i
  rw[au2];simp
 rw[hf]
 by_cases h0:l.length=0
 ·rw[h0];decide
 ·have hperm:((List.range (l.length+1)).filter fun i=>decide (i=0)||decide (i=l.length)).Perm [0,l.length]:=by
   refine (List.perm_ext_iff_of_nodup (List.nodup_range.filter _) (by simp;omega)).2 fun i=>?_
   rw[List.mem_filter,List.mem_range]
   simp
   omega
  rw[hperm.length_eq]
  simp
  omega
theorem wF (p:aW) (l:List Int) (is:Bool):av p l is=some true:=by
 unfold av
 obtain ⟨b,hb,hfew⟩:=av5 p
 rw[aud,oB,hb,oB]
 split
 ·rfl
 rename_i hc
 simp at hc
 obtain ⟨rfl,hlen⟩:=hc
 have hR:=hfew rfl
 have hp:=hR.toC
 have hpf:=aAn hR (is:=is)
 have hrl:=hR.rules
 rw[cL (by omega),oB]
 obtain ⟨n,hn,hME⟩:=(jj azn (limit:=40) (by omega) (by omega)).1 ayU
 show (ay (zS p is) ((40:Nat):Int)).bind _=_
 classical
 by_cases hC:oV p 40
 ·have hCF:=(axz hR (is:=is)).2 hC
  obtain ⟨x,hx,hMX⟩:=(jj hp (limit:=40) (by omega) (by omega)).1 hC
  obtain ⟨y,hy,hMY⟩:=(jj hpf (limit:=40) (by omega) (by omega)).1 hCF
  rw[hy,oB]
  simp only
  rw[show (40:Int)=((40:Nat):Int) from rfl,hx,oB]
  simp only
  rw[show (⟨[],[]⟩:aW)=we from rfl,hn,oB]
  simp only
  rw[if_neg (by simp),if_neg (by simp)]
  by_cases hl:okT l
  ·have aE:=xD azn alc aze hME hl (by omega)
   have aX:=xD hp hC.1 hC.2.1 hMX hl (by omega)
   have aY:=xD hpf hCF.1 hCF.2.1 hMY hl (by omega)
   have lE:=wx azn alc aze hME hl (by omega)
   have lX:=wx hp hC.1 hC.2.1 hMX hl (by omega)
   rw[aY,oB,aE,oB]
   cases is with
   | true=>
    rw[if_pos rfl,azp,nJ (by omega)];simp
   | false=>
    rw[if_neg (by simp)]
    have hend:av.k2 l x (vS (zS p false) l) (vS we l)=some true:=by
     unfold av.k2
     rw[if_pos (by rw[azu];simp),aX,oB,asC]
     simp;omega
    have hfin:Loop (av.b2 l y x (vS (zS p false) l) (vS we l)) (((max 1 l.length:Nat)):Int)=some true:=by
     refine bP ?_
     simp only[av.b2]
     rw[if_neg (by simp;omega),hend]
    refine (oP (i:=1) (n:=max 1 l.length) (by omega) fun i h1 hi=>?_).trans hfin
    simp only[av.b2]
    have hil:i < l.length:=by omega
    rw[if_pos (by simpa using hil),apP hpf hCF.1 hCF.2.1 hMY hl (by omega) (by omega),au2,oB,decide_eq_false (by omega),decide_eq_false (by omega),if_neg (by simp),fH (by omega)]
  ·rw[vJ (by omega) hl,oB,vJ (by omega) hl,oB]
   cases is with
   | true=>rw[if_pos rfl,nJ (by simp)];rfl
   | false=>
    rw[if_neg (by simp)]
    have hfin:Loop (av.b2 l y x [] []) (((max 1 l.length:Nat)):Int)=some true:=by
     refine bP ?_
     simp only[av.b2]
     rw[if_neg (by simp;omega)]
     unfold av.k2
     rw[if_pos (by rfl),vJ (by omega) hl];rfl
    refine (oP (i:=1) (n:=max 1 l.length) (by omega) fun i h1 hi=>?_).trans hfin
    simp only[av.b2]
    have hil:i < l.length:=by omega
    rw[if_pos (by simpa using hil),ajP (by omega) hl,oB,if_neg (by simp),fH (by omega)]
 ·have hCF:¬ oV (zS p is) 40:=fun h=>hC ((axz hR).1 h)
  obtain ⟨e,he,hx⟩:=(jj hp (limit:=40) (by omega) (by omega)).2 hC
  obtain ⟨f,hf,hy⟩:=(jj hpf (limit:=40) (by omega) (by omega)).2 hCF
  rw[hy,oB]
  simp only
  rw[show (40:Int)=((40:Nat):Int) from rfl,hx,oB]
  simp only
  rw[show (⟨[],[]⟩:aW)=we from rfl,hn,oB]
  simp only
  rw[if_neg (by
   have h1:(f==(0:Int))=false:=by simpa using hf
   have h2:(e==(0:Int))=false:=by simpa using he
   rw[h1,h2];decide),if_pos (by simpa using hf)]
end
end Go.Val

/- A value semantics of the model's programs, sound against it, and functions read off the given program with the proofs that it runs so; no condition. -/
import Derived.Test.YtmfelmglmhjggaaGreatOwnF
set_option linter.all false
set_option linter.unnecessarySimpa false
set_option linter.unusedVariables false
set_option linter.unusedSimpArgs false
namespace Go.Val
inductive Star (P:List Int→Prop):List Int→Prop
 | nil:Star P []
 | cons {u v:List Int}:P u→Star P v→Star P (u++v)
def CatP (P Q:List Int→Prop) (w:List Int):Prop:=∃ u v,w=u++v∧P u∧Q v
theorem CatP.congr {P P' Q Q':List Int→Prop} (h1:∀ w,P w↔P' w) (h2:∀ w,Q w↔Q' w) (w:List Int):CatP P Q w↔CatP P' Q' w:=
 ⟨fun ⟨u,v,e,a,b⟩=>⟨u,v,e,(h1 u).1 a,(h2 v).1 b⟩,fun ⟨u,v,e,a,b⟩=>⟨u,v,e,(h1 u).2 a,(h2 v).2 b⟩⟩
theorem CatP.assoc {P Q R:List Int→Prop} {w:List Int}:CatP (CatP P Q) R w↔CatP P (CatP Q R) w:=by
 constructor
 ·rintro ⟨_,v,rfl,⟨a,b,rfl,ha,hb⟩,hv⟩
  exact ⟨a,b++v,by simp,ha,b,v,rfl,hb,hv⟩
 ·rintro ⟨a,_,rfl,ha,b,v,rfl,hb,hv⟩
  exact ⟨a++b,v,by simp,⟨a,b,rfl,ha,hb⟩,hv⟩
theorem CatP.nilL {Q:List Int→Prop} {w:List Int}:CatP (fun u=>u=[]) Q w↔Q w:=
 ⟨fun ⟨u,v,e,a,b⟩=>by subst a;simpa[e]using b,fun h=>⟨[],w,rfl,rfl,h⟩⟩
theorem CatP.nilR {Q:List Int→Prop} {w:List Int}:CatP Q (fun u=>u=[]) w↔Q w:=
 ⟨fun ⟨u,v,e,a,b⟩=>by subst b;simpa[e]using a,fun h=>⟨w,[],by simp,h,rfl⟩⟩
theorem Star.mono {P Q:List Int→Prop} (h:∀ w,P w→Q w) {w:List Int} (hs:Star P w):Star Q w:=by
 induction hs with
 | nil=>exact .nil
 | cons a _ ih=>exact .cons (h _ a) ih
theorem Star.congr {P Q:List Int→Prop} (h:∀ w,P w↔Q w) (w:List Int):Star P w↔Star Q w:=⟨Star.mono fun w=>(h w).1,Star.mono fun w=>(h w).2⟩
theorem Star.app {P:List Int→Prop} {u v:List Int} (h1:Star P u) (h2:Star P v):Star P (u++v):=by
 induction h1 with
 | nil=>exact h2
 | cons a _ ih=>rw[List.append_assoc];exact .cons a ih
theorem Star.one {P:List Int→Prop} {u:List Int} (h:P u):Star P u:=by have:=Star.cons h Star.nil;rwa[List.append_nil]at this
theorem Star.head {P:List Int→Prop} {w:List Int} (h:Star P w):w=[]∨∃ a u v,w=a::(u++v)∧P (a::u)∧Star P v:=by
 induction h with
 | nil=>exact .inl rfl
 | @cons u v hu hv ih=>
  cases u with
  | nil=>exact ih
  | cons a u=>exact .inr ⟨a,u,v,rfl,hu,hv⟩
theorem Star.rev {P Q:List Int→Prop} (h:∀ w,P w→Q w.reverse) {w:List Int} (hs:Star P w):Star Q w.reverse:=by
 induction hs with
 | nil=>exact .nil
 | cons a _ ih=>rw[List.reverse_append];exact ih.app (.one (h _ a))
section
variable (hit:Int→Int→Bool)
mutual
def Lang:aE→List Int→Prop
 | ⟨k,s,l⟩=>if k=1 then fun u=>∃ a,u=[a]∧hit a s=true
   else if k=0 then LCat l else if k=2 then LAlt l
   else if k=5 then fun u=>u=[]∨LOne l u
   else if k=4 then CatP (LOne l) (Star (LOne l))else Star (LOne l)
def LCat:List aE→List Int→Prop
 | []=>fun w=>w=[]
 | x::l=>CatP (Lang x) (LCat l)
def LAlt:List aE→List Int→Prop
 | []=>fun _=>False
 | x::l=>fun w=>Lang x w∨LAlt l w
def LOne:List aE→List Int→Prop
 | []=>fun _=>False
 | x::_=>Lang x
end
end
mutual
def gS:aE→aE
 | ⟨k,s,l⟩=>⟨k,s,if k=0 then (lf l).reverse else lf l⟩
def lf:List aE→List aE
 | []=>[]
 | x::l=>gS x::lf l
end
structure PA where
 null:Prop
 first:Int→Prop
 last:Int→Prop
 E:Int→Int→Prop
section
variable (lab:Int→Int→Prop)
def PA.Acc (X:PA):Int→List Int→Prop
 | p,[]=>X.last p
 | p,a::v=>∃ q,X.E p q∧lab q a∧PA.Acc X q v
def PA.L (X:PA):List Int→Prop
 | []=>X.null
 | a::v=>∃ p,X.first p∧lab p a∧X.Acc lab p v
end
structure PA.In (X:PA) (lo hi:Int):Prop where
 first:∀ p,X.first p→lo < p∧p≤hi
 last:∀ p,X.last p→lo < p∧p≤hi
 E:∀ p q,X.E p q→(lo < p∧p≤hi)∧(lo < q∧q≤hi)
def PA.then_ (X Y:PA):PA:=⟨X.null∧Y.null,fun p=>X.first p∨X.null∧Y.first p,fun p=>Y.last p∨Y.null∧X.last p,fun p q=>(X.E p q∨Y.E p q)∨X.last p∧Y.first q⟩
def PA.or_ (X Y:PA):PA:=⟨X.null∨Y.null,fun p=>X.first p∨Y.first p,fun p=>X.last p∨Y.last p,fun p q=>X.E p q∨Y.E p q⟩
def PA.more (X:PA):PA:=⟨X.null,X.first,X.last,fun p q=>X.E p q∨X.last p∧X.first q⟩
section
variable {lab:Int→Int→Prop} {X Y:PA} {a b c:Int}
theorem jI (hX:X.In a b) (hY:Y.In b c):∀ (w:List Int) (q:Int),b < q→((X.then_ Y).Acc lab q w↔Y.Acc lab q w)
 | [],q,h=>by
  simp only[PA.Acc,PA.then_]
  constructor
  ·rintro (h1 | ⟨_,h1⟩)
   ·exact h1
   ·have:=hX.last _ h1;omega
  ·exact .inl
 | s::w,q,h=>by
  simp only[PA.Acc]
  constructor
  ·rintro ⟨r,(h1 | h1) | ⟨h1,_⟩,h2,h3⟩
   ·have:=(hX.E _ _ h1).1;omega
   ·exact ⟨r,h1,h2,(jI hX hY w r (hY.E _ _ h1).2.1).1 h3⟩
   ·have:=hX.last _ h1;omega
  ·rintro ⟨r,h1,h2,h3⟩
   exact ⟨r,.inl (.inr h1),h2,(jI hX hY w r (hY.E _ _ h1).2.1).2 h3⟩
theorem mZ (hX:X.In a b) (hY:Y.In b c):∀ (w:List Int) (p:Int),p≤b→((X.then_ Y).Acc lab p w↔CatP (X.Acc lab p) (Y.L lab) w)
 | [],p,h=>by
  simp only[PA.Acc,PA.then_]
  constructor
  ·rintro (h1 | ⟨h1,h2⟩)
   ·have:=hY.last _ h1;omega
   ·exact ⟨[],[],rfl,h2,h1⟩
  ·rintro ⟨u,v,e,h1,h2⟩
   obtain ⟨rfl,rfl⟩:=List.append_eq_nil_iff.1 e.symm
   exact .inr ⟨h2,h1⟩
 | s::w,p,h=>by
  simp only[PA.Acc]
  constructor
  ·rintro ⟨r,(h1 | h1) | ⟨h1,h4⟩,h2,h3⟩
   ·obtain ⟨u,v,rfl,g1,g2⟩:=(mZ hX hY w r (hX.E _ _ h1).2.2).1 h3
    exact ⟨s::u,v,rfl,⟨r,h1,h2,g1⟩,g2⟩
   ·have:=(hY.E _ _ h1).1;omega
   ·exact ⟨[],s::w,rfl,h1,r,h4,h2,(jI hX hY w r (hY.first _ h4).1).1 h3⟩
  ·rintro ⟨u,v,e,h1,h2⟩
   cases u with
   | nil=>
    simp only[List.nil_append]at e
    subst e
    obtain ⟨r,g1,g2,g3⟩:=h2
    exact ⟨r,.inr ⟨h1,g1⟩,g2,(jI hX hY w r (hY.first _ g1).1).2 g3⟩
   | cons s' u=>
    simp only[List.cons_append,List.cons.injEq]at e
    obtain ⟨rfl,rfl⟩:=e
    obtain ⟨r,g1,g2,g3⟩:=h1
    exact ⟨r,.inl (.inl g1),g2,(mZ hX hY _ r (hX.E _ _ g1).2.2).2 ⟨u,v,rfl,g3,h2⟩⟩
theorem auD (hX:X.In a b) (hY:Y.In b c) (w:List Int):(X.then_ Y).L lab w↔CatP (X.L lab) (Y.L lab) w:=by
 cases w with
 | nil=>
  simp only[PA.L,PA.then_]
  constructor
  ·rintro ⟨h1,h2⟩;exact ⟨[],[],rfl,h1,h2⟩
  ·rintro ⟨u,v,e,h1,h2⟩
   obtain ⟨rfl,rfl⟩:=List.append_eq_nil_iff.1 e.symm
   exact ⟨h1,h2⟩
 | cons s w=>
  simp only[PA.L]
  constructor
  ·rintro ⟨p,h1 | ⟨h0,h1⟩,h2,h3⟩
   ·obtain ⟨u,v,rfl,g1,g2⟩:=(mZ hX hY w p (hX.first _ h1).2).1 h3
    exact ⟨s::u,v,rfl,⟨p,h1,h2,g1⟩,g2⟩
   ·exact ⟨[],s::w,rfl,h0,p,h1,h2,(jI hX hY w p (hY.first _ h1).1).1 h3⟩
  ·rintro ⟨u,v,e,h1,h2⟩
   cases u with
   | nil=>
    simp only[List.nil_append]at e
    subst e
    obtain ⟨p,g1,g2,g3⟩:=h2
    exact ⟨p,.inr ⟨h1,g1⟩,g2,(jI hX hY w p (hY.first _ g1).1).2 g3⟩
   | cons s' u=>
    simp only[List.cons_append,List.cons.injEq]at e
    obtain ⟨rfl,rfl⟩:=e
    obtain ⟨p,g1,g2,g3⟩:=h1
    exact ⟨p,.inl g1,g2,(mZ hX hY _ p (hX.first _ g1).2).2 ⟨u,v,rfl,g3,h2⟩⟩
theorem ap4 (hX:X.In a b) (hY:Y.In b c) (hab:a≤b) (hbc:b≤c):(X.then_ Y).In a c:=by
 refine ⟨fun p h=>?_,fun p h=>?_,fun p q h=>?_⟩
 ·rcases h with h | ⟨_,h⟩
  ·have:=hX.first _ h;omega
  ·have:=hY.first _ h;omega
 ·rcases h with h | ⟨_,h⟩
  ·have:=hY.last _ h;omega
  ·have:=hX.last _ h;omega
 ·rcases h with (h | h) | ⟨h1,h2⟩
  ·have:=hX.E _ _ h;omega
  ·have:=hY.E _ _ h;omega
  ·have:=hX.last _ h1;have:=hY.first _ h2;omega
theorem pa (hX:X.In a b) (hY:Y.In b c):∀ (w:List Int) (p:Int),((X.or_ Y).Acc lab p w↔X.Acc lab p w∧p≤b∨Y.Acc lab p w∧b < p)
 | [],p=>by
  simp only[PA.Acc,PA.or_]
  constructor
  ·rintro (h | h)
   ·exact .inl ⟨h,(hX.last _ h).2⟩
   ·exact .inr ⟨h,(hY.last _ h).1⟩
  ·rintro (h | h)
   ·exact .inl h.1
   ·exact .inr h.1
 | s::w,p=>by
  simp only[PA.Acc]
  constructor
  ·rintro ⟨q,h1 | h1,h2,h3⟩
   ·rcases (pa hX hY w q).1 h3 with ⟨h4,_⟩ | ⟨_,h4⟩
    ·exact .inl ⟨⟨q,h1,h2,h4⟩,(hX.E _ _ h1).1.2⟩
    ·have:=(hX.E _ _ h1).2;omega
   ·rcases (pa hX hY w q).1 h3 with ⟨_,h4⟩ | ⟨h4,_⟩
    ·have:=(hY.E _ _ h1).2;omega
    ·exact .inr ⟨⟨q,h1,h2,h4⟩,(hY.E _ _ h1).1.1⟩
  ·rintro (⟨⟨q,h1,h2,h3⟩,_⟩ | ⟨⟨q,h1,h2,h3⟩,_⟩)
   ·exact ⟨q,.inl h1,h2,(pa hX hY w q).2 (.inl ⟨h3,(hX.E _ _ h1).2.2⟩)⟩
   ·exact ⟨q,.inr h1,h2,(pa hX hY w q).2 (.inr ⟨h3,(hY.E _ _ h1).2.1⟩)⟩
theorem or_L (hX:X.In a b) (hY:Y.In b c) (w:List Int):(X.or_ Y).L lab w↔X.L lab w∨Y.L lab w:=by
 cases w with
 | nil=>exact Iff.rfl
 | cons s w=>
  simp only[PA.L]
  constructor
  ·rintro ⟨p,h1 | h1,h2,h3⟩
   ·rcases (pa hX hY w p).1 h3 with ⟨h4,_⟩ | ⟨_,h4⟩
    ·exact .inl ⟨p,h1,h2,h4⟩
    ·have:=hX.first _ h1;omega
   ·rcases (pa hX hY w p).1 h3 with ⟨_,h4⟩ | ⟨h4,_⟩
    ·have:=hY.first _ h1;omega
    ·exact .inr ⟨p,h1,h2,h4⟩
  ·rintro (⟨p,h1,h2,h3⟩ | ⟨p,h1,h2,h3⟩)
   ·exact ⟨p,.inl h1,h2,(pa hX hY w p).2 (.inl ⟨h3,(hX.first _ h1).2⟩)⟩
   ·exact ⟨p,.inr h1,h2,(pa hX hY w p).2 (.inr ⟨h3,(hY.first _ h1).1⟩)⟩
theorem awL (hX:X.In a b) (hY:Y.In b c) (hab:a≤b) (hbc:b≤c):(X.or_ Y).In a c:=by
 refine ⟨fun p h=>?_,fun p h=>?_,fun p q h=>?_⟩
 ·rcases h with h | h
  ·have:=hX.first _ h;omega
  ·have:=hY.first _ h;omega
 ·rcases h with h | h
  ·have:=hX.last _ h;omega
  ·have:=hY.last _ h;omega
 ·rcases h with h | h
  ·have:=hX.E _ _ h;omega
  ·have:=hY.E _ _ h;omega
theorem kI:∀ (w:List Int) (p:Int),(X.more.Acc lab p w↔CatP (X.Acc lab p) (Star (X.L lab)) w)
 | [],p=>by
  simp only[PA.Acc,PA.more]
  constructor
  ·intro h;exact ⟨[],[],rfl,h,.nil⟩
  ·rintro ⟨u,v,e,h1,h2⟩
   obtain ⟨rfl,rfl⟩:=List.append_eq_nil_iff.1 e.symm
   exact h1
 | s::w,p=>by
  simp only[PA.Acc]
  constructor
  ·rintro ⟨q,h1 | ⟨h0,h1⟩,h2,h3⟩
   ·obtain ⟨u,v,rfl,g1,g2⟩:=(kI w q).1 h3
    exact ⟨s::u,v,rfl,⟨q,h1,h2,g1⟩,g2⟩
   ·obtain ⟨u,v,rfl,g1,g2⟩:=(kI w q).1 h3
    exact ⟨[],s::(u++v),rfl,h0,Star.cons (u:=s::u) ⟨q,h1,h2,g1⟩ g2⟩
  ·rintro ⟨u,v,e,h1,h2⟩
   cases u with
   | nil=>
    simp only[List.nil_append]at e
    subst e
    rcases h2.head with e | ⟨a,u,v,e,⟨q,g1,g2,g3⟩,g4⟩
    ·cases e
    ·simp only[List.cons.injEq]at e
     obtain ⟨rfl,rfl⟩:=e
     exact ⟨q,.inr ⟨h1,g1⟩,g2,(kI _ q).2 ⟨u,v,rfl,g3,g4⟩⟩
   | cons s' u=>
    simp only[List.cons_append,List.cons.injEq]at e
    obtain ⟨rfl,rfl⟩:=e
    obtain ⟨q,g1,g2,g3⟩:=h1
    exact ⟨q,.inl g1,g2,(kI _ q).2 ⟨u,v,rfl,g3,h2⟩⟩
theorem auk (w:List Int):X.more.L lab w↔CatP (X.L lab) (Star (X.L lab)) w:=by
 cases w with
 | nil=>
  simp only[PA.L,PA.more]
  constructor
  ·intro h;exact ⟨[],[],rfl,h,.nil⟩
  ·rintro ⟨u,v,e,h1,h2⟩
   obtain ⟨rfl,rfl⟩:=List.append_eq_nil_iff.1 e.symm
   exact h1
 | cons s w=>
  simp only[PA.L]
  constructor
  ·rintro ⟨p,h1,h2,h3⟩
   obtain ⟨u,v,rfl,g1,g2⟩:=(kI w p).1 h3
   exact ⟨s::u,v,rfl,⟨p,h1,h2,g1⟩,g2⟩
  ·rintro ⟨u,v,e,h1,h2⟩
   cases u with
   | nil=>
    simp only[List.nil_append]at e
    subst e
    rcases h2.head with e | ⟨a,u,v,e,⟨q,g1,g2,g3⟩,g4⟩
    ·cases e
    ·simp only[List.cons.injEq]at e
     obtain ⟨rfl,rfl⟩:=e
     exact ⟨q,g1,g2,(kI _ q).2 ⟨u,v,rfl,g3,g4⟩⟩
   | cons s' u=>
    simp only[List.cons_append,List.cons.injEq]at e
    obtain ⟨rfl,rfl⟩:=e
    obtain ⟨q,g1,g2,g3⟩:=h1
    exact ⟨q,g1,g2,(kI _ q).2 ⟨u,v,rfl,g3,h2⟩⟩
theorem aqH (hX:X.In a b):X.more.In a b:=⟨hX.first,hX.last,fun p q h=>by
 rcases h with h | ⟨h1,h2⟩
 ·exact hX.E _ _ h
 ·exact ⟨hX.last _ h1,hX.first _ h2⟩⟩
def PA.FR (lab:Int→Int→Prop) (X:PA):List Int→Int→Prop
 | [],_=>False
 | s::w,p=>lab p s∧(X.first p∨∃ q,PA.FR lab X w q∧X.E q p)
def PA.Suf (lab:Int→Int→Prop) (X:PA) (x:List Int):Prop:=∃ u s v p,x=u++s::v∧X.first p∧lab p s∧X.Acc lab p v
theorem ann {s:Int} {x:List Int}:X.Suf lab (s::x)↔(∃ p,X.first p∧lab p s∧X.Acc lab p x)∨X.Suf lab x:=by
 constructor
 ·rintro ⟨u,s',v,p,e,h⟩
  cases u with
  | nil=>
   simp only[List.nil_append,List.cons.injEq]at e
   obtain ⟨rfl,rfl⟩:=e
   exact .inl ⟨p,h⟩
  | cons b u=>
   simp only[List.cons_append,List.cons.injEq]at e
   obtain ⟨rfl,rfl⟩:=e
   exact .inr ⟨u,s',v,p,rfl,h⟩
 ·rintro (⟨p,h⟩ | ⟨u,s',v,p,rfl,h⟩)
  ·exact ⟨[],s,x,p,rfl,h⟩
  ·exact ⟨s::u,s',v,p,rfl,h⟩
theorem at4:∀ (x w:List Int),((∃ q,X.FR lab w q∧X.Acc lab q x)∨X.Suf lab x)↔∃ q,X.FR lab (x.reverse++w) q∧X.last q
 | [],w=>by
  constructor
  ·rintro (h | ⟨u,s,v,p,e,_⟩)
   ·exact h
   ·simp at e
  ·exact .inl
 | s::x,w=>by
  have ih:=at4 x (s::w)
  rw[List.reverse_cons,List.append_assoc,List.singleton_append,← ih,ann]
  constructor
  ·rintro (⟨q,h1,p,h2,h3,h4⟩ | ⟨p,h1,h2,h3⟩ | h)
   ·exact .inl ⟨p,⟨h3,.inr ⟨q,h1,h2⟩⟩,h4⟩
   ·exact .inl ⟨p,⟨h2,.inl h1⟩,h3⟩
   ·exact .inr h
  ·rintro (⟨p,⟨h1,h2 | ⟨q,h2,h3⟩⟩,h4⟩ | h)
   ·exact .inr (.inl ⟨p,h2,h1,h4⟩)
   ·exact .inl ⟨q,h2,p,h3,h1,h4⟩
   ·exact .inr (.inr h)
theorem aib (w:List Int):(∃ u v,w=u++v∧X.L lab v)↔X.null∨∃ q,X.FR lab w.reverse q∧X.last q:=by
 have h:=at4 (X:=X) (lab:=lab) w []
 rw[List.append_nil]at h
 rw[← h]
 constructor
 ·rintro ⟨u,v,rfl,hv⟩
  cases v with
  | nil=>exact .inl hv
  | cons s v=>
   obtain ⟨p,hp⟩:=hv
   exact .inr (.inr ⟨u,s,v,p,rfl,hp⟩)
 ·rintro (h | ⟨q,h,_⟩ | ⟨u,s,v,p,e,hp⟩)
  ·exact ⟨w,[],by simp,h⟩
  ·exact h.elim
  ·exact ⟨u,s::v,e,p,hp⟩
end
end Go.Val
namespace Go.Val
def ins:List Int→Int→List Int
 | [],n=>[n]
 | x::l,n=>if x < n then x::ins l n else if x=n then x::l else n::x::l
def uni (x y:List Int):List Int:=y.foldl ins x
abbrev Rise (l:List Int):Prop:=l.Pairwise (· < ·)
theorem aaf {q n:Int}:∀ {l:List Int},q∈ins l n↔q∈l∨q=n
 | []=>by simp[ins]
 | x::l=>by
  simp only[ins]
  split
  ·simp only[List.mem_cons,aaf (l:=l)];exact or_assoc.symm
  ·split
   ·rename_i h;subst h;simp only[List.mem_cons];constructor
    ·exact .inl
    ·rintro (h | h)
     ·exact h
     ·exact .inl h
   ·simp only[List.mem_cons];constructor
    ·rintro (h | h | h)
     ·exact .inr h
     ·exact .inl (.inl h)
     ·exact .inl (.inr h)
    ·rintro ((h | h) | h)
     ·exact .inr (.inl h)
     ·exact .inr (.inr h)
     ·exact .inl h
theorem adl {n:Int}:∀ {l:List Int},Rise l→Rise (ins l n)
 | [],_=>by simp[ins,Rise]
 | x::l,h=>by
  obtain ⟨h1,h2⟩:=List.pairwise_cons.1 h
  simp only[ins]
  split
  ·rename_i hx
   refine List.pairwise_cons.2 ⟨fun a ha=>?_,adl h2⟩
   rcases aaf.1 ha with ha | rfl
   ·exact h1 a ha
   ·exact hx
  ·split
   ·exact h
   ·rename_i h3 h4
    refine List.pairwise_cons.2 ⟨fun a ha=>?_,h⟩
    rcases List.mem_cons.1 ha with rfl | ha
    ·omega
    ·have:=h1 a ha;omega
theorem gO {q:Int}:∀ {y x:List Int},q∈uni x y↔q∈x∨q∈y
 | [],x=>by simp[uni]
 | n::y,x=>by
  show q∈uni (ins x n) y↔_
  rw[gO,aaf,List.mem_cons]
  exact or_assoc
theorem fI:∀ {y x:List Int},Rise x→Rise (uni x y)
 | [],_,h=>h
 | n::y,x,h=>by
  show Rise (uni (ins x n) y)
  exact fI (adl h)
theorem mU:∀ {x y:List Int},Rise x→Rise y→(∀ q,q∈x↔q∈y)→x=y
 | [],[],_,_,_=>rfl
 | [],b::y,_,_,h=>absurd ((h b).2 (by simp)) (by simp)
 | a::x,[],_,_,h=>absurd ((h a).1 (by simp)) (by simp)
 | a::x,b::y,hx,hy,h=>by
  obtain ⟨h1,h2⟩:=List.pairwise_cons.1 hx
  obtain ⟨h3,h4⟩:=List.pairwise_cons.1 hy
  have e:a=b:=by
   rcases List.mem_cons.1 ((h a).1 (by simp))with e | e
   ·exact e
   ·rcases List.mem_cons.1 ((h b).2 (by simp))with e2 | e2
    ·exact e2.symm
    ·have:=h1 b e2;have:=h3 a e;omega
  subst e
  congr 1
  refine mU h2 h4 fun q=>⟨fun hq=>?_,fun hq=>?_⟩
  ·rcases List.mem_cons.1 ((h q).1 (List.mem_cons_of_mem _ hq))with e | e
   ·have:=h1 q hq;omega
   ·exact e
  ·rcases List.mem_cons.1 ((h q).2 (List.mem_cons_of_mem _ hq))with e | e
   ·have:=h3 q hq;omega
   ·exact e
structure GP where
 null:Bool
 first:List Int
 last:List Int
abbrev GA:=List Int×List (List Int)
def fl (F:List (List Int)) (last first:List Int):List (List Int):=last.foldl (fun F i=>F.set (i - 1).toNat (uni (F.getD (i - 1).toNat []) first)) F
def mH (x y:GP):GP:=⟨x.null&&y.null,if x.null then uni x.first y.first else x.first,if y.null then uni x.last y.last else y.last⟩
def orP (x y:GP):GP:=⟨x.null||y.null,uni x.first y.first,uni x.last y.last⟩
mutual
def glu:aE→GA→GP×GA
 | ⟨k,s,l⟩,A=>
  if k=1 then (⟨false,[(A.1.length:Int)+1],[(A.1.length:Int)+1]⟩,A.1++[s],A.2++[[]])
  else if k=0 then ij l ⟨true,[],[]⟩ A
  else if k=2 then gZ l ⟨false,[],[]⟩ A
  else (⟨(cA l A).1.null||decide (k≠4),(cA l A).1.first,(cA l A).1.last⟩,(cA l A).2.1,
   if k=5 then (cA l A).2.2 else fl (cA l A).2.2 (cA l A).1.last (cA l A).1.first)
def ij:List aE→GP→GA→GP×GA
 | [],out,A=>(out,A)
 | x::l,out,A=>ij l (mH out (glu x A).1) ((glu x A).2.1,fl (glu x A).2.2 out.last (glu x A).1.first)
def gZ:List aE→GP→GA→GP×GA
 | [],out,A=>(out,A)
 | x::l,out,A=>gZ l (orP out (glu x A).1) (glu x A).2
def cA:List aE→GA→GP×GA
 | [],A=>(⟨false,[],[]⟩,A)
 | x::_,A=>glu x A
end
theorem jA {first:List Int}:∀ {last:List Int} {F:List (List Int)},(fl F last first).length=F.length
 | [],_=>rfl
 | i::last,F=>by
  show (fl (F.set _ _) last first).length=_
  rw[jA,List.length_set]
theorem nr {first:List Int} {j:Nat}:∀ {last:List Int} {F:List (List Int)} {row:List Int},(∀ i∈last,1≤i)→F[j]? =some row→
  ∃ row',(fl F last first)[j]? =some row'∧(∀ q,q∈row'↔q∈row∨((j:Int)+1∈last∧q∈first))∧(Rise row→Rise row')
 | [],F,row,_,h=>⟨row,h,fun q=>by simp,id⟩
 | i::last,F,row,hl,h=>by
  have hj:j < F.length:=(List.getElem?_eq_some_iff.1 h).1
  have hi:=hl i (by simp)
  by_cases e:(i - 1).toNat=j
  ·subst e
   obtain ⟨row',h1,h2,h3⟩:=nr (first:=first) (last:=last) (F:=F.set (i - 1).toNat (uni (F.getD (i - 1).toNat []) first)) (row:=uni row first) (fun k hk=>hl k (List.mem_cons_of_mem _ hk)) (by
    rw[List.getElem?_set_self hj,List.getD_eq_getElem?_getD,h];rfl)
   refine ⟨row',h1,fun q=>?_,fun hr=>h3 (fI hr)⟩
   rw[h2,gO,List.mem_cons]
   have:(((i - 1).toNat:Nat):Int)+1=i:=by omega
   rw[this]
   constructor
   ·rintro ((h | h) | h)
    ·exact .inl h
    ·exact .inr ⟨.inl rfl,h⟩
    ·exact .inr ⟨.inr h.1,h.2⟩
   ·rintro (h | ⟨_,h⟩)
    ·exact .inl (.inl h)
    ·exact .inl (.inr h)
  ·obtain ⟨row',h1,h2,h3⟩:=nr (first:=first) (last:=last) (F:=F.set (i - 1).toNat (uni (F.getD (i - 1).toNat []) first)) (row:=row) (fun k hk=>hl k (List.mem_cons_of_mem _ hk)) (by
    rw[List.getElem?_set_ne e];exact h)
   refine ⟨row',h1,fun q=>?_,h3⟩
   rw[h2,List.mem_cons]
   constructor
   ·rintro (h | h)
    ·exact .inl h
    ·exact .inr ⟨.inr h.1,h.2⟩
   ·rintro (h | ⟨h | h,h4⟩)
    ·exact .inl h
    ·exfalso;omega
    ·exact .inr ⟨h,h4⟩
def paOf (P:GP) (F:List (List Int)) (lo hi:Int):PA:=⟨P.null=true,(· ∈P.first),(· ∈P.last),fun p q=>(lo < p∧p≤hi)∧∃ row,F[(p - 1).toNat]? =some row∧q∈row⟩
theorem PA.ext' {X Y:PA} (h1:X.null↔Y.null) (h2:∀ p,X.first p↔Y.first p) (h3:∀ p,X.last p↔Y.last p) (h4:∀ p q,X.E p q↔Y.E p q):X=Y:=by
 cases X;cases Y
 simp only[PA.mk.injEq]
 exact ⟨propext h1,funext fun p=>propext (h2 p),funext fun p=>propext (h3 p),funext fun p=>funext fun q=>propext (h4 p q)⟩
structure gf (P:GP) (A B:GA):Prop where
 sets:A.1 <+: B.1
 len:B.2.length=B.1.length
 old:∀ j,j < A.1.length→B.2[j]? =A.2[j]?
 inn:(paOf P B.2 (A.1.length:Int) (B.1.length:Int)).In (A.1.length:Int) (B.1.length:Int)
 rows:∀ (j:Nat) (row:List Int),A.1.length≤j→B.2[j]? =some row→Rise row
 firsts:Rise P.first
 lasts:Rise P.last
def afN (hit:Int→Int→Bool) (T:List Int) (p a:Int):Prop:=∃ s,T[(p - 1).toNat]? =some s∧hit a s=true
def vM (hit:Int→Int→Bool) (P:GP) (A B:GA) (M:List Int→Prop):Prop:=∀ T,B.1 <+: T→∀ w,(paOf P B.2 (A.1.length:Int) (B.1.length:Int)).L (afN hit T) w↔M w
theorem ke {F:List (List Int)} {last first:List Int} {lo hi p q:Int} (hl:∀ i∈last,lo < i∧i≤hi) (h0:0≤lo) (hp:1≤p):
  (∃ row,(fl F last first)[(p - 1).toNat]? =some row∧q∈row)↔(∃ row,F[(p - 1).toNat]? =some row∧q∈row)∨(((p - 1).toNat < F.length∧p∈last)∧q∈first):=by
 have hpos:∀ i∈last,1≤i:=fun i hi=>by have:=hl i hi;omega
 have hpp:(((p - 1).toNat:Nat):Int)+1=p:=by omega
 by_cases hj:(p - 1).toNat < F.length
 ·obtain ⟨row',h1,h2,h3⟩:=nr (first:=first) hpos (List.getElem?_eq_getElem hj)
  rw[h1]
  constructor
  ·rintro ⟨row,e,hq⟩
   obtain rfl:=Option.some.inj e
   rcases (h2 q).1 hq with h | ⟨h,h4⟩
   ·exact .inl ⟨_,List.getElem?_eq_getElem hj,h⟩
   ·rw[hpp]at h;exact .inr ⟨⟨hj,h⟩,h4⟩
  ·rintro (⟨row,e,hq⟩ | ⟨⟨_,h⟩,h4⟩)
   ·rw[List.getElem?_eq_getElem hj]at e
    obtain rfl:=Option.some.inj e
    exact ⟨_,rfl,(h2 q).2 (.inl hq)⟩
   ·exact ⟨_,rfl,(h2 q).2 (.inr ⟨by rw[hpp];exact h,h4⟩)⟩
 ·have e1:(fl F last first)[(p - 1).toNat]? =none:=List.getElem?_eq_none (by rw[jA];omega)
  have e2:F[(p - 1).toNat]? =none:=List.getElem?_eq_none (by omega)
  rw[e1,e2]
  constructor
  ·rintro ⟨_,e,_⟩;cases e
  ·rintro (⟨_,e,_⟩ | ⟨⟨h,_⟩,_⟩)
   ·cases e
   ·exact absurd h hj
theorem alo {P R:GP} {A B C:GA} (h1:gf P A B) (h2:gf R B C):paOf (mH P R) (fl C.2 P.last R.first) (A.1.length:Int) (C.1.length:Int)=(paOf P B.2 (A.1.length:Int) (B.1.length:Int)).then_ (paOf R C.2 (B.1.length:Int) (C.1.length:Int)):=by
 have lAB:A.1.length≤B.1.length:=h1.sets.length_le
 have lBC:B.1.length≤C.1.length:=h2.sets.length_le
 refine PA.ext' ?_ (fun p=>?_) (fun p=>?_) (fun p q=>?_)
 ·simp[paOf,mH,PA.then_]
 ·simp only[paOf,mH,PA.then_]
  cases P.null <;> simp[gO]
 ·simp only[paOf,mH,PA.then_]
  cases R.null <;> simp[gO,or_comm]
 ·simp only[paOf,PA.then_]
  have hl:∀ i∈P.last,(A.1.length:Int) < i∧i≤(B.1.length:Int):=fun i hi=>h1.inn.last i hi
  constructor
  ·rintro ⟨⟨g1,g2⟩,g3⟩
   rcases (ke hl (by omega) (by omega)).1 g3 with ⟨row,e,hq⟩ | ⟨⟨_,g4⟩,g5⟩
   ·by_cases hb:p≤(B.1.length:Int)
    ·rw[h2.old _ (by omega)]at e
     exact .inl (.inl ⟨⟨g1,hb⟩,row,e,hq⟩)
    ·exact .inl (.inr ⟨⟨by omega,g2⟩,row,e,hq⟩)
   ·exact .inr ⟨g4,g5⟩
  ·rintro ((⟨⟨g1,g2⟩,row,e,hq⟩ | ⟨⟨g1,g2⟩,row,e,hq⟩) | ⟨g4,g5⟩)
   ·refine ⟨⟨g1,by omega⟩,(ke hl (by omega) (by omega)).2 (.inl ⟨row,?_,hq⟩)⟩
    rw[h2.old _ (by omega)];exact e
   ·exact ⟨⟨by omega,g2⟩,(ke hl (by omega) (by omega)).2 (.inl ⟨row,e,hq⟩)⟩
   ·have:=hl p g4
    refine ⟨⟨this.1,by omega⟩,(ke hl (by omega) (by omega)).2 (.inr ⟨⟨?_,g4⟩,g5⟩)⟩
    rw[h2.len];omega
theorem atB {P R:GP} {A B C:GA} (h1:gf P A B) (h2:gf R B C):paOf (orP P R) C.2 (A.1.length:Int) (C.1.length:Int)=(paOf P B.2 (A.1.length:Int) (B.1.length:Int)).or_ (paOf R C.2 (B.1.length:Int) (C.1.length:Int)):=by
 have lAB:A.1.length≤B.1.length:=h1.sets.length_le
 have lBC:B.1.length≤C.1.length:=h2.sets.length_le
 refine PA.ext' ?_ (fun p=>?_) (fun p=>?_) (fun p q=>?_)
 ·simp[paOf,orP,PA.or_]
 ·simp only[paOf,orP,PA.or_,gO]
 ·simp only[paOf,orP,PA.or_,gO]
 ·simp only[paOf,PA.or_]
  constructor
  ·rintro ⟨⟨g1,g2⟩,row,e,hq⟩
   by_cases hb:p≤(B.1.length:Int)
   ·rw[h2.old _ (by omega)]at e
    exact .inl ⟨⟨g1,hb⟩,row,e,hq⟩
   ·exact .inr ⟨⟨by omega,g2⟩,row,e,hq⟩
  ·rintro (⟨⟨g1,g2⟩,row,e,hq⟩ | ⟨⟨g1,g2⟩,row,e,hq⟩)
   ·exact ⟨⟨g1,by omega⟩,row,by rw[h2.old _ (by omega)];exact e,hq⟩
   ·exact ⟨⟨by omega,g2⟩,row,e,hq⟩
theorem aq7 {P:GP} {A B:GA} (h:gf P A B) (z:Bool):paOf ⟨P.null,P.first,P.last⟩ (fl B.2 P.last P.first) (A.1.length:Int) (B.1.length:Int)=(paOf P B.2 (A.1.length:Int) (B.1.length:Int)).more:=by
 refine PA.ext' Iff.rfl (fun p=>Iff.rfl) (fun p=>Iff.rfl) (fun p q=>?_)
 simp only[paOf,PA.more]
 have hl:∀ i∈P.last,(A.1.length:Int) < i∧i≤(B.1.length:Int):=fun i hi=>h.inn.last i hi
 constructor
 ·rintro ⟨⟨g1,g2⟩,g3⟩
  rcases (ke hl (by omega) (by omega)).1 g3 with g | ⟨⟨_,g4⟩,g5⟩
  ·exact .inl ⟨⟨g1,g2⟩,g⟩
  ·exact .inr ⟨g4,g5⟩
 ·rintro (⟨⟨g1,g2⟩,g⟩ | ⟨g4,g5⟩)
  ·exact ⟨⟨g1,g2⟩,(ke hl (by omega) (by omega)).2 (.inl g)⟩
  ·have:=hl p g4
   refine ⟨this,(ke hl (by omega) (by omega)).2 (.inr ⟨⟨?_,g4⟩,g5⟩)⟩
   rw[h.len];omega
theorem wS {F:List (List Int)} {last first:List Int} {n j:Nat} (hl:∀ i∈last,(n:Int) < i) (hj:j < n):(fl F last first)[j]? =F[j]? :=by
 induction last generalizing F with
 | nil=>rfl
 | cons i last ih=>
  show (fl (F.set _ _) last first)[j]? =_
  have:=hl i (by simp)
  rw[ih fun k hk=>hl k (List.mem_cons_of_mem _ hk),List.getElem?_set_ne (by omega)]
theorem sA {F:List (List Int)} {last first:List Int} {n:Nat} (hl:∀ i∈last,1≤i) (h:∀ (j:Nat) (row:List Int),n≤j→F[j]? =some row→Rise row) (j:Nat) (row:List Int) (hj:n≤j) (e:(fl F last first)[j]? =some row):Rise row:=by
 have hlt:j < F.length:=by have:=(List.getElem?_eq_some_iff.1 e).1;rwa[jA]at this
 obtain ⟨row',h1,_,h3⟩:=nr (first:=first) hl (List.getElem?_eq_getElem hlt)
 rw[h1]at e
 obtain rfl:=Option.some.inj e
 exact h3 (h j _ hj (List.getElem?_eq_getElem hlt))
theorem gf.then_ {P R:GP} {A B C:GA} (h1:gf P A B) (h2:gf R B C):gf (mH P R) A (C.1,fl C.2 P.last R.first):=by
 have lAB:A.1.length≤B.1.length:=h1.sets.length_le
 have lBC:B.1.length≤C.1.length:=h2.sets.length_le
 have hl:∀ i∈P.last,(A.1.length:Int) < i∧i≤(B.1.length:Int):=fun i hi=>h1.inn.last i hi
 refine ⟨h1.sets.trans h2.sets,by rw[jA];exact h2.len,fun j hj=>?_,?_,?_,?_,?_⟩
 ·show (fl C.2 P.last R.first)[j]? =_
  rw[wS (n:=A.1.length) (fun i hi=>(hl i hi).1) hj,h2.old j (by omega),h1.old j hj]
 ·show (paOf (mH P R) (fl C.2 P.last R.first) (A.1.length:Int) (C.1.length:Int)).In _ _
  rw[alo h1 h2]
  have hi:=ap4 h1.inn h2.inn (by omega) (by omega)
  exact hi
 ·refine sA (fun i hi=>by have:=hl i hi;omega) fun j row hj e=>?_
  by_cases hb:j < B.1.length
  ·rw[h2.old j hb]at e;exact h1.rows j row hj e
  ·exact h2.rows j row (by omega) e
 ·simp only[mH];split
  ·exact fI h1.firsts
  ·exact h1.firsts
 ·simp only[mH];split
  ·exact fI h1.lasts
  ·exact h2.lasts
theorem gf.or_ {P R:GP} {A B C:GA} (h1:gf P A B) (h2:gf R B C):gf (orP P R) A C:=by
 have lAB:A.1.length≤B.1.length:=h1.sets.length_le
 have lBC:B.1.length≤C.1.length:=h2.sets.length_le
 refine ⟨h1.sets.trans h2.sets,h2.len,fun j hj=>?_,?_,fun j row hj e=>?_,fI h1.firsts,fI h1.lasts⟩
 ·rw[h2.old j (by omega),h1.old j hj]
 ·rw[atB h1 h2];exact awL h1.inn h2.inn (by omega) (by omega)
 ·by_cases hb:j < B.1.length
  ·rw[h2.old j hb]at e;exact h1.rows j row hj e
  ·exact h2.rows j row (by omega) e
theorem gf.start (z:Bool) {A:GA} (hA:A.2.length=A.1.length):gf ⟨z,[],[]⟩ A A:=
 ⟨List.prefix_refl _,hA,fun _ _=>rfl,⟨fun p h=>(by cases h),fun p h=>(by cases h),fun p q h=>by have h':=h.1;omega⟩,fun j row hj e=>by have:=(List.getElem?_eq_some_iff.1 e).1;omega,List.Pairwise.nil,List.Pairwise.nil⟩
section
variable {hit:Int→Int→Bool}
theorem asf:∀ (n:aE) (A:GA),A.2.length=A.1.length→(glu n A).2.2.length=(glu n A).2.1.length∧gf (glu n A).1 A (glu n A).2∧vM hit (glu n A).1 A (glu n A).2 (Lang hit n):=by
 intro n
 induction n using aE.ind with
 | h n ih=>
 have cat:∀ (l:List aE),(∀ x∈l,x∈n.Kids)→∀ (out:GP) (A B:GA) (M:List Int→Prop),gf out A B→vM hit out A B M→gf (ij l out B).1 A (ij l out B).2∧vM hit (ij l out B).1 A (ij l out B).2 (CatP M (LCat hit l)):=by
  intro l
  induction l with
  | nil=>exact fun _ out A B M h1 h2=>⟨h1,fun T hT w=>(h2 T hT w).trans (by rw[LCat];exact CatP.nilR.symm)⟩
  | cons x l ihl=>
   intro hl out A B M h1 h2
   obtain ⟨_,g1,g2⟩:=ih x (hl x (by simp)) B h1.len
   have h3:=h1.then_ g1
   obtain ⟨r1,r2⟩:=ihl (fun y hy=>hl y (List.mem_cons_of_mem _ hy)) (mH out (glu x B).1) A ((glu x B).2.1,fl (glu x B).2.2 out.last (glu x B).1.first) (CatP M (Lang hit x)) h3 (fun T hT w=>by
    show (paOf (mH out (glu x B).1) (fl (glu x B).2.2 out.last (glu x B).1.first) (A.1.length:Int) ((glu x B).2.1.length:Int)).L (afN hit T) w↔_
    rw[alo h1 g1,auD h1.inn g1.inn]
    exact CatP.congr (h2 T (g1.sets.trans hT)) (g2 T hT) w)
   exact ⟨r1,fun T hT w=>(r2 T hT w).trans (by rw[LCat];exact CatP.assoc)⟩
 have alt:∀ (l:List aE),(∀ x∈l,x∈n.Kids)→∀ (out:GP) (A B:GA) (M:List Int→Prop),gf out A B→vM hit out A B M→gf (gZ l out B).1 A (gZ l out B).2∧vM hit (gZ l out B).1 A (gZ l out B).2 (fun w=>M w∨LAlt hit l w):=by
  intro l
  induction l with
  | nil=>exact fun _ out A B M h1 h2=>⟨h1,fun T hT w=>(h2 T hT w).trans (by simp[LAlt])⟩
  | cons x l ihl=>
   intro hl out A B M h1 h2
   obtain ⟨_,g1,g2⟩:=ih x (hl x (by simp)) B h1.len
   obtain ⟨r1,r2⟩:=ihl (fun y hy=>hl y (List.mem_cons_of_mem _ hy)) (orP out (glu x B).1) A (glu x B).2 (fun w=>M w∨Lang hit x w) (h1.or_ g1) (fun T hT w=>by
    rw[atB h1 g1,or_L h1.inn g1.inn]
    exact or_congr (h2 T (g1.sets.trans hT) w) (g2 T hT w))
   exact ⟨r1,fun T hT w=>(r2 T hT w).trans (by simp only[LAlt];exact or_assoc)⟩
 intro A hA
 suffices H:gf (glu n A).1 A (glu n A).2∧vM hit (glu n A).1 A (glu n A).2 (Lang hit n) from ⟨H.1.len,H⟩
 obtain ⟨k,s,l⟩:=n
 by_cases h1:k=1
 ·subst h1
  have e:glu ⟨1,s,l⟩ A=(⟨false,[(A.1.length:Int)+1],[(A.1.length:Int)+1]⟩,A.1++[s],A.2++[[]]):=by rw[glu,if_pos rfl]
  rw[e]
  refine ⟨⟨List.prefix_append _ _,by simp[hA],fun j hj=>?_,⟨fun p h=>?_,fun p h=>?_,fun p q h=>?_⟩,fun j row hj e=>?_,by simp,by simp⟩,fun T hT w=>?_⟩
  ·show (A.2++[[]])[j]? =_
   rw[List.getElem?_append_left (by omega)]
  ·simp only[paOf,List.mem_singleton]at h;simp only[List.length_append,List.length_singleton];omega
  ·simp only[paOf,List.mem_singleton]at h;simp only[List.length_append,List.length_singleton];omega
  ·obtain ⟨⟨q1,q2⟩,row,e,hq⟩:=h
   exfalso
   simp only[List.length_append,List.length_singleton]at q2
   have:(p - 1).toNat=A.2.length:=by omega
   rw[this,List.getElem?_concat_length]at e
   obtain rfl:=Option.some.inj e
   cases hq
  ·have hlt:=(List.getElem?_eq_some_iff.1 e).1
   simp only[List.length_append,List.length_singleton]at hlt
   have:j=A.2.length:=by omega
   subst this
   rw[List.getElem?_concat_length]at e
   obtain rfl:=Option.some.inj e
   exact List.Pairwise.nil
  ·have hs:T[A.1.length]? =some s:=by
    obtain ⟨t,rfl⟩:=hT
    rw[List.append_assoc,List.getElem?_append_right (Nat.le_refl _)];simp
   have hnoE:∀ p q,¬ (paOf ⟨false,[(A.1.length:Int)+1],[(A.1.length:Int)+1]⟩ (A.2++[[]]) (A.1.length:Int) ((A.1++[s]).length:Int)).E p q:=by
    rintro p q ⟨⟨q1,q2⟩,row,e,hq⟩
    simp only[List.length_append,List.length_singleton]at q2
    have:(p - 1).toNat=A.2.length:=by omega
    rw[this,List.getElem?_concat_length]at e
    obtain rfl:=Option.some.inj e
    cases hq
   rw[Lang,if_pos rfl]
   cases w with
   | nil=>simp[PA.L,paOf]
   | cons a w=>
    simp only[PA.L]
    constructor
    ·rintro ⟨p,g1,⟨s',g2,g3⟩,g4⟩
     have hp:p=(A.1.length:Int)+1:=by simpa[paOf]using g1
     subst hp
     have e3:((A.1.length:Int)+1 - 1).toNat=A.1.length:=by omega
     rw[e3,hs]at g2
     obtain rfl:=Option.some.inj g2
     cases w with
     | nil=>exact ⟨a,rfl,g3⟩
     | cons b w=>obtain ⟨q,hE,_⟩:=g4;exact absurd hE (hnoE _ _)
    ·rintro ⟨a',e,h⟩
     simp only[List.cons.injEq]at e
     obtain ⟨rfl,rfl⟩:=e
     have e3:((A.1.length:Int)+1 - 1).toNat=A.1.length:=by omega
     exact ⟨(A.1.length:Int)+1,by simp[paOf],⟨s,by rw[e3];exact hs,h⟩,by simp[PA.Acc,paOf]⟩
 by_cases h0:k=0
 ·subst h0
  have e:glu ⟨0,s,l⟩ A=ij l ⟨true,[],[]⟩ A:=by rw[glu,if_neg (by decide),if_pos rfl]
  rw[e]
  obtain ⟨r1,r2⟩:=cat l (fun x hx=>hx) ⟨true,[],[]⟩ A A (fun w=>w=[]) (gf.start true hA) (fun T hT w=>by
   cases w with
   | nil=>simp[PA.L,paOf]
   | cons a w=>simp[PA.L,paOf])
  exact ⟨r1,fun T hT w=>(r2 T hT w).trans (by rw[Lang,if_neg (by decide),if_pos rfl];exact CatP.nilL)⟩
 by_cases h2:k=2
 ·subst h2
  have e:glu ⟨2,s,l⟩ A=gZ l ⟨false,[],[]⟩ A:=by rw[glu,if_neg (by decide),if_neg (by decide),if_pos rfl]
  rw[e]
  obtain ⟨r1,r2⟩:=alt l (fun x hx=>hx) ⟨false,[],[]⟩ A A (fun w=>False) (gf.start false hA) (fun T hT w=>by
   cases w with
   | nil=>simp[PA.L,paOf]
   | cons a w=>simp[PA.L,paOf])
  exact ⟨r1,fun T hT w=>(r2 T hT w).trans (by rw[Lang,if_neg (by decide),if_neg (by decide),if_pos rfl];simp)⟩
 have one:gf (cA l A).1 A (cA l A).2∧vM hit (cA l A).1 A (cA l A).2 (LOne hit l):=by
  cases l with
  | nil=>
   rw[cA]
   exact ⟨gf.start false hA,fun T hT w=>by rw[LOne];cases w <;> simp[PA.L,paOf]⟩
  | cons x l=>
   rw[cA]
   obtain ⟨_,g1,g2⟩:=ih x (by simp) A hA
   exact ⟨g1,fun T hT w=>(g2 T hT w).trans (by rw[LOne])⟩
 obtain ⟨o1,o2⟩:=one
 have hl:∀ i∈(cA l A).1.last,(A.1.length:Int) < i∧i≤((cA l A).2.1.length:Int):=fun i hi=>o1.inn.last i hi
 have nul:∀ {P Q:GP} {F:List (List Int)} {lo hi:Int} {lab:Int→Int→Prop} {a:Int} {w:List Int},P.first=Q.first→P.last=Q.last→((paOf P F lo hi).L lab (a::w)↔(paOf Q F lo hi).L lab (a::w)):=by
  intro P Q F lo hi lab a w e1 e2
  have acc:∀ (w:List Int) (p:Int),(paOf P F lo hi).Acc lab p w↔(paOf Q F lo hi).Acc lab p w:=by
   intro w
   induction w with
   | nil=>intro p;simp only[PA.Acc,paOf,e2]
   | cons b w ihw=>intro p;simp only[PA.Acc,ihw];simp only[paOf]
  simp only[PA.L,acc]
  simp only[paOf,e1]
 by_cases h5:k=5
 ·subst h5
  have e:glu ⟨5,s,l⟩ A=(⟨(cA l A).1.null||true,(cA l A).1.first,(cA l A).1.last⟩,(cA l A).2.1,(cA l A).2.2):=by rw[glu,if_neg h1,if_neg h0,if_neg h2];rfl
  rw[e]
  refine ⟨⟨o1.sets,o1.len,o1.old,⟨o1.inn.first,o1.inn.last,o1.inn.E⟩,o1.rows,o1.firsts,o1.lasts⟩,fun T hT w=>?_⟩
  rw[Lang,if_neg h1,if_neg h0,if_neg h2,if_pos rfl]
  cases w with
  | nil=>simp[PA.L,paOf]
  | cons a w=>
   refine (nul (P:=⟨(cA l A).1.null||true,(cA l A).1.first,(cA l A).1.last⟩) (Q:=(cA l A).1) rfl rfl).trans ((o2 T hT (a::w)).trans ?_)
   simp
 have e:glu ⟨k,s,l⟩ A=(⟨(cA l A).1.null||decide (k≠4),(cA l A).1.first,(cA l A).1.last⟩,(cA l A).2.1,fl (cA l A).2.2 (cA l A).1.last (cA l A).1.first):=by rw[glu,if_neg h1,if_neg h0,if_neg h2,if_neg h5]
 have hm:=aq7 o1 true
 rw[e]
 have hML:∀ T,(cA l A).2.1 <+: T→∀ w,(paOf ⟨(cA l A).1.null,(cA l A).1.first,(cA l A).1.last⟩ (fl (cA l A).2.2 (cA l A).1.last (cA l A).1.first) (A.1.length:Int) ((cA l A).2.1.length:Int)).L (afN hit T) w↔CatP (LOne hit l) (Star (LOne hit l)) w:=fun T hT w=>by
  rw[hm,auk]
  exact CatP.congr (o2 T hT) (Star.congr (o2 T hT)) w
 refine ⟨⟨o1.sets,by rw[jA];exact o1.len,fun j hj=>?_,?_,?_,o1.firsts,o1.lasts⟩,fun T hT w=>?_⟩
 ·show (fl _ _ _)[j]? =_
  rw[wS (n:=A.1.length) (fun i hi=>(hl i hi).1) hj,o1.old j hj]
 ·have hi:=aqH o1.inn
  rw[← hm]at hi
  exact ⟨hi.first,hi.last,hi.E⟩
 ·exact sA (fun i hi=>by have:=hl i hi;omega) o1.rows
 ·rw[Lang,if_neg h1,if_neg h0,if_neg h2,if_neg h5]
  by_cases h4:k=4
  ·subst h4
   rw[if_pos rfl,← hML T hT w]
   simp
  ·rw[if_neg h4]
   cases w with
   | nil=>simp[PA.L,paOf,h4,Star.nil]
   | cons a w=>
    refine (nul (P:=⟨(cA l A).1.null||decide (k≠4),(cA l A).1.first,(cA l A).1.last⟩) (Q:=⟨(cA l A).1.null,(cA l A).1.first,(cA l A).1.last⟩) rfl rfl).trans ((hML T hT (a::w)).trans ?_)
    constructor
    ·rintro ⟨u,v,e,h1,h2⟩;rw[e];exact .cons h1 h2
    ·intro h
     rcases h.head with e | ⟨b,u,v,e,h1,h2⟩
     ·cases e
     ·exact ⟨b::u,v,e,h1,h2⟩
end
end Go.Val
namespace Go.Val
section
variable {α:Type} (same:α→α→Bool)
def fidx (o:List α) (x:α):Option Nat:=o.findIdx? fun y=>same y x
def bmet (o:List α) (x:α):List α×Nat:=match fidx same o x with
 | some k=>(o,k)
 | none=>(o++[x],o.length)
def brow:List α→List α→List α×List Int
 | o,[]=>(o,[])
 | o,x::xs=>((brow (bmet same o x).1 xs).1,((bmet same o x).2:Int)::(brow (bmet same o x).1 xs).2)
def bgo (succ:α→List α) (most:Nat):Nat→Nat→List α→List (List Int)→Option (List α×List (List Int))
 | 0,i,o,R=>none
 | fu+1,i,o,R=>match o[i]? with
  | none=>some (o,R)
  | some x=>if (brow same o (succ x)).1.length≤most then bgo succ most fu (i+1) (brow same o (succ x)).1 (R++[(brow same o (succ x)).2])else none
end
section
variable {α:Type} {same:α→α→Bool}
theorem alT {o:List α} {x:α} {k:Nat} (h:fidx same o x=some k):k < o.length:=by
 unfold fidx at h
 exact (List.findIdx?_eq_some_iff_getElem.1 h).1
theorem ajs {o:List α} {x:α} {k:Nat} (h:fidx same o x=some k):∃ y,o[k]? =some y∧same y x=true:=by
 unfold fidx at h
 obtain ⟨h1,h2,_⟩:=List.findIdx?_eq_some_iff_getElem.1 h
 exact ⟨o[k],List.getElem?_eq_getElem h1,h2⟩
theorem ac6 {o p:List α} {x:α} {k:Nat} (h:fidx same o x=some k):fidx same (o++p) x=some k:=by
 unfold fidx at h ⊢
 rw[List.findIdx?_append,h];rfl
theorem anH {o:List α} {x:α} (h:fidx same o x=none) (hr:same x x=true):fidx same (o++[x]) x=some o.length:=by
 unfold fidx at h ⊢
 rw[List.findIdx?_append,h]
 simp[List.findIdx?_cons,hr]
theorem ajr {o:List α} {x:α} (h:fidx same o x=none):∀ y∈o,same y x=false:=by
 unfold fidx at h
 simpa[List.findIdx?_eq_none_iff]using h
theorem acW (o:List α) (x:α):o <+: (bmet same o x).1:=by
 unfold bmet;split
 ·exact List.prefix_refl _
 ·exact List.prefix_append _ _
theorem alw (hr:∀ x,same x x=true) (o:List α) (x:α):fidx same (bmet same o x).1 x=some (bmet same o x).2:=by
 unfold bmet;split
 ·rename_i k h;exact h
 ·rename_i h;exact anH h (hr x)
theorem kF:∀ (xs o:List α),o <+: (brow same o xs).1
 | [],o=>List.prefix_refl _
 | x::xs,o=>(acW o x).trans (kF xs _)
theorem acB:∀ (xs o:List α),(brow same o xs).2.length=xs.length
 | [],o=>rfl
 | x::xs,o=>by simp only[brow,List.length_cons,acB xs]
theorem pZ:∀ (xs o:List α),∀ y∈(brow same o xs).1,y∈o∨y∈xs
 | [],o,y,h=>.inl h
 | x::xs,o,y,h=>by
  rcases pZ xs _ y h with h | h
  ·unfold bmet at h
   split at h
   ·exact .inl h
   ·rcases List.mem_append.1 h with h | h
    ·exact .inl h
    ·exact .inr (by simp at h;simp[h])
  ·exact .inr (List.mem_cons_of_mem _ h)
theorem adS (hr:∀ x,same x x=true):∀ (xs o:List α) (c:Nat) (x:α),xs[c]? =some x→∃ k:Nat,(brow same o xs).2[c]? =some (k:Int)∧fidx same (brow same o xs).1 x=some k
 | [],o,c,x,h=>by simp at h
 | y::xs,o,0,x,h=>by
  obtain rfl:y=x:=by simpa using h
  refine ⟨(bmet same o y).2,rfl,?_⟩
  obtain ⟨t,ht⟩:=kF xs (same:=same) (bmet same o y).1
  show fidx same (brow same (bmet same o y).1 xs).1 y=_
  rw[← ht];exact ac6 (alw hr o y)
 | y::xs,o,c+1,x,h=>adS hr xs _ c x (by simpa using h)
def ph (same:α→α→Bool) (o:List α):Prop:=o.Pairwise fun x y=>same x y=false
theorem sI {o:List α} (x:α) (h:ph same o):ph same (bmet same o x).1:=by
 unfold bmet;split
 ·exact h
 ·rename_i hn
  exact List.pairwise_append.2 ⟨h,by simp,fun a ha b hb=>by
   obtain rfl:=List.mem_singleton.1 hb
   exact ajr hn a ha⟩
theorem sX:∀ (xs o:List α),ph same o→ph same (brow same o xs).1
 | [],o,h=>h
 | x::xs,o,h=>sX xs _ (sI x h)
structure BInv (same:α→α→Bool) (succ:α→List α) (o:List α) (R:List (List Int)) (i:Nat):Prop where
 len:R.length=i
 le:i≤o.length
 row:∀ (j:Nat) (x:α),j < i→o[j]? =some x→∃ r,R[j]? =some r∧r.length=(succ x).length∧∀ (c:Nat) (y:α),(succ x)[c]? =some y→∃ k:Nat,r[c]? =some (k:Int)∧fidx same o y=some k
theorem BInv.next {succ:α→List α} {o:List α} {R:List (List Int)} {i:Nat} {x:α} (hr:∀ x,same x x=true) (h:BInv same succ o R i) (hx:o[i]? =some x):
  BInv same succ (brow same o (succ x)).1 (R++[(brow same o (succ x)).2]) (i+1):=by
 obtain ⟨t,ht⟩:=kF (same:=same) (succ x) o
 have hi:=(List.getElem?_eq_some_iff.1 hx).1
 refine ⟨by simp[h.len],by rw[← ht];simp;omega,fun j y hj hy=>?_⟩
 by_cases e:j=i
 ·subst e
  rw[← ht,List.getElem?_append_left hi,hx]at hy
  obtain rfl:=Option.some.inj hy
  refine ⟨(brow same o (succ x)).2,by rw[List.getElem?_append_right (by rw[h.len];exact Nat.le_refl _),h.len];simp only[Nat.sub_self,List.getElem?_cons_zero],acB _ _,fun c z hz=>adS hr _ _ c z hz⟩
 ·rw[← ht,List.getElem?_append_left (by omega)]at hy
  obtain ⟨r,h1,h2,h3⟩:=h.row j y (by omega) hy
  refine ⟨r,by rw[List.getElem?_append_left (by rw[h.len];omega)];exact h1,h2,fun c z hz=>?_⟩
  obtain ⟨k,g1,g2⟩:=h3 c z hz
  exact ⟨k,g1,by rw[← ht];exact ac6 g2⟩
theorem zp {succ:α→List α} {most:Nat} (hr:∀ x,same x x=true):∀ (fu i:Nat) (o:List α) (R:List (List Int)) (o':List α) (R':List (List Int)),BInv same succ o R i→o.length≤most→bgo same succ most fu i o R=some (o',R')→BInv same succ o' R' o'.length∧o <+: o'∧o'.length≤most
 | 0,i,o,R,o',R',h,hm,e=>by cases e
 | fu+1,i,o,R,o',R',h,hm,e=>by
  simp only[bgo]at e
  split at e
  ·rename_i hn
   obtain ⟨rfl,rfl⟩:=Prod.mk.inj (Option.some.inj e)
   have:o.length≤i:=List.getElem?_eq_none_iff.1 hn
   have h2:=h.le
   obtain rfl:i=o.length:=by omega
   exact ⟨h,List.prefix_refl _,hm⟩
  ·rename_i x hx
   split at e
   ·rename_i hl
    obtain ⟨h1,h2,h3⟩:=zp hr fu _ _ _ _ _ (h.next hr hx) hl e
    exact ⟨h1,(kF _ _).trans h2,h3⟩
   ·cases e
theorem ajt {succ:α→List α} {most:Nat} {P:α→Prop} (hs:∀ x,P x→∀ y∈succ x,P y):∀ (fu i:Nat) (o:List α) (R:List (List Int)) (o':List α) (R':List (List Int)),(∀ x∈o,P x)→bgo same succ most fu i o R=some (o',R')→∀ x∈o',P x
 | 0,i,o,R,o',R',h,e=>by cases e
 | fu+1,i,o,R,o',R',h,e=>by
  simp only[bgo]at e
  split at e
  ·obtain ⟨rfl,rfl⟩:=Prod.mk.inj (Option.some.inj e);exact h
  ·rename_i x hx
   split at e
   ·refine ajt hs fu _ _ _ _ _ (fun y hy=>?_) e
    rcases pZ _ _ y hy with hy | hy
    ·exact h y hy
    ·exact hs x (h x (List.mem_of_getElem? hx)) y hy
   ·cases e
end
end Go.Val
namespace Go.Val
def lW (N:List (List Int)) (s c:Nat):Nat:=((N.getD s []).getD c 0).toNat
def dRun (N:List (List Int)) (s:Nat) (cs:List Nat):Nat:=cs.foldl (lW N) s
theorem apf {N:List (List Int)} {s c k:Nat} {r:List Int} (h1:N[s]? =some r) (h2:r[c]? =some (k:Int)):lW N s c=k:=by
 unfold lW
 rw[List.getD_eq_getElem?_getD,List.getD_eq_getElem?_getD,h1,Option.getD_some,h2];rfl
theorem bsim {α β:Type} {same:α→α→Bool} {succ:α→List α} {o:List α} {R:List (List Int)} (h:BInv same succ o R o.length) {Q:α→β→Prop} {nx:β→Nat→β} {m:Nat}
  (hQ:∀ x b c,Q x b→c < m→∃ y,(succ x)[c]? =some y∧Q y (nx b c)) (hs:∀ y y' b,y'∈o→same y' y=true→Q y b→Q y' b):
  ∀ (cs:List Nat),(∀ c∈cs,c < m)→∀ (s:Nat) (x:α) (b:β),o[s]? =some x→Q x b→∃ y,o[dRun R s cs]? =some y∧Q y (cs.foldl nx b)
 | [],_,s,x,b,hx,hq=>⟨x,hx,hq⟩
 | c::cs,hc,s,x,b,hx,hq=>by
  obtain ⟨y,hy,hq'⟩:=hQ x b c hq (hc c (by simp))
  obtain ⟨r,h1,_,h3⟩:=h.row s x (List.getElem?_eq_some_iff.1 hx).1 hx
  obtain ⟨k,h4,h5⟩:=h3 c y hy
  obtain ⟨z,hz,hsz⟩:=ajs h5
  have e:lW R s c=k:=apf h1 h4
  show ∃ y,o[dRun R (lW R s c) cs]? =some y∧_
  rw[e]
  exact bsim h hQ hs cs (fun c' hc'=>hc c' (List.mem_cons_of_mem _ hc')) k z _ hz (hs y z _ (List.mem_of_getElem? hz) hsz hq')
section
variable (hit:Int→Int→Bool)
def stepG (S first:List Int) (F:List (List Int)) (at_:List Int) (a:Int):List Int:=
 ((List.range S.length).map fun j:Nat=>(j:Int)+1).filter fun k=>((at_.contains 0&&first.contains k)||at_.any fun i=>decide (0 < i)&&(F.getD (i - 1).toNat []).contains k)&&hit a (S.getD (k - 1).toNat 0)
def yZ (S first:List Int) (F:List (List Int)) (at_:List Int) (a:Int):List Int:=0::stepG hit S first F at_ a
def endG (null:Bool) (last at_:List Int):Bool:=at_.any fun i=>(decide (i=0)&&null)||last.contains i
def stOf (S first:List Int) (F:List (List Int)) (w:List Int):List Int:=w.foldl (yZ hit S first F) [0]
end
section
variable {hit:Int→Int→Bool} {S first:List Int} {F:List (List Int)}
theorem rz {at_:List Int} {a k:Int}:k∈stepG hit S first F at_ a↔(1≤k∧k≤(S.length:Int))∧((0∈at_∧k∈first)∨∃ i∈at_,0 < i∧k∈F.getD (i - 1).toNat [])∧hit a (S.getD (k - 1).toNat 0)=true:=by
 unfold stepG
 simp only[List.mem_filter,List.mem_map,List.mem_range,Bool.and_eq_true,Bool.or_eq_true,List.contains_iff_mem,List.any_eq_true,decide_eq_true_eq]
 constructor
 ·rintro ⟨⟨j,hj,rfl⟩,h⟩
  exact ⟨⟨by omega,by omega⟩,h⟩
 ·rintro ⟨⟨h1,h2⟩,h⟩
  exact ⟨⟨(k - 1).toNat,by omega,by omega⟩,h⟩
theorem sH {at_:List Int} {a:Int}:Rise (stepG hit S first F at_ a):=by
 unfold stepG
 refine List.Pairwise.filter _ ?_
 rw[List.pairwise_map]
 exact (List.pairwise_lt_range).imp fun h=>by omega
theorem xy {w:List Int} {a:Int}:stOf hit S first F (w++[a])=yZ hit S first F (stOf hit S first F w) a:=by
 unfold stOf;rw[List.foldl_append];rfl
theorem wD (w:List Int):0∈stOf hit S first F w:=by
 rcases List.eq_nil_or_concat w with rfl | ⟨w',a,rfl⟩
 ·simp[stOf]
 ·rw[List.concat_eq_append,xy];simp[yZ]
theorem aky {P:GP} {B:GA} (h:gf P ([],[]) B):∀ (v:List Int) (p:Int),p∈stOf hit B.1 P.first B.2 v.reverse↔p=0∨(paOf P B.2 0 (B.1.length:Int)).FR (afN hit B.1) v p
 | [],p=>by simp[stOf,PA.FR]
 | a::v,p=>by
  have ih:=aky h v
  rw[List.reverse_cons,xy]
  unfold yZ
  rw[List.mem_cons,rz]
  refine or_congr Iff.rfl ?_
  simp only[PA.FR,afN]
  have hin:(paOf P B.2 0 (B.1.length:Int)).In 0 (B.1.length:Int):=h.inn
  have lab:∀ {k:Int},1≤k→k≤(B.1.length:Int)→(hit a (B.1.getD (k - 1).toNat 0)=true↔∃ s,B.1[(k - 1).toNat]? =some s∧hit a s=true):=fun {k} h1 h2=>by
   rw[List.getD_eq_getElem?_getD,List.getElem?_eq_getElem (by omega)]
   simp
  constructor
  ·rintro ⟨⟨h1,h2⟩,h3,h4⟩
   refine ⟨(lab h1 h2).1 h4,?_⟩
   rcases h3 with ⟨_,h3⟩ | ⟨i,g1,g2,g3⟩
   ·exact .inl h3
   ·rcases (ih i).1 g1 with e | g1
    ·omega
    ·refine .inr ⟨i,g1,?_⟩
     rw[List.getD_eq_getElem?_getD]at g3
     cases e:B.2[(i - 1).toNat]? with
     | none=>rw[e]at g3;simp at g3
     | some row=>
      rw[e]at g3
      have:=(List.getElem?_eq_some_iff.1 e).1
      rw[h.len]at this
      exact ⟨⟨by omega,by omega⟩,row,e,g3⟩
  ·rintro ⟨h1,h2⟩
   have hp:1≤p∧p≤(B.1.length:Int):=by
    rcases h2 with h2 | ⟨q,_,h2⟩
    ·have:=hin.first _ h2;omega
    ·have:=hin.E _ _ h2;omega
   refine ⟨hp,?_,(lab hp.1 hp.2).2 h1⟩
   rcases h2 with h2 | ⟨q,g1,g2⟩
   ·exact .inl ⟨wD _,h2⟩
   ·have:=hin.E _ _ g2
    obtain ⟨_,row,e,hq⟩:=g2
    refine .inr ⟨q,(ih q).2 (.inr g1),by omega,?_⟩
    rw[List.getD_eq_getElem?_getD,e];exact hq
theorem aqc {P:GP} {B:GA} (h:gf P ([],[]) B) {M:List Int→Prop} (hM:vM hit P ([],[]) B M) (w:List Int):
  endG P.null P.last (stOf hit B.1 P.first B.2 w)=true↔∃ u v,w=u++v∧M v:=by
 have hin:(paOf P B.2 0 (B.1.length:Int)).In 0 (B.1.length:Int):=h.inn
 have h1:(∃ u v,w=u++v∧M v)↔∃ u v,w=u++v∧(paOf P B.2 0 (B.1.length:Int)).L (afN hit B.1) v:=
  exists_congr fun u=>exists_congr fun v=>and_congr Iff.rfl (hM B.1 (List.prefix_refl _) v).symm
 rw[h1,aib]
 unfold endG
 simp only[List.any_eq_true,Bool.or_eq_true,Bool.and_eq_true,decide_eq_true_eq,List.contains_iff_mem]
 have hst:=aky (hit:=hit) h w.reverse
 rw[List.reverse_reverse]at hst
 constructor
 ·rintro ⟨i,g1,⟨_,g2⟩ | g2⟩
  ·exact .inl g2
  ·rcases (hst i).1 g1 with rfl | g1
   ·have:=hin.last 0 g2;omega
   ·exact .inr ⟨i,g1,g2⟩
 ·rintro (g | ⟨q,g1,g2⟩)
  ·exact ⟨0,wD w,.inl ⟨rfl,g⟩⟩
  ·exact ⟨q,(hst q).2 (.inr g1),.inr g2⟩
end
theorem vX (hit:Int→Int→Bool):∀ (n:aE) (w:List Int),Lang hit (gS n) w↔Lang hit n w.reverse:=by
 intro n
 induction n using aE.ind with
 | h n ih=>
 obtain ⟨k,s,l⟩:=n
 have ih':∀ x∈l,∀ w,Lang hit (gS x) w↔Lang hit x w.reverse:=ih
 clear ih
 have one:∀ w,LOne hit (lf l) w↔LOne hit l w.reverse:=by
  intro w
  cases l with
  | nil=>simp[lf,LOne]
  | cons x l=>rw[lf,LOne,LOne];exact ih' x (by simp) w
 have alt:∀ (l:List aE),(∀ x∈l,∀ w,Lang hit (gS x) w↔Lang hit x w.reverse)→∀ w,LAlt hit (lf l) w↔LAlt hit l w.reverse:=by
  intro l
  induction l with
  | nil=>intro _ w;simp[lf,LAlt]
  | cons x l ihl=>intro hl w;simp only[lf,LAlt];exact or_congr (hl x (by simp) w) (ihl (fun y hy=>hl y (by simp[hy])) w)
 have snoc:∀ (l:List aE) (x:aE) (w:List Int),LCat hit (l++[x]) w↔CatP (LCat hit l) (Lang hit x) w:=by
  intro l x
  induction l with
  | nil=>intro w;simp only[List.nil_append,LCat];exact CatP.nilR.trans CatP.nilL.symm
  | cons y l ihl=>
   intro w
   simp only[List.cons_append,LCat]
   exact (CatP.congr (fun _=>Iff.rfl) ihl w).trans CatP.assoc.symm
 have cat:∀ (l:List aE),(∀ x∈l,∀ w,Lang hit (gS x) w↔Lang hit x w.reverse)→∀ w,LCat hit (lf l).reverse w↔LCat hit l w.reverse:=by
  intro l
  induction l with
  | nil=>intro _ w;simp[lf,LCat]
  | cons x l ihl=>
   intro hl w
   rw[lf,List.reverse_cons,snoc,LCat]
   have hl':=ihl (fun y hy=>hl y (by simp[hy]))
   constructor
   ·rintro ⟨u,v,rfl,h1,h2⟩
    exact ⟨v.reverse,u.reverse,by simp,(hl x (by simp) v).1 h2,(hl' u).1 h1⟩
   ·rintro ⟨u,v,e,h1,h2⟩
    exact ⟨v.reverse,u.reverse,by rw[← List.reverse_append,← e,List.reverse_reverse],(hl' _).2 (by rw[List.reverse_reverse];exact h2),(hl x (by simp) _).2 (by rw[List.reverse_reverse];exact h1)⟩
 intro w
 rw[gS,Lang,Lang]
 by_cases h1:k=1
 ·rw[if_pos h1,if_pos h1]
  constructor
  ·rintro ⟨a,rfl,h⟩;exact ⟨a,rfl,h⟩
  ·rintro ⟨a,e,h⟩;exact ⟨a,by simpa using congrArg List.reverse e,h⟩
 rw[if_neg h1,if_neg h1]
 by_cases h0:k=0
 ·rw[if_pos h0,if_pos h0,if_pos h0];exact cat l ih' w
 rw[if_neg h0,if_neg h0,if_neg h0]
 by_cases h2:k=2
 ·rw[if_pos h2,if_pos h2];exact alt l ih' w
 rw[if_neg h2,if_neg h2]
 have star:∀ w,Star (LOne hit (lf l)) w↔Star (LOne hit l) w.reverse:=fun w=>
  ⟨fun h=>h.rev fun w h=>(one w).1 h,fun h=>by
   have:=Star.rev (Q:=LOne hit (lf l)) (fun w h=>(one _).2 (by rw[List.reverse_reverse];exact h)) h
   rwa[List.reverse_reverse]at this⟩
 by_cases h5:k=5
 ·rw[if_pos h5,if_pos h5]
  exact or_congr (by simp) (one w)
 rw[if_neg h5,if_neg h5]
 by_cases h4:k=4
 ·rw[if_pos h4,if_pos h4]
  constructor
  ·rintro ⟨u,v,rfl,h1,h2⟩
   rw[List.reverse_append]
   have h3:Star (LOne hit l) (v.reverse++u.reverse):=((star v).1 h2).app (.one ((one u).1 h1))
   rcases h3.head with e | ⟨a,x,y,e,g1,g2⟩
   ·obtain ⟨e1,e2⟩:=List.append_eq_nil_iff.1 e
    rw[e1,e2]
    exact ⟨[],[],rfl,by rw[← e2];exact (one u).1 h1,.nil⟩
   ·rw[e];exact ⟨a::x,y,rfl,g1,g2⟩
  ·rintro ⟨u,v,e,h1,h2⟩
   have h3:Star (LOne hit (lf l)) (v.reverse++u.reverse):=((star _).2 (by rw[List.reverse_reverse];exact h2)).app (.one ((one _).2 (by rw[List.reverse_reverse];exact h1)))
   have ew:w=v.reverse++u.reverse:=by rw[← List.reverse_append,← e,List.reverse_reverse]
   rw[ew]
   rcases h3.head with e | ⟨a,x,y,e,g1,g2⟩
   ·obtain ⟨e1,e2⟩:=List.append_eq_nil_iff.1 e
    rw[e1,e2]
    exact ⟨[],[],rfl,by rw[← e2];exact (one _).2 (by rw[List.reverse_reverse];exact h1),.nil⟩
   ·rw[e];exact ⟨a::x,y,rfl,g1,g2⟩
 ·rw[if_neg h4,if_neg h4];exact star w
end Go.Val
namespace Go.Val
noncomputable section
def okK (k s:Int) (m:Nat):Bool:=if k=1 then decide (m=0)&&(decide (0≤s)&&decide (s≤63))else if k=0 then true else if k=2 then decide (0 < m)else (decide (3≤k)&&decide (k≤5))&&decide (m=1)
mutual
def okN:aE→Bool
 | ⟨k,s,l⟩=>okK k s l.length&&okNL l
def okNL:List aE→Bool
 | []=>true
 | x::l=>okN x&&okNL l
end
theorem qg (n:aE):okN n=(okK n.Kind n.Set n.Kids.length&&okNL n.Kids):=by cases n;rw[okN]
theorem kA:∀ {l:List aE},okNL l=l.all okN
 | []=>rfl
 | x::l=>by rw[okNL,kA,List.all_cons]
theorem zV {n x:aE} (h:okN n=true) (hx:x∈n.Kids):okN x=true:=by
 rw[qg,Bool.and_eq_true,kA]at h
 exact List.all_eq_true.1 h.2 x hx
theorem awu {l:List aE} {f:aE→Option Bool} {g:aE→Bool} (hf:∀ x∈l,f x=some (g x)) (hl:l.length≤1000000):bS l f=some (l.any g):=by
 unfold bS ay
 have key:∀ d k:Nat,k+d=l.length→∃ i:Int,Loop (ay.b1 l f) (k:Int)=some i∧decide (i≥0)=(l.drop k).any g:=by
  intro d
  induction d with
  | zero=>
   intro k hk
   refine ⟨-1,bK ?_,?_⟩
   ·simp only[ay.b1]
    rw[if_neg (by simp;omega)];rfl
   ·rw[List.drop_of_length_le (by omega)];rfl
  | succ d ih=>
   intro k hk
   have hlt:k < l.length:=by omega
   rw[List.drop_eq_getElem_cons hlt,List.any_cons]
   cases hg:g l[k]with
   | true=>
    refine ⟨k,cM ?_,by simp⟩
    simp only[ay.b1]
    rw[if_pos (by simp;omega),bm,List.getElem?_eq_getElem hlt,Option.bind_some,hf _ (List.getElem_mem _),hg];rfl
   | false=>
    obtain ⟨i,h1,h2⟩:=ih (k+1) (by omega)
    refine ⟨i,?_,by rw[h2];rfl⟩
    rw[bH (s':=((k+1:Nat):Int)),h1]
    simp only[ay.b1]
    rw[if_pos (by simp;omega),bm,List.getElem?_eq_getElem hlt,Option.bind_some,hf _ (List.getElem_mem _),hg,Option.bind_some,if_neg (by simp),w64s (by omega)]
 obtain ⟨i,h1,h2⟩:=key l.length 0 (by omega)
 have h1':Loop (ay.b1 l f) (0:Int)=some i:=h1
 rw[h1',Option.bind_some,h2,List.drop_zero]
theorem an6:∀ (n:aE) (fu:Nat),di n≤fu→di n≤100000→aW.r fu n=some (okN n):=by
 intro n
 induction n using aE.ind with
 | h n ih=>
 intro fu hfu hsz
 cases fu with
 | zero=>have:=gB n;omega
 | succ fu=>
 have hk1:∀ fits:Bool,aW.k1 (aW.r fu) n fits=some (fits&&okNL n.Kids):=by
  intro fits
  unfold aW.k1
  cases fits with
  | false=>rfl
  | true=>
   rw[if_pos rfl,awu (g:=fun x=>!okN x) (fun x hx=>?_) (by have:=oF n;omega)]
   ·simp only[Option.bind_some,Bool.true_and,kA]
    congr 1
    rw[Bool.eq_iff_iff]
    simp
   ·unfold gu
    rw[ih x hx fu (by have:=eE hx;omega) (by have:=eE hx;omega)];rfl
 have hk2:∀ b:Bool,aW.k2 (aW.r fu) n b=some ((b&&decide (n.Kids.length=1))&&okNL n.Kids):=by
  intro b
  unfold aW.k2
  cases b with
  | false=>rw[if_neg (by simp),hk1];rfl
  | true=>
   rw[if_pos rfl,hk1]
   congr 2
   rw[Bool.eq_iff_iff]
   simp only[beq_iff_eq,Bool.true_and,decide_eq_true_eq]
   omega
 rw[aW.r,qg]
 unfold okK
 by_cases h1:n.Kind=1
 ·rw[if_pos (by simp[h1]),if_pos h1]
  by_cases h2:n.Kids.length=0
  ·rw[if_pos (by simp[h2])]
   by_cases h3:0≤n.Set
   ·rw[if_pos (by simpa using h3),hk1];simp[h2,h3]
   ·rw[if_neg (by simpa using h3),hk1];simp[h3]
  ·rw[if_neg (by simpa using h2),hk1];simp[h2]
 rw[if_neg (by simpa using h1),if_neg h1]
 by_cases h0:n.Kind=0
 ·rw[if_pos (by simp[h0]),if_pos h0,hk1]
 rw[if_neg (by simpa using h0),if_neg h0]
 by_cases h2:n.Kind=2
 ·rw[if_pos (by simp[h2]),if_pos h2,hk1];simp
 rw[if_neg (by simpa using h2),if_neg h2]
 by_cases h3:n.Kind=3
 ·rw[if_pos (by simp[h3]),hk2];simp[h3]
 rw[if_neg (by simpa using h3)]
 by_cases h4:n.Kind=4
 ·rw[if_pos (by simp[h4]),hk2];simp[h4]
 rw[if_neg (by simpa using h4),hk2]
 congr 2
 rw[Bool.eq_iff_iff]
 simp only[Bool.and_eq_true,beq_iff_eq,decide_eq_true_eq]
 omega
theorem al3 {n:aE} (h:di n≤100000):aW n=some (okN n):=tg (di n) fun fu hf=>an6 n fu hf h
theorem wX {sets:Nat} {k:Int}:∀ {l:List aE} {d g:Nat} {x:aE},pt sets k l d g=true→x∈l→lX sets x (rZ k x d) g=true
 | y::l,d,g,x,h,hx=>by
  rw[pt]at h
  simp only[Bool.and_eq_true]at h
  rcases List.mem_cons.1 hx with rfl | hx
  ·exact h.2.1
  ·exact wX h.2.2 hx
theorem ads {sets:Nat} (hs:sets≤60):∀ (n:aE) (d g:Nat),lX sets n d g=true→okN n=true:=by
 intro n
 induction n using aE.ind with
 | h n ih=>
 intro d g h
 rw[ug]at h
 rw[qg]
 unfold okK
 by_cases h1:n.Kind=1
 ·rw[if_pos h1]at h ⊢
  simp only[Bool.and_eq_true,decide_eq_true_eq,List.isEmpty_iff]at h ⊢
  rw[h.1]
  exact ⟨⟨rfl,h.2.1,by omega⟩,rfl⟩
 rw[if_neg h1]at h ⊢
 simp only[Bool.and_eq_true,decide_eq_true_eq]at h
 have hfit:=h.2.1
 have hl:okNL n.Kids=true:=by
  rw[kA,List.all_eq_true]
  intro x hx
  have:=wX h.2.2.2 hx
  exact ih x hx _ _ this
 rw[hl,Bool.and_true]
 unfold zA ad6 at hfit
 by_cases h0:n.Kind=0
 ·rw[if_pos h0]
 rw[if_neg h0]at hfit ⊢
 by_cases h2:n.Kind=2
 ·rw[if_pos h2]at hfit ⊢
  simp only[decide_eq_true_eq]at hfit ⊢;omega
 ·rw[if_neg h2]at hfit ⊢;exact hfit
end
end Go.Val
namespace Go.Val
noncomputable section
theorem asH:∀ (n:aE) (fu:Nat),di n≤fu→di n≤100000→∃ c:Nat,bh.r fu n=some (c:Int)∧c≤di n:=by
 intro n
 induction n using aE.ind with
 | h n ih=>
 intro fu hfu hsz
 cases fu with
 | zero=>have:=gB n;omega
 | succ fu=>
 rw[bh.r]
 by_cases h1:n.Kind=1
 ·rw[if_pos (by simp[h1])]
  exact ⟨1,rfl,gB n⟩
 rw[if_neg (by simpa using h1)]
 have loop:∀ (l:List aE) (i k:Nat),n.Kids.drop i=l→k+dt l≤di n→∃ c:Nat,Loop (bh.b1 (bh.r fu) n) ((k:Int),(i:Int))=some (c:Int)∧c≤k+dt l:=by
  intro l
  induction l with
  | nil=>
   intro i k hl hb
   have hi:n.Kids.length≤i:=List.drop_eq_nil_iff.1 hl
   refine ⟨k,bK ?_,by omega⟩
   simp only[bh.b1]
   rw[if_neg (by simp;omega)];rfl
  | cons x l ihl=>
   intro i k hl hb
   obtain ⟨hil,hx,hd⟩:=drop_cons hl
   have hxm:x∈n.Kids:=hx ▸ List.getElem_mem hil
   rw[dt]at hb ⊢
   obtain ⟨c,h1,h2⟩:=ih x hxm fu (by have:=eE hxm;omega) (by have:=eE hxm;omega)
   obtain ⟨c',h3,h4⟩:=ihl (i+1) (k+c) hd (by omega)
   refine ⟨c',?_,by omega⟩
   rw[← h3]
   refine bH ?_
   simp only[bh.b1]
   rw[if_pos (by simpa using hil),bm,List.getElem?_eq_getElem hil,Option.bind_some,hx,h1,Option.bind_some,w64 (n:=(k:Int)+(c:Int)) (by omega) (by omega),w64s (by have:=oF n;omega)]
   rfl
 have hs:=jj n
 obtain ⟨c,h1,h2⟩:=loop n.Kids 0 0 rfl (by omega)
 exact ⟨c,h1,by omega⟩
theorem count_eq {n:aE} (h:di n≤100000):∃ c:Nat,bh n=some (c:Int)∧c≤di n:=by
 have hst:∀ fu,di n≤fu→bh.r fu n=bh.r (di n) n:=by
  have key:∀ (n:aE) (fu:Nat),di n≤fu→bh.r fu n=bh.r (di n) n:=by
   intro n
   induction n using aE.ind with
   | h n ih=>
   intro fu hfu
   have hp:=gB n
   obtain ⟨fu,rfl⟩:∃ k,fu=k+1:=⟨fu - 1,by omega⟩
   obtain ⟨m,hm⟩:∃ m,di n=m+1:=⟨di n - 1,by omega⟩
   rw[hm,bh.r,bh.r]
   have hb:bh.b1 (bh.r fu) n=bh.b1 (bh.r m) n:=by
    funext p
    obtain ⟨k,v⟩:=p
    simp only[bh.b1]
    split
    ·cases hx:idx n.Kids v with
     | none=>rfl
     | some x=>
      have hxm:x∈n.Kids:=by
       unfold idx at hx
       split at hx
       ·cases hx
       ·exact List.mem_of_getElem? hx
      have hk:=eE hxm
      rw[Option.bind_some,Option.bind_some,ih x hxm fu (by omega),ih x hxm m (by omega)]
    ·rfl
   rw[hb]
  exact key n
 obtain ⟨c,h1,h2⟩:=asH n (di n) (Nat.le_refl _) h
 exact ⟨c,tg (di n) fun fu hfu=>by rw[hst fu hfu,h1],h2⟩
theorem ajO {p q:List Int} (h:p.length+q.length≤1000000):aj [p,q]=some (p++q):=by
 unfold aj
 have e1:aj.b2 [p,q] ((0:Int),(0:Int))=some (.next ((p.length:Int),(1:Int))):=by
  simp only[aj.b2]
  rw[if_pos (by simp)]
  show (some p).bind _=_
  rw[Option.bind_some,w64 (n:=0+(p.length:Int)) (by omega) (by omega),if_neg (by simp)]
  simp[show IntKind.i64.wrap 1=1 by decide]
 have e2:aj.b2 [p,q] ((p.length:Int),(1:Int))=some (.next (((p.length+q.length:Nat):Int),(2:Int))):=by
  simp only[aj.b2]
  rw[if_pos (by simp)]
  show (some q).bind _=_
  rw[Option.bind_some,w64 (n:=(p.length:Int)+(q.length:Int)) (by omega) (by omega),if_neg (by simp;omega)]
  simp[show IntKind.i64.wrap 2=2 by decide]
 rw[bH e1,bH e2]
 refine bK ?_
 simp only[aj.b2]
 rw[if_neg (by simp)]
 unfold aj.k1 cX
 rw[if_pos ⟨rfl,by omega,by omega⟩,Option.bind_some]
 congr 1
 have f1:aj.b1 [p,q] ([],(0:Int))=some (.next (p,(1:Int))):=by
  simp only[aj.b1]
  rw[if_pos (by simp)]
  show (some p).bind _=_
  rw[Option.bind_some,cy (by simp;omega)]
  simp[show IntKind.i64.wrap 1=1 by decide]
 have f2:aj.b1 [p,q] (p,(1:Int))=some (.next (p++q,(2:Int))):=by
  simp only[aj.b1]
  rw[if_pos (by simp)]
  show (some q).bind _=_
  rw[Option.bind_some,cy (by omega)]
  simp[show IntKind.i64.wrap 2=2 by decide]
 rw[bH f1,bH f2]
 refine bK ?_
 simp only[aj.b1]
 rw[if_neg (by simp)];rfl
theorem aiL {p q:List Int} (h:p.length+q.length≤1000000):bI p q=some (uni [] (p++q)):=by
 unfold bI
 have hr:dn=140737488355328:=rfl
 rw[ajO h,Option.bind_some]
 unfold rK
 rw[if_pos (by simp;omega),Option.bind_some]
 unfold bW
 have hlen:((p++q).mergeSort fun x y=>decide (x≤y)).length=(p++q).length:=List.length_mergeSort ..
 rw[if_pos (by rw[hlen];simp;omega),Option.bind_some]
 congr 1
 have hs:((p++q).mergeSort fun x y=>decide (x≤y)).Pairwise (· ≤ ·):=by
  have:=List.pairwise_mergeSort (le:=fun x y:Int=>decide (x≤y)) (fun a b c h1 h2=>by simp only[decide_eq_true_eq]at*;omega) (fun a b=>by simp only[Bool.or_eq_true,decide_eq_true_eq];omega) (p++q)
  exact this.imp fun h=>by simpa using h
 obtain ⟨c1,c2,_⟩:=lC hs
 refine mU c1 (fI List.Pairwise.nil) fun x=>?_
 rw[c2,gO,List.mem_mergeSort]
 simp
theorem aiR {p q:List Int} (hp:Rise p) (h:p.length+q.length≤1000000):bI p q=some (uni p q):=by
 rw[aiL h]
 congr 1
 refine mU (fI List.Pairwise.nil) (fI hp) fun x=>?_
 rw[gO,gO,List.mem_append];simp
structure Bd (N:Nat) (l:List Int):Prop where
 rise:Rise l
 le:∀ q∈l,1≤q∧q≤(N:Int)
theorem adw:∀ {l:List Int} {a b:Int},Rise l→(∀ q∈l,a≤q∧q≤b)→(l.length:Int)≤b - a+1∨l=[]
 | [],a,b,_,_=>.inr rfl
 | x::l,a,b,h,hl=>by
  obtain ⟨h1,h2⟩:=List.pairwise_cons.1 h
  have hx:=hl x (by simp)
  left
  rcases adw (a:=x+1) (b:=b) h2 (fun q hq=>⟨by have:=h1 q hq;omega,(hl q (by simp[hq])).2⟩)with h3 | h3
  ·simp only[List.length_cons];omega
  ·subst h3;simp;omega
theorem Bd.len {N:Nat} {l:List Int} (h:Bd N l):l.length≤N:=by
 rcases adw h.rise h.le with h1 | h1
 ·omega
 ·subst h1;simp
theorem Bd.uni {N:Nat} {x y:List Int} (hx:Bd N x) (hy:Bd N y):Bd N (uni x y):=⟨fI hx.rise,fun q hq=>(gO.1 hq).elim (hx.le q) (hy.le q)⟩
theorem Bd.nil {N:Nat}:Bd N []:=⟨List.Pairwise.nil,fun q h=>by cases h⟩
theorem Bd.mono {N M:Nat} {l:List Int} (h:Bd N l) (hm:N≤M):Bd M l:=⟨h.rise,fun q hq=>by have:=h.le q hq;omega⟩
theorem qZ {N:Nat} {x y:List Int} (hN:N≤1000) (hx:Bd N x) (hy:Bd N y):bI x y=some (uni x y):=aiR hx.rise (by have:=hx.len;have:=hy.len;omega)
def uX (N:Nat) (F:List (List Int)):Prop:=∀ row∈F,Bd N row
theorem aee {F:List (List Int)} {l first:List Int} {i:Int}:fl F (l++[i]) first=(fl F l first).set (i - 1).toNat (uni ((fl F l first).getD (i - 1).toNat []) first):=by
 unfold fl;rw[List.foldl_append];rfl
theorem ada {N:Nat} {first:List Int} (hf:Bd N first):∀ {last:List Int} {F:List (List Int)},uX N F→uX N (fl F last first)
 | [],F,h=>h
 | i::last,F,h=>by
  show uX N (fl (F.set _ _) last first)
  refine ada hf fun row hr=>?_
  rcases List.mem_or_eq_of_mem_set hr with hr | rfl
  ·exact h row hr
  ·refine Bd.uni ?_ hf
   rw[List.getD_eq_getElem?_getD]
   cases e:F[(i - 1).toNat]? with
   | none=>exact Bd.nil
   | some r=>exact h r (List.mem_of_getElem? e)
theorem al1 {N:Nat} (hN:N≤1000) {a:cc} {last first:List Int} (hF:uX N a.Follow) (hf:Bd N first) (hl:Bd N last) (hlen:∀ i∈last,i≤(a.Follow.length:Int)):
  cd last first a=some ⟨a.Null,a.Sets,a.First,a.Last,fl a.Follow last first⟩:=by
 unfold cd
 have hll:=hl.len
 have hrun:=eu (b:=cd.b1 last first a) (fun j:Nat=>((j:Int),fl a.Follow (last.take j) first)) (i:=0) (n:=last.length) (Nat.zero_le _) (fun j _ hj=>by
  simp only[cd.b1]
  have hi:=hl.le last[j] (List.getElem_mem _)
  have hi2:=hlen last[j] (List.getElem_mem _)
  have hw:IntKind.i64.wrap (last[j] - 1)=(((last[j] - 1).toNat:Nat):Int):=by rw[w64 (by omega) (by omega)];omega
  have hlt:(last[j] - 1).toNat < (fl a.Follow (last.take j) first).length:=by rw[jA];omega
  have hrow:Bd N (fl a.Follow (last.take j) first)[(last[j] - 1).toNat]:=ada hf hF _ (List.getElem_mem _)
  rw[if_pos (by simpa using hj),bm,List.getElem?_eq_getElem hj,Option.bind_some,hw,bm,List.getElem?_eq_getElem hlt,Option.bind_some,qZ hN hrow hf,Option.bind_some,w64s (by omega)]
  simp only[Int.toNat_natCast]
  rw[dJ hj,aee,List.getD_eq_getElem?_getD,List.getElem?_eq_getElem hlt];rfl)
 have h0:((0:Int),a.Follow)=(fun j:Nat=>((j:Int),fl a.Follow (last.take j) first)) 0:=rfl
 rw[h0,hrun]
 refine bK ?_
 simp only[cd.b1]
 rw[if_neg (by simp),List.take_length];rfl
def gp (x:GP):aq:=⟨x.null,x.first,x.last⟩
theorem then_eq {N:Nat} (hN:N≤1000) {a:cc} {x y:GP} (hF:uX N a.Follow) (h1:Bd N x.first) (h2:Bd N x.last) (h3:Bd N y.first) (h4:Bd N y.last) (hlen:∀ i∈x.last,i≤(a.Follow.length:Int)):
  bx (gp x) (gp y) a=some (gp (mH x y),⟨a.Null,a.Sets,a.First,a.Last,fl a.Follow x.last y.first⟩):=by
 obtain ⟨xn,xf,xl⟩:=x
 obtain ⟨yn,yf,yl⟩:=y
 show bx ⟨xn,xf,xl⟩ ⟨yn,yf,yl⟩ a=_
 have k1:∀ (r:cc) (fi:List Int),bx.k1 ⟨xn,xf,xl⟩ ⟨yn,yf,yl⟩ r fi=some (⟨xn&&yn,fi,if yn then uni xl yl else yl⟩,r):=by
  intro r fi
  unfold bx.k1
  cases yn with
  | true=>rw[if_pos rfl,qZ hN h2 h4];rfl
  | false=>rw[if_neg (by simp)];rfl
 unfold bx
 rw[al1 hN hF h3 h2 hlen,Option.bind_some]
 cases xn with
 | true=>rw[if_pos rfl,qZ hN h1 h3,Option.bind_some,k1];rfl
 | false=>rw[if_neg (by simp),k1];rfl
theorem or_eq {N:Nat} (hN:N≤1000) {x y:GP} (h1:Bd N x.first) (h2:Bd N x.last) (h3:Bd N y.first) (h4:Bd N y.last):eN (gp x) (gp y)=some (gp (orP x y)):=by
 obtain ⟨xn,xf,xl⟩:=x
 obtain ⟨yn,yf,yl⟩:=y
 show eN ⟨xn,xf,xl⟩ ⟨yn,yf,yl⟩=_
 unfold eN
 rw[qZ hN h1 h3,qZ hN h2 h4]
 cases xn with
 | true=>rw[if_pos rfl];rfl
 | false=>rw[if_neg (by simp)];rfl
end
end Go.Val
namespace Go.Val
noncomputable section
theorem tZ:∀ (n:aE) (A:GA),(glu n A).2.1.length≤A.1.length+di n:=by
 intro n
 induction n using aE.ind with
 | h n ih=>
 intro A
 obtain ⟨k,s,l⟩:=n
 have ih':∀ x∈l,∀ A,(glu x A).2.1.length≤A.1.length+di x:=ih
 have cat:∀ (l':List aE),(∀ x∈l',x∈l)→∀ (out:GP) (A:GA),(ij l' out A).2.1.length≤A.1.length+dt l':=by
  intro l'
  induction l' with
  | nil=>intro _ out A;rw[ij,dt];exact Nat.le_refl _
  | cons x l' ihl=>
   intro hl out A
   rw[ij,dt]
   have h1:=ih' x (hl x (by simp)) A
   have h2:=ihl (fun y hy=>hl y (by simp[hy])) (mH out (glu x A).1) ((glu x A).2.1,fl (glu x A).2.2 out.last (glu x A).1.first)
   simp only at h2;omega
 have alt:∀ (l':List aE),(∀ x∈l',x∈l)→∀ (out:GP) (A:GA),(gZ l' out A).2.1.length≤A.1.length+dt l':=by
  intro l'
  induction l' with
  | nil=>intro _ out A;rw[gZ,dt];exact Nat.le_refl _
  | cons x l' ihl=>
   intro hl out A
   rw[gZ,dt]
   have h1:=ih' x (hl x (by simp)) A
   have h2:=ihl (fun y hy=>hl y (by simp[hy])) (orP out (glu x A).1) (glu x A).2
   omega
 have hs:=jj ⟨k,s,l⟩
 simp only at hs
 rw[glu]
 split
 ·simp only[List.length_append,List.length_singleton];omega
 ·split
  ·have:=cat l (fun x hx=>hx) ⟨true,[],[]⟩ A;omega
  ·split
   ·have:=alt l (fun x hx=>hx) ⟨false,[],[]⟩ A;omega
   ·have:(cA l A).2.1.length≤A.1.length+dt l:=by
     cases l with
     | nil=>rw[cA];exact Nat.le_add_right _ _
     | cons x l=>rw[cA,dt];have:=ih' x (by simp) A;omega
    simp only;omega
structure In2 (N:Nat) (P:GP) (A B:GA):Prop where
 g:gf P A B
 len:B.1.length≤N
 bd:uX N A.2
theorem In2.all {N:Nat} {P:GP} {A B:GA} (h:In2 N P A B):uX N B.2:=by
 intro row hr
 obtain ⟨j,hj,rfl⟩:=List.getElem_of_mem hr
 by_cases hb:j < A.1.length
 ·have:=h.g.old j hb
  rw[List.getElem?_eq_getElem hj]at this
  exact h.bd _ (List.mem_of_getElem? this.symm)
 ·refine ⟨h.g.rows j _ (by omega) (List.getElem?_eq_getElem hj),fun q hq=>?_⟩
  have hjl:j < B.1.length:=by rw[← h.g.len];exact hj
  have:=(h.g.inn.E ((j:Int)+1) q ⟨⟨by omega,by omega⟩,B.2[j],by
   rw[show ((j:Int)+1 - 1).toNat=j by omega];exact List.getElem?_eq_getElem hj,hq⟩).2
  have:=h.len
  omega
theorem In2.first {N:Nat} {P:GP} {A B:GA} (h:In2 N P A B):Bd N P.first:=⟨h.g.firsts,fun q hq=>by have:=h.g.inn.first q hq;have:=h.len;omega⟩
theorem In2.last {N:Nat} {P:GP} {A B:GA} (h:In2 N P A B):Bd N P.last:=⟨h.g.lasts,fun q hq=>by have:=h.g.inn.last q hq;have:=h.len;omega⟩
theorem asi:∀ (n:aE) (fu:Nat) (A:GA) (nu:Bool) (fi la:List Int),di n≤fu→okN n=true→A.1.length+di n≤1000→A.2.length=A.1.length→uX 1000 A.2→
  aH.r fu ⟨nu,A.1,fi,la,A.2⟩ n=some (gp (glu n A).1,⟨nu,(glu n A).2.1,fi,la,(glu n A).2.2⟩):=by
 intro n
 induction n using aE.ind with
 | h n ih=>
 intro fu A nu fi la hfu hok hsz hA hbd
 have hp:=gB n
 obtain ⟨fu,rfl⟩:∃ k,fu=k+1:=⟨fu - 1,by omega⟩
 have hs:=jj n
 have gl:∀ (x:aE) (A:GA),A.2.length=A.1.length→gf (glu x A).1 A (glu x A).2:=fun x A h=>(asf (hit:=fun _ _=>true) x A h).2.1
 have cat:∀ (l:List aE) (i:Nat),n.Kids.drop i=l→∀ (out:GP) (A0 B:GA),In2 1000 out A0 B→B.1.length+dt l≤1000→
   Loop (aH.b1 (aH.r fu) n) ((i:Int),out.null,out.first,out.last,nu,B.1,fi,la,B.2)=some (gp (ij l out B).1,⟨nu,(ij l out B).2.1,fi,la,(ij l out B).2.2⟩):=by
  intro l
  induction l with
  | nil=>
   intro i hl out A0 B hI hb
   have hi:n.Kids.length≤i:=List.drop_eq_nil_iff.1 hl
   refine bK ?_
   simp only[aH.b1]
   rw[if_neg (by simp;omega)];rfl
  | cons x l ihl=>
   intro i hl out A0 B hI hb
   obtain ⟨hil,hx,hd⟩:=drop_cons hl
   have hxm:x∈n.Kids:=hx ▸ List.getElem_mem hil
   have hk:=eE hxm
   rw[dt]at hb
   have h1:=ih x hxm fu B nu fi la (by omega) (zV hok hxm) (by omega) hI.g.len hI.all
   have hgx:=gl x B hI.g.len
   have hlx:=tZ x B
   have hIx:In2 1000 (glu x B).1 B (glu x B).2:=⟨hgx,by omega,hI.all⟩
   have h2:=then_eq (N:=1000) (Nat.le_refl _) (a:=⟨nu,(glu x B).2.1,fi,la,(glu x B).2.2⟩) (x:=out) (y:=(glu x B).1) hIx.all hI.first hI.last hIx.first hIx.last (fun q hq=>by
    have h3:=(hI.g.inn.last q hq).2
    have h4:=hgx.sets.length_le
    show q≤((glu x B).2.2.length:Int)
    rw[hgx.len];omega)
   have hI2:In2 1000 (mH out (glu x B).1) A0 ((glu x B).2.1,fl (glu x B).2.2 out.last (glu x B).1.first):=⟨hI.g.then_ hgx,by simp only;omega,hI.bd⟩
   have h5:=ihl (i+1) hd (mH out (glu x B).1) A0 ((glu x B).2.1,fl (glu x B).2.2 out.last (glu x B).1.first) hI2 (by simp only;omega)
   rw[ij,← h5]
   refine bH ?_
   simp only[aH.b1]
   have e1:(⟨out.null,out.first,out.last⟩:aq)=gp out:=rfl
   rw[if_pos (by simpa using hil),bm,List.getElem?_eq_getElem hil,Option.bind_some,hx,h1,Option.bind_some,e1,h2,Option.bind_some,w64s (by have:=oF n;omega)]
   rfl
 have alt:∀ (l:List aE) (i:Nat),n.Kids.drop i=l→∀ (out:GP) (A0 B:GA),In2 1000 out A0 B→B.1.length+dt l≤1000→
   Loop (aH.b2 (aH.r fu) n) ((i:Int),out.null,out.first,out.last,nu,B.1,fi,la,B.2)=some (gp (gZ l out B).1,⟨nu,(gZ l out B).2.1,fi,la,(gZ l out B).2.2⟩):=by
  intro l
  induction l with
  | nil=>
   intro i hl out A0 B hI hb
   have hi:n.Kids.length≤i:=List.drop_eq_nil_iff.1 hl
   refine bK ?_
   simp only[aH.b2]
   rw[if_neg (by simp;omega)];rfl
  | cons x l ihl=>
   intro i hl out A0 B hI hb
   obtain ⟨hil,hx,hd⟩:=drop_cons hl
   have hxm:x∈n.Kids:=hx ▸ List.getElem_mem hil
   have hk:=eE hxm
   rw[dt]at hb
   have h1:=ih x hxm fu B nu fi la (by omega) (zV hok hxm) (by omega) hI.g.len hI.all
   have hgx:=gl x B hI.g.len
   have hlx:=tZ x B
   have hIx:In2 1000 (glu x B).1 B (glu x B).2:=⟨hgx,by omega,hI.all⟩
   have h2:=or_eq (N:=1000) (Nat.le_refl _) (x:=out) (y:=(glu x B).1) hI.first hI.last hIx.first hIx.last
   have hI2:In2 1000 (orP out (glu x B).1) A0 (glu x B).2:=⟨hI.g.or_ hgx,by omega,hI.bd⟩
   have h5:=ihl (i+1) hd (orP out (glu x B).1) A0 (glu x B).2 hI2 (by omega)
   rw[gZ,← h5]
   refine bH ?_
   simp only[aH.b2]
   have e1:(⟨out.null,out.first,out.last⟩:aq)=gp out:=rfl
   rw[if_pos (by simpa using hil),bm,List.getElem?_eq_getElem hil,Option.bind_some,hx,h1,Option.bind_some,e1,h2,Option.bind_some,w64s (by have:=oF n;omega)]
   rfl
 have st:∀ z,In2 1000 ⟨z,[],[]⟩ A A:=fun z=>⟨gf.start z hA,by omega,hbd⟩
 obtain ⟨k,s,l⟩:=n
 simp only at hs
 rw[aH.r,glu]
 simp only
 by_cases h1:k=1
 ·subst h1
  rw[if_pos (by rfl),if_pos rfl,cy (by omega),Option.bind_some,cy (by rw[hA];omega),Option.bind_some]
  simp[gp]
 rw[if_neg (by simpa using h1),if_neg h1]
 by_cases h0:k=0
 ·subst h0
  rw[if_pos (by rfl),if_pos rfl]
  exact cat l 0 rfl ⟨true,[],[]⟩ A A (st true) (by omega)
 rw[if_neg (by simpa using h0),if_neg h0]
 by_cases h2:k=2
 ·subst h2
  rw[if_pos (by rfl),if_pos rfl]
  exact alt l 0 rfl ⟨false,[],[]⟩ A A (st false) (by omega)
 rw[if_neg (by simpa using h2),if_neg h2]
 have hok':=hok
 rw[qg]at hok'
 simp only[okK,if_neg h1,if_neg h0,if_neg h2,Bool.and_eq_true,decide_eq_true_eq]at hok'
 obtain ⟨x,rfl⟩:∃ x,l=[x]:=by
  match l,hok'.1.2 with
  | [x],_=>exact ⟨x,rfl⟩
 have hk:di x < di ⟨k,s,[x]⟩:=eE (n:=⟨k,s,[x]⟩) (by simp)
 have hx:=ih x (by simp) fu A nu fi la (by omega) (zV (n:=⟨k,s,[x]⟩) hok (by simp)) (by omega) hA hbd
 have hgx:=gl x A hA
 have hlx:=tZ x A
 have hIx:In2 1000 (glu x A).1 A (glu x A).2:=⟨hgx,by omega,hbd⟩
 unfold aH.k1
 simp only[List.getElem?_cons_zero,Option.bind_some,cA]
 rw[hx,Option.bind_some]
 by_cases h5:k=5
 ·subst h5
  rw[if_neg (by simp)]
  simp[aH.k2,gp]
 ·rw[if_pos (by simpa using h5),if_neg h5]
  simp only[gp]
  rw[al1 (N:=1000) (Nat.le_refl _) (a:=⟨nu,(glu x A).2.1,fi,la,(glu x A).2.2⟩) hIx.all hIx.first hIx.last (fun q hq=>by
   have h3:=(hgx.inn.last q hq).2
   show q≤((glu x A).2.2.length:Int)
   rw[hgx.len];omega),Option.bind_some]
  simp only[aH.k2]
  congr 4
  rw[Bool.eq_iff_iff];simp
def nC (n:aE):cc:=⟨(glu n ([],[])).1.null,(glu n ([],[])).2.1,(glu n ([],[])).1.first,(glu n ([],[])).1.last,(glu n ([],[])).2.2⟩
theorem uG {n:aE} (hok:okN n=true) (h:di n≤200):gW n=some (nC n,0):=by
 unfold gW
 rw[al3 (by omega),hok,Option.bind_some,if_neg (by simp)]
 obtain ⟨c,h1,h2⟩:=count_eq (n:=n) (by omega)
 rw[h1,Option.bind_some,if_neg (by simp;omega)]
 have hb:aH ⟨false,[],[],[],[]⟩ n=some (gp (glu n ([],[])).1,⟨false,(glu n ([],[])).2.1,[],[],(glu n ([],[])).2.2⟩):=
  tg (di n) fun fu hf=>asi n fu ([],[]) false [] [] hf hok (by simp;omega) rfl (fun row hr=>by cases hr)
 rw[hb];rfl
end
end Go.Val
namespace Go.Val
noncomputable section
theorem fH {α:Type} {xs:List α} {i:Nat} (h:i < xs.length):idx xs (i:Int)=some xs[i]:=by rw[bm,List.getElem?_eq_getElem h]
theorem nL:∀ {l:List aE},lf l=l.map gS
 | []=>rfl
 | x::l=>by rw[lf,nL,List.map_cons]
theorem avZ:∀ (n:aE) (fu:Nat),di n≤fu→di n≤100000→bM.r fu n=some (gS n):=by
 intro n
 induction n using aE.ind with
 | h n ih=>
 intro fu hfu hsz
 have hp:=gB n
 obtain ⟨fu,rfl⟩:∃ k,fu=k+1:=⟨fu - 1,by omega⟩
 rw[bM.r]
 have hkl:=oF n
 have hrun:=eu (b:=bM.b1 (bM.r fu) n) (fun j:Nat=>(((n.Kids.take j).map gS,(j:Int)):List aE×Int)) (i:=0) (n:=n.Kids.length) (Nat.zero_le _) (fun j _ hj=>by
  simp only[bM.b1]
  have hm:n.Kids[j]∈n.Kids:=List.getElem_mem hj
  have hk:=eE hm
  rw[if_pos (by simpa using hj),fH hj,Option.bind_some,ih _ hm fu (by omega) (by omega),Option.bind_some,cy (by simp;omega),Option.bind_some,w64s (by omega),dJ hj,List.map_append]
  rfl)
 have h0:(([]:List aE),(0:Int))=(fun j:Nat=>(((n.Kids.take j).map gS,(j:Int)):List aE×Int)) 0:=rfl
 rw[h0,hrun]
 refine bK ?_
 simp only[bM.b1]
 rw[if_neg (by simp),List.take_length]
 unfold bM.k1 bM.k2 revN
 obtain ⟨k,s,l⟩:=n
 simp only at hkl ⊢
 rw[gS,nL]
 by_cases h0:k=0
 ·subst h0
  have hr:dn=140737488355328:=rfl
  rw[if_pos (by rfl),if_pos (by simp;omega),if_pos rfl];rfl
 ·rw[if_neg (by simpa using h0),if_neg h0]
theorem ar6 {n:aE} (h:di n≤100000):bM n=some (gS n):=tg (di n) fun fu hf=>avZ n fu hf h
theorem alG:∀ n:aE,di (gS n)=di n:=by
 intro n
 induction n using aE.ind with
 | h n ih=>
 obtain ⟨k,s,l⟩:=n
 have hl:∀ l':List aE,(∀ x∈l',x∈l)→dt (l'.map gS)=dt l':=by
  intro l'
  induction l' with
  | nil=>intro _;rfl
  | cons x l' ihl=>
   intro h
   rw[List.map_cons,dt,dt,ihl (fun y hy=>h y (by simp[hy])),ih x (h x (by simp))]
 have ha:∀ a b:List aE,dt (a++b)=dt a+dt b:=by
  intro a b
  induction a with
  | nil=>simp[dt]
  | cons x a iha=>rw[List.cons_append,dt,dt,iha];omega
 have hv:∀ a:List aE,dt a.reverse=dt a:=by
  intro a
  induction a with
  | nil=>rfl
  | cons x a iha=>rw[List.reverse_cons,ha,iha,dt,dt,dt];omega
 rw[gS,jj,jj]
 simp only
 rw[nL]
 split
 ·rw[hv,hl l fun x h=>h]
 ·rw[hl l fun x h=>h]
theorem arK:∀ n:aE,okN (gS n)=okN n:=by
 intro n
 induction n using aE.ind with
 | h n ih=>
 obtain ⟨k,s,l⟩:=n
 have hl:∀ l':List aE,(∀ x∈l',x∈l)→(l'.map gS).all okN=l'.all okN:=by
  intro l'
  induction l' with
  | nil=>intro _;rfl
  | cons x l' ihl=>
   intro h
   rw[List.map_cons,List.all_cons,List.all_cons,ihl (fun y hy=>h y (by simp[hy])),ih x (h x (by simp))]
 rw[gS,qg,qg]
 simp only
 rw[nL,kA,kA]
 split
 ·rw[List.length_reverse,List.length_map,List.all_reverse,hl l fun x h=>h]
 ·rw[List.length_map,hl l fun x h=>h]
theorem ao5 {l:List Int} {f:Int→Option Bool} {g:Int→Bool} (hf:∀ x∈l,f x=some (g x)) (hl:l.length≤1000000000):bO l f=some (l.any g):=by
 unfold bO aT
 have key:∀ d k:Nat,k+d=l.length→∃ i:Int,Loop (aT.b1 l f) (k:Int)=some i∧decide (i≥0)=(l.drop k).any g:=by
  intro d
  induction d with
  | zero=>
   intro k hk
   refine ⟨-1,bK ?_,?_⟩
   ·simp only[aT.b1]
    rw[if_neg (by simp;omega)];rfl
   ·rw[List.drop_of_length_le (by omega)];rfl
  | succ d ih=>
   intro k hk
   have hlt:k < l.length:=by omega
   rw[List.drop_eq_getElem_cons hlt,List.any_cons]
   cases hg:g l[k]with
   | true=>
    refine ⟨k,cM ?_,by simp⟩
    simp only[aT.b1]
    rw[if_pos (by simp;omega),fH hlt,Option.bind_some,hf _ (List.getElem_mem _),hg];rfl
   | false=>
    obtain ⟨i,h1,h2⟩:=ih (k+1) (by omega)
    refine ⟨i,?_,by rw[h2];rfl⟩
    rw[bH (s':=((k+1:Nat):Int)),h1]
    simp only[aT.b1]
    rw[if_pos (by simp;omega),fH hlt,Option.bind_some,hf _ (List.getElem_mem _),hg,Option.bind_some,if_neg (by simp),w64s (by omega)]
 obtain ⟨i,h1,h2⟩:=key l.length 0 (by omega)
 have h1':Loop (aT.b1 l f) (0:Int)=some i:=h1
 rw[h1',Option.bind_some,h2,List.drop_zero]
theorem awC {l:List (List Int)} {f:List Int→Option Bool} {g:List Int→Bool} (hf:∀ x∈l,f x=some (g x)) (hl:l.length≤1000000000):cr l f=some (l.any g):=by
 unfold cr aL
 have key:∀ d k:Nat,k+d=l.length→∃ i:Int,Loop (aL.b1 l f) (k:Int)=some i∧decide (i≥0)=(l.drop k).any g:=by
  intro d
  induction d with
  | zero=>
   intro k hk
   refine ⟨-1,bK ?_,?_⟩
   ·simp only[aL.b1]
    rw[if_neg (by simp;omega)];rfl
   ·rw[List.drop_of_length_le (by omega)];rfl
  | succ d ih=>
   intro k hk
   have hlt:k < l.length:=by omega
   rw[List.drop_eq_getElem_cons hlt,List.any_cons]
   cases hg:g l[k]with
   | true=>
    refine ⟨k,cM ?_,by simp⟩
    simp only[aL.b1]
    rw[if_pos (by simp;omega),fH hlt,Option.bind_some,hf _ (List.getElem_mem _),hg];rfl
   | false=>
    obtain ⟨i,h1,h2⟩:=ih (k+1) (by omega)
    refine ⟨i,?_,by rw[h2];rfl⟩
    rw[bH (s':=((k+1:Nat):Int)),h1]
    simp only[aL.b1]
    rw[if_pos (by simp;omega),fH hlt,Option.bind_some,hf _ (List.getElem_mem _),hg,Option.bind_some,if_neg (by simp),w64s (by omega)]
 obtain ⟨i,h1,h2⟩:=key l.length 0 (by omega)
 have h1':Loop (aL.b1 l f) (0:Int)=some i:=h1
 rw[h1',Option.bind_some,h2,List.drop_zero]
theorem hasI {l:List Int} {v:Int} (hl:l.length≤1000000000):cx l v=some (l.contains v):=by
 unfold cx
 have e:bR l v=aT l (fun n=>some (v==n)):=rfl
 have h:=ao5 (l:=l) (f:=fun n=>some (v==n)) (g:=fun n=>v==n) (fun _ _=>rfl) hl
 unfold bO at h
 rw[e,h]
 congr 1
 rw[Bool.eq_iff_iff]
 simp
def gX (first:List Int) (F:List (List Int)):List Int→List Int
 | []=>[]
 | i::l=>(if i=0 then first else F.getD (i - 1).toNat [])++gX first F l
theorem lS {first:List Int} {F:List (List Int)} {k:Int}:∀ {at_:List Int},(∀ i∈at_,0≤i)→(k∈gX first F at_↔(0∈at_∧k∈first)∨∃ i∈at_,0 < i∧k∈F.getD (i - 1).toNat [])
 | [],_=>by simp[gX]
 | i::l,h=>by
  have hi:=h i (by simp)
  rw[gX,List.mem_append,lS fun j hj=>h j (by simp[hj])]
  by_cases h0:i=0
  ·subst h0
   simp
   constructor
   ·rintro (h | ⟨_,h⟩ | h)
    ·exact .inl h
    ·exact .inl h
    ·exact .inr h
   ·rintro (h | h)
    ·exact .inl h
    ·exact .inr (.inr h)
  ·rw[if_neg h0]
   constructor
   ·rintro (h | ⟨h1,h2⟩ | ⟨j,h1,h2,h3⟩)
    ·exact .inr ⟨i,by simp,by omega,h⟩
    ·exact .inl ⟨by simp[h1],h2⟩
    ·exact .inr ⟨j,by simp[h1],h2,h3⟩
   ·rintro (⟨h1,h2⟩ | ⟨j,h1,h2,h3⟩)
    ·rcases List.mem_cons.1 h1 with h1 | h1
     ·exact absurd h1.symm h0
     ·exact .inr (.inl ⟨h1,h2⟩)
    ·rcases List.mem_cons.1 h1 with rfl | h1
     ·exact .inl h3
     ·exact .inr (.inr ⟨j,h1,h2,h3⟩)
structure adK (N:Nat) (a:cc):Prop where
 len:a.Follow.length=a.Sets.length
 le:a.Sets.length≤N
 first:Bd a.Sets.length a.First
 last:Bd a.Sets.length a.Last
 rows:uX a.Sets.length a.Follow
 sets:∀ s∈a.Sets,0≤s
theorem mB {first:List Int} {F:List (List Int)} {i:Int}:∀ {l:List Int},gX first F (l++[i])=gX first F l++(if i=0 then first else F.getD (i - 1).toNat [])
 | []=>by simp[gX]
 | j::l=>by rw[List.cons_append,gX,mB,gX,List.append_assoc]
theorem aqi {N:Nat} (hN:N≤200) {a:cc} (ha:adK N a) {at_:List Int} {sign:Int} (hat:∀ i∈at_,0≤i∧i≤(a.Sets.length:Int)) (hl:at_.length≤201):
  cf a at_ sign=some (stepG hitI a.Sets a.First a.Follow at_ sign):=by
 unfold cf
 have hN':=ha.le
 have hrow:∀ i:Int,0≤i→i≤(a.Sets.length:Int)→(if i=0 then a.First else a.Follow.getD (i - 1).toNat []).length≤N∧Bd a.Sets.length (if i=0 then a.First else a.Follow.getD (i - 1).toNat []):=by
  intro i h0 h1
  have:Bd a.Sets.length (if i=0 then a.First else a.Follow.getD (i - 1).toNat []):=by
   split
   ·exact ha.first
   ·have hlt:(i - 1).toNat < a.Follow.length:=by rw[ha.len];omega
    rw[List.getD_eq_getElem?_getD,List.getElem?_eq_getElem hlt]
    exact ha.rows _ (List.getElem_mem hlt)
  exact ⟨by have:=this.len;omega,this⟩
 have hpl:∀ j,j≤at_.length→(gX a.First a.Follow (at_.take j)).length≤j*N:=by
  intro j
  induction j with
  | zero=>intro _;simp[gX]
  | succ j ih=>
   intro hj
   have hj':j < at_.length:=by omega
   have:=hrow at_[j] (hat _ (List.getElem_mem hj')).1 (hat _ (List.getElem_mem hj')).2
   rw[dJ hj',mB,List.length_append,Nat.add_mul]
   have:=ih (by omega)
   omega
 have hb:∀ j,j≤at_.length→j*N≤40200:=fun j hj=>by
  calc j*N≤201*200:=Nat.mul_le_mul (by omega) hN
   _=40200:=rfl
 have hrun:=eu (b:=cf.b1 a at_ sign) (fun j:Nat=>((gX a.First a.Follow (at_.take j),(j:Int)):List Int×Int)) (i:=0) (n:=at_.length) (Nat.zero_le _) (fun j _ hj=>by
  simp only[cf.b1,cf.k2]
  have hi:=hat at_[j] (List.getElem_mem hj)
  have h1:=hrow at_[j] hi.1 hi.2
  have h2:=hpl j (by omega)
  have h3:=hb j (by omega)
  rw[if_pos (by simpa using hj),fH hj,Option.bind_some,dJ hj,mB]
  by_cases h0:at_[j]=0
  ·rw[if_pos (by simpa using h0)]
   rw[if_pos h0]at h1 ⊢
   rw[cy (by omega),Option.bind_some,w64s (by omega)]
  ·have hw:IntKind.i64.wrap (at_[j] - 1)=(((at_[j] - 1).toNat:Nat):Int):=by rw[w64 (by omega) (by omega)];omega
   have hlt:(at_[j] - 1).toNat < a.Follow.length:=by rw[ha.len];omega
   rw[if_neg (by simpa using h0)]
   rw[if_neg h0]at h1 ⊢
   rw[List.getD_eq_getElem?_getD,List.getElem?_eq_getElem hlt,Option.getD_some]at h1 ⊢
   rw[hw,fH hlt,Option.bind_some,cy (by omega),Option.bind_some,w64s (by omega)])
 have h0:(([]:List Int),(0:Int))=(fun j:Nat=>((gX a.First a.Follow (at_.take j),(j:Int)):List Int×Int)) 0:=rfl
 rw[h0,hrun]
 have hend:=hpl at_.length (Nat.le_refl _)
 have hend2:=hb at_.length (Nat.le_refl _)
 rw[List.take_length]at hend
 have hall:∀ k∈gX a.First a.Follow at_,1≤k∧k≤(a.Sets.length:Int):=by
  intro k hk
  rcases (lS fun i hi=>(hat i hi).1).1 hk with ⟨_,h⟩ | ⟨i,h1,h2,h3⟩
  ·exact ha.first.le k h
  ·have:=(hrow i (by omega) (hat i h1).2).2
   rw[if_neg (by omega)]at this
   exact this.le k h3
 refine bK ?_
 simp only[cf.b1]
 rw[if_neg (by simp),List.take_length]
 unfold cf.k1
 have hu:(uni [] (gX a.First a.Follow at_++[])).length≤a.Sets.length:=by
  have:Bd a.Sets.length (uni [] (gX a.First a.Follow at_++[])):=⟨fI List.Pairwise.nil,fun q hq=>by
   rw[gO]at hq
   simp at hq
   exact hall q hq⟩
  exact this.len
 have hr:dn=140737488355328:=rfl
 rw[aiL (by simp;omega),Option.bind_some]
 unfold bJ
 have hdel:(uni [] (gX a.First a.Follow at_++[])).all (ajD a)=true:=by
  rw[List.all_eq_true]
  intro k hk
  rw[gO]at hk
  simp at hk
  have:=hall k hk
  unfold ajD
  have hlt:(k - 1).toNat < a.Sets.length:=by omega
  rw[List.getD_eq_getElem?_getD,List.getElem?_eq_getElem hlt]
  have h3:=ha.sets _ (List.getElem_mem hlt)
  simp only[Bool.and_eq_true,decide_eq_true_eq,Option.getD_some]
  exact ⟨⟨by omega,by omega⟩,h3⟩
 rw[if_pos ⟨by omega,hdel⟩,Option.bind_some]
 refine congrArg (fun x=>Option.map Step.done (some x)) ?_
 refine mU ((fI List.Pairwise.nil).sublist List.filter_sublist) sH fun k=>?_
 rw[List.mem_filter,gO,rz,List.append_nil,lS fun i hi=>(hat i hi).1]
 constructor
 ·rintro ⟨h1,h2⟩
  have h1':=h1.resolve_left (by simp)
  exact ⟨hall k ((lS fun i hi=>(hat i hi).1).2 h1'),h1',h2⟩
 ·rintro ⟨h1,h2,h3⟩
  exact ⟨.inr h2,h3⟩
theorem atF {N:Nat} (hN:N≤200) {a:cc} (ha:adK N a) {at_:List Int} (hl:at_.length≤201):jU a at_=some (endG a.Null a.Last at_):=by
 have h1:∀ i∈at_,fS i a=some ((decide (i=0)&&a.Null)||a.Last.contains i):=by
  intro i hi
  unfold fS
  have hll:=ha.last.len
  have hle:=ha.le
  rw[hasI (by omega)]
  by_cases h0:i=0
  ·subst h0
   cases hn:a.Null <;> simp
  ·rw[if_neg (by simpa using h0)];simp[h0]
 unfold jU endG
 rw[ao5 h1 (by omega)]
 rfl
end
end Go.Val
namespace Go.Val
noncomputable section
theorem amJ (n:Int):IntKind.u8.wrap n=n%256:=by simp[IntKind.wrap,IntKind.signed,IntKind.bits]
theorem apG {a b:Int} (ha:0≤a∧a < 256) (hb:0≤b∧b < 256) (h:u8 a=u8 b):a=b:=by
 have h':UInt8.ofNat a.toNat=UInt8.ofNat b.toNat:=h
 have:=ofNat_inj (by omega) (by omega) h'
 omega
def two8 (n:Int):List UInt8:=[u8 (IntKind.u8.wrap (shR .i64 n (8:Int))),u8 (IntKind.u8.wrap n)]
theorem shR8 (n:Int):shR .i64 n 8=n/256:=by
 unfold shR
 have:(2:Int)^(min (8:Int).toNat IntKind.i64.bits)=256:=by decide
 rw[this,Int.fdiv_eq_ediv_of_nonneg _ (by omega)]
theorem amE {a b:Int} (ha:0≤a∧a < 65536) (hb:0≤b∧b < 65536) (h:two8 a=two8 b):a=b:=by
 unfold two8 at h
 rw[amJ,amJ,amJ,amJ,shR8,shR8]at h
 simp only[List.cons.injEq,and_true]at h
 have h1:=apG (by omega) (by omega) h.1
 have h2:=apG (by omega) (by omega) h.2
 omega
def keyS (l:List Int):Str:=l.flatMap two8
theorem pW:∀ {l m:List Int},(∀ i∈l,0≤i∧i < 65536)→(∀ i∈m,0≤i∧i < 65536)→keyS l=keyS m→l=m
 | [],[],_,_,_=>rfl
 | [],b::m,_,_,h=>by simp[keyS,two8]at h
 | a::l,[],_,_,h=>by simp[keyS,two8]at h
 | a::l,b::m,h1,h2,h=>by
  have h':two8 a++keyS l=two8 b++keyS m:=h
  have hs:=List.append_inj h' (by simp[two8])
  rw[amE (h1 a (by simp)) (h2 b (by simp)) hs.1,pW (fun i hi=>h1 i (by simp[hi])) (fun i hi=>h2 i (by simp[hi])) hs.2]
theorem ac2 {l:List Int}:(keyS l).length=2*l.length:=by
 induction l with
 | nil=>rfl
 | cons a l ih=>show (two8 a++keyS l).length=_;rw[List.length_append,ih];simp[two8];omega
theorem vT {l:List Int} {a:Int}:keyS (l++[a])=keyS l++two8 a:=by simp[keyS]
theorem avQ {l:List Int} (hl:l.length≤1000000):dw l=some (keyS l):=by
 unfold dw
 have hrun:=eu (b:=dw.b1 l) (fun j:Nat=>((keyS (l.take j),(j:Int)):List UInt8×Int)) (i:=0) (n:=l.length) (Nat.zero_le _) (fun j _ hj=>by
  simp only[dw.b1]
  rw[if_pos (by simpa using hj),fH hj,Option.bind_some,cy (by rw[ac2,List.length_take];omega),Option.bind_some,w64s (by omega),dJ hj,vT]
  rfl)
 have h0:(([]:List UInt8),(0:Int))=(fun j:Nat=>((keyS (l.take j),(j:Int)):List UInt8×Int)) 0:=rfl
 rw[h0,hrun]
 refine bK ?_
 simp only[dw.b1]
 rw[if_neg (by simp),List.take_length];rfl
def eqL (a b:List Int):Bool:=decide (a=b)
theorem anq (a:List Int):eqL a a=true:=by simp[eqL]
theorem acS {α:Type} [DecidableEq α] {o:List α} {x:α}:fidx (fun a b=>decide (a=b)) o x=if x∈o then some (pos o x)else none:=by
 unfold fidx
 induction o with
 | nil=>rfl
 | cons y o ih=>
  rw[List.findIdx?_cons,pU]
  by_cases h:y=x
  ·subst h;simp
  ·rw[if_neg (by simpa using h),if_neg h,ih]
   by_cases hx:x∈o
   ·rw[if_pos hx,if_pos (by simp[hx])];rfl
   ·rw[if_neg hx,if_neg (by simp[hx,Ne.symm h])];rfl
def VS (x:List Int):Prop:=(∀ i∈x,0≤i∧i < 65536)∧x.length≤201
theorem mem_keys {o:List (List Int)} {x:List Int} (ho:∀ y∈o,VS y) (hx:VS x):keyS x∈o.map keyS↔x∈o:=by
 rw[List.mem_map]
 constructor
 ·rintro ⟨y,hy,e⟩
  rw[← pW (ho y hy).1 hx.1 e];exact hy
 ·exact fun h=>⟨x,h,rfl⟩
theorem adE:∀ {o:List (List Int)} {x:List Int},(∀ y∈o,VS y)→VS x→pos (o.map keyS) (keyS x)=pos o x
 | [],x,_,_=>rfl
 | y::o,x,ho,hx=>by
  rw[List.map_cons,pU,pU,adE (fun z hz=>ho z (by simp[hz])) hx]
  by_cases h:y=x
  ·subst h;simp
  ·rw[if_neg h,if_neg fun e=>h (pW (ho y (by simp)).1 hx.1 e)]
theorem akK {o:List (List Int)} {x:List Int} {m:List (Str×Int)} (ho:∀ y∈o,VS y) (hx:VS x) (hk:iJ m (o.map keyS)) (hl:o.length≤100000):
  ∃ m',cN x m o=some (((bmet eqL o x).2:Int),m',(bmet eqL o x).1)∧iJ m' ((bmet eqL o x).1.map keyS):=by
 unfold cN cN.k1 bmet
 rw[avQ (by have:=hx.2;omega),Option.bind_some]
 by_cases h:x∈o
 ·have hf:fidx eqL o x=some (pos o x):=acS.trans (if_pos h)
  rw[hf]
  have:=hk.some ((mem_keys ho hx).2 h)
  rw[this]
  exact ⟨m,by rw[if_neg (by simp),Option.getD_some,adE ho hx],hk⟩
 ·have hf:fidx eqL o x=none:=acS.trans (if_neg h)
  rw[hf]
  have hn:keyS x∉o.map keyS:=fun e=>h ((mem_keys ho hx).1 e)
  have:=hk.none hn
  rw[this]
  refine ⟨aput (keyS x) (o.length:Int) m,by rw[if_pos (by simp),cy (by omega)];rfl,?_⟩
  have:=hk.new hn
  rw[List.length_map]at this
  simpa using this
def nxA (a:cc) (x:List Int) (n:Int):List Int:=yZ hitI a.Sets a.First a.Follow x n
def enA (a:cc) (x:List Int):Bool:=endG a.Null a.Last x
def VA (a:cc) (x:List Int):Prop:=(∀ i∈x,0≤i∧i≤(a.Sets.length:Int))∧x.length≤201
section
variable {N:Nat} (hN:N≤200) {a:cc} (ha:adK N a)
include hN ha
theorem VA.vs {x:List Int} (h:VA a x):VS x:=⟨fun i hi=>by have:=h.1 i hi;have:=ha.le;omega,h.2⟩
theorem VA.next (x:List Int) (n:Int):VA a (nxA a x n):=by
 have hb:∀ i∈stepG hitI a.Sets a.First a.Follow x n,1≤i∧i≤(a.Sets.length:Int):=fun i hi=>(rz.1 hi).1
 have:Bd a.Sets.length (stepG hitI a.Sets a.First a.Follow x n):=⟨sH,hb⟩
 have h2:=this.len
 have h3:=ha.le
 refine ⟨fun i hi=>?_,by unfold nxA yZ;rw[List.length_cons];omega⟩
 rcases List.mem_cons.1 hi with rfl | hi
 ·omega
 ·have:=hb i hi;omega
theorem ajR {l:List Int} {x:List Int} {o:List (List Int)} (ho:∀ y∈o,VA a y):∀ y∈(brow eqL o (l.map (nxA a x))).1,VA a y:=fun y hy=>by
 rcases pZ _ _ y hy with h | h
 ·exact ho y h
 ·obtain ⟨n,_,rfl⟩:=List.mem_map.1 h
  exact VA.next hN ha x n
theorem auA {masks:List Int} {limit:Nat} (hm:masks.length≤200) (hlim:limit≤5000) {s:Nat} {N1:List (List Int)} {F1:List Bool} {x:List Int} (hx:VA a x):
  ∀ (l:List Int) (i:Nat),masks.drop i=l→∀ (row:List Int) (o:List (List Int)) (m:List (Str×Int)),row.length=i→(∀ y∈o,VA a y)→iJ m (o.map keyS)→o.length≤limit→o[s]? =some x→
   if (brow eqL o (l.map (nxA a x))).1.length≤limit then
    ∃ m',Loop (aO.b2 a masks true (limit:Int) (s:Int) N1 F1) (row,(i:Int),o,m)=aO.k3 a (s:Int) N1 F1 (row++(brow eqL o (l.map (nxA a x))).2) (brow eqL o (l.map (nxA a x))).1 m'∧iJ m' ((brow eqL o (l.map (nxA a x))).1.map keyS)
   else Loop (aO.b2 a masks true (limit:Int) (s:Int) N1 F1) (row,(i:Int),o,m)=some (Step.done (⟨[],[]⟩,8)):=by
 intro l
 induction l with
 | nil=>
  intro i hl row o m hrow ho hk hlen hs
  have hi:masks.length≤i:=List.drop_eq_nil_iff.1 hl
  simp only[List.map_nil,brow]
  rw[if_pos hlen]
  refine ⟨m,bK ?_,hk⟩
  simp only[aO.b2]
  rw[if_neg (by simp;omega),List.append_nil]
 | cons n l ih=>
  intro i hl row o m hrow ho hk hlen hs
  obtain ⟨hil,hn,hd⟩:=lL hl
  have hnx:=VA.next hN ha x n
  obtain ⟨m1,e1,k1⟩:=akK (fun y hy=>VA.vs hN ha (ho y hy)) (VA.vs hN ha hnx) hk (by omega)
  obtain ⟨t,ht⟩:=acW (same:=eqL) o (nxA a x n)
  obtain ⟨t2,ht2⟩:=kF (same:=eqL) (l.map (nxA a x)) (bmet eqL o (nxA a x n)).1
  have hso:=(List.getElem?_eq_some_iff.1 hs).1
  have hconc:aX [[0],stepG hitI a.Sets a.First a.Follow x n]=some (nxA a x n):=by
   have e:aX=aj:=rfl
   have h1:=hnx.2
   unfold nxA yZ at h1
   rw[List.length_cons]at h1
   rw[e,ajO (by simp;omega)];rfl
  have hb2:aO.b2 a masks true (limit:Int) (s:Int) N1 F1 (row,(i:Int),o,m)=if ((bmet eqL o (nxA a x n)).1.length:Int) > (limit:Int)then some (Step.done (Step.done (⟨[],[]⟩,8)))else some (Step.next (row++[((bmet eqL o (nxA a x n)).2:Int)],((i+1:Nat):Int),(bmet eqL o (nxA a x n)).1,m1)):=by
   simp only[aO.b2]
   rw[if_pos (by simpa using hil),fH hil,Option.bind_some,hn,bm,hs,Option.bind_some,aqi hN ha hx.1 hx.2,Option.bind_some,if_pos trivial]
   unfold fY
   rw[Option.bind_some,hconc,Option.bind_some]
   unfold aO.k4
   rw[e1,Option.bind_some,cy (by omega),Option.bind_some,w64s (by omega)]
   simp only[decide_eq_true_eq]
  simp only[List.map_cons,brow]
  by_cases hc:(bmet eqL o (nxA a x n)).1.length≤limit
  ·rw[if_neg (by omega)]at hb2
   rw[bH hb2]
   have:=ih (i+1) hd (row++[((bmet eqL o (nxA a x n)).2:Int)]) (bmet eqL o (nxA a x n)).1 m1 (by simp[hrow]) (fun y hy=>by
    have:y∈(brow eqL o ([n].map (nxA a x))).1:=hy
    exact ajR hN ha ho y this) k1 hc (by rw[← ht,List.getElem?_append_left hso];exact hs)
   rw[List.append_assoc]at this
   exact this
  ·rw[if_pos (by omega)]at hb2
   have hlong:¬ (brow eqL (bmet eqL o (nxA a x n)).1 (l.map (nxA a x))).1.length≤limit:=by rw[← ht2];simp;omega
   rw[if_neg hlong]
   exact cM hb2
theorem run_eq {masks:List Int} {limit:Nat} (hm:masks.length≤200) (hlim:limit≤5000):
  ∀ (fu s:Nat) (o:List (List Int)) (R:List (List Int)) (m:List (Str×Int)),fu+s=limit+1→s≤o.length→o.length≤limit→R.length=s→(∀ y∈o,VA a y)→iJ m (o.map keyS)→
   Loop (aO.b1 a masks true (limit:Int)) ((s:Int),R,(o.take s).map (enA a),o,m)=match bgo eqL (fun x=>masks.map (nxA a x)) limit fu s o R with
    | some (o',R')=>some (⟨R',o'.map (enA a)⟩,0)
    | none=>some (⟨[],[]⟩,8):=by
 intro fu
 induction fu with
 | zero=>intro s o R m h1 h2 h3;omega
 | succ fu ih=>
  intro s o R m h1 h2 h3 hR ho hk
  rw[bgo]
  cases hs:o[s]? with
  | none=>
   have hse:o.length≤s:=List.getElem?_eq_none_iff.1 hs
   refine bK ?_
   simp only[aO.b1]
   rw[if_neg (by simp;omega),List.take_of_length_le hse];rfl
  | some x=>
   have hso:=(List.getElem?_eq_some_iff.1 hs)
   have hx:=ho x (List.mem_of_getElem? hs)
   have hrow:=auA hN ha hm hlim (s:=s) (N1:=R) (F1:=(o.take s).map (enA a)) hx masks 0 rfl [] o m rfl ho hk h3 hs
   obtain ⟨t,ht⟩:=kF (same:=eqL) (masks.map (nxA a x)) o
   simp only
   have hb1:aO.b1 a masks true (limit:Int) ((s:Int),R,(o.take s).map (enA a),o,m)=Loop (aO.b2 a masks true (limit:Int) (s:Int) R ((o.take s).map (enA a))) ([],(0:Int),o,m):=by
    simp only[aO.b1]
    rw[if_pos (by simpa using hso.1)]
   have h00:((0:Nat):Int)=0:=rfl
   rw[h00]at hrow
   by_cases hc:(brow eqL o (masks.map (nxA a x))).1.length≤limit
   ·rw[if_pos hc]at hrow ⊢
    obtain ⟨m',e1,k1⟩:=hrow
    have hs':(brow eqL o (masks.map (nxA a x))).1[s]? =some x:=by rw[← ht,List.getElem?_append_left hso.1];exact hs
    have hso':=(List.getElem?_eq_some_iff.1 hs')
    have e2:aO.b1 a masks true (limit:Int) ((s:Int),R,(o.take s).map (enA a),o,m)=some (Step.next (((s+1:Nat):Int),R++[(brow eqL o (masks.map (nxA a x))).2],((brow eqL o (masks.map (nxA a x))).1.take (s+1)).map (enA a),(brow eqL o (masks.map (nxA a x))).1,m')):=by
     rw[hb1,e1]
     unfold aO.k3 aO.k2
     rw[bm,hs',Option.bind_some,cy (by omega),Option.bind_some,atF hN ha hx.2,Option.bind_some,cy (by simp;omega),Option.bind_some,w64s (by omega),List.nil_append,dJ hso'.1,hso'.2,List.map_append,← ht,List.take_append_of_le_length (by omega)]
     rfl
    rw[bH e2]
    exact ih (s+1) _ _ m' (by omega) (by have:=hso'.1;omega) hc (by simp[hR]) (ajR hN ha ho) k1
   ·rw[if_neg hc]at hrow ⊢
    exact cM (hb1.trans hrow)
theorem mJ {masks:List Int} {limit:Nat} (hm0:1≤masks.length) (hm:masks.length≤200) (hlim0:1≤limit) (hlim:limit≤5000):
  aO a masks true (limit:Int)=match bgo eqL (fun x=>masks.map (nxA a x)) limit (limit+1) 0 [[0]] []with
    | some (o',R')=>some (⟨R',o'.map (enA a)⟩,0)
    | none=>some (⟨[],[]⟩,8):=by
 unfold aO fY
 have h0:VA a [0]:=⟨fun i hi=>by simp at hi;omega,by simp⟩
 obtain ⟨m',e1,k1⟩:=akK (o:=[]) (x:=[0]) (m:=[]) (fun y hy=>by cases hy) (VA.vs hN ha h0) qM (by simp)
 have e2:bmet eqL [] [0]=([[0]],0):=rfl
 rw[e2]at e1 k1
 rw[if_neg (by simp;omega),Option.bind_some,e1,Option.bind_some]
 exact run_eq hN ha hm hlim (limit+1) 0 [[0]] [] m' (by omega) (by simp) (by simpa using hlim0) rfl (fun y hy=>by simp at hy;exact hy ▸ h0) k1
end
end
end Go.Val
namespace Go.Val
set_option linter.unusedSectionVars false
noncomputable section
structure DOk (d:TDfa) (m:Nat):Prop where
 some:1≤d.Next.length
 few:d.Next.length≤5000
 fin:d.Final.length=d.Next.length
 row:∀ r∈d.Next,r.length=m∧∀ e∈r,0≤e∧e < (d.Next.length:Int)
theorem aaB {d:TDfa} {m:Nat} (h:DOk d m) (h1:1≤m) (h2:m≤200):ic d=some true:=by
 unfold ic
 have hs:=h.some
 have hf:=h.few
 rw[if_neg (by simp[h.fin];omega)]
 have h0:d.Next[0]? =some d.Next[0]:=List.getElem?_eq_getElem (by omega)
 have hl:=(h.row _ (List.getElem_mem (by omega:0 < d.Next.length))).1
 rw[h0,Option.bind_some,hl,if_pos (by simp;omega),if_pos (by simp;omega)]
 have hrow:∀ r∈d.Next,eM r (m:Int) (fun x0=>dW x0 (d.Next.length:Int))=some false:=by
  intro r hr
  unfold eM
  rw[if_neg (by simp[(h.row r hr).1]),ao5 (f:=fun x0=>dW x0 (d.Next.length:Int)) (g:=fun s=>decide (s < 0)||decide (s≥(d.Next.length:Int))) (fun _ _=>rfl) (by rw[(h.row r hr).1];omega),Option.bind_some,Option.bind_some]
  congr 1
  rw[List.any_eq_false]
  intro e he
  have:=(h.row r hr).2 e he
  simp;omega
 rw[awC (g:=fun _=>false) hrow (by omega)]
 simp
section
variable {K:Type} [DecidableEq K]
def mOf (F:List K):List (K×Int):=F.mapIdx fun i a=>(a,(i:Int))
theorem nH (F:List K):iJ (mOf F) F:=⟨by simp[mOf],fun i=>by simp[mOf]⟩
theorem iJ.eq {m:List (K×Int)} {F:List K} (h:iJ m F):m=mOf F:=by
 apply List.ext_getElem?
 intro i
 rw[h.2 i,(nH F).2 i]
theorem ajX {F:List K}:(mOf F).length=F.length:=by simp[mOf]
theorem apy {F:List K} {a:K} (h:a∈F):aget a (mOf F)=some (pos F a:Int):=(nH F).some h
theorem aig {F:List K} {a:K} (h:a∉F):aget a (mOf F)=none:=(nH F).none h
theorem ahG {F:List K} {a:K} (h:a∉F):aput a (F.length:Int) (mOf F)=mOf (F++[a]):=((nH F).new h).eq
theorem ag9 {α K':Type} [DecidableEq K'] {f:α→K} {g:α→K'} {l:List α} (h:∀ x∈l,∀ y∈l,f x=f y→g x=g y) (hc:(firsts (l.map f)).length≤(firsts (l.map g)).length) {x y:α} (hx:x∈l) (hy:y∈l) (e:g x=g y):f x=f y:=by
 classical
 refine Decidable.byContradiction fun hne=>?_
 have hex:∀ v,v∈l.map g→∃ z,z∈l∧g z=v:=fun v hv=>by
  obtain ⟨z,h1,h2⟩:=List.mem_map.1 hv;exact ⟨z,h1,h2⟩
 let c:K'→α:=fun v=>if v=g x then x else if hv:v∈l.map g then (hex v hv).choose else x
 have hcv:∀ v,v∈l.map g→c v∈l∧g (c v)=v:=by
  intro v hv
  by_cases h1:v=g x
  ·have:c v=x:=if_pos h1
   rw[this];exact ⟨hx,h1.symm⟩
  ·have:c v=(hex v hv).choose:=by show (if _ then _ else _)=_;rw[if_neg h1,dif_pos hv]
   rw[this];exact (hex v hv).choose_spec
 have hcx:c (g x)=x:=if_pos rfl
 have hnd:((firsts (l.map g)).map (fun v=>f (c v))++[f y]).Nodup:=by
  rw[List.nodup_append]
  refine ⟨?_,by simp,?_⟩
  ·show List.Pairwise _ _
   rw[List.pairwise_map]
   refine List.Pairwise.imp_of_mem ?_ (lq (l:=l.map g))
   intro a b ha hb hab hf
   have h1:=hcv a (dR.1 ha)
   have h2:=hcv b (dR.1 hb)
   exact hab (by rw[← h1.2,← h2.2];exact h _ h1.1 _ h2.1 hf)
  ·intro a ha b hb
   obtain rfl:=List.mem_singleton.1 hb
   obtain ⟨v,hv,rfl⟩:=List.mem_map.1 ha
   intro hf
   have h1:=hcv v (dR.1 hv)
   have h2:=h _ h1.1 _ hy hf
   have h3:v=g x:=by rw[← h1.2,h2,e]
   rw[h3,hcx]at hf
   exact hne hf
 have hsub:=gx (m:=firsts (l.map f)) hnd (fun a ha=>by
  rw[dR]
  rcases List.mem_append.1 ha with ha | ha
  ·obtain ⟨v,hv,rfl⟩:=List.mem_map.1 ha
   exact List.mem_map.2 ⟨_,(hcv v (dR.1 hv)).1,rfl⟩
  ·obtain rfl:=List.mem_singleton.1 ha
   exact List.mem_map.2 ⟨y,hy,rfl⟩)
 simp at hsub
 omega
end
def kd (kind:List Int) (i:Nat):Int:=kind.getD i 0
def rowD (d:TDfa) (i:Nat):List Int:=d.Next.getD i []
def keyK (d:TDfa) (kind:List Int) (i:Nat):Str:=keyS (kd kind i::(rowD d i).map fun e=>kd kind e.toNat)
def fA (d:TDfa) (kind:List Int) (j:Nat):List Str:=(List.range j).map (keyK d kind)
def jX (d:TDfa) (kind:List Int) (j:Nat):List Int:=(List.range d.Next.length).map fun i=>if i < j then ((pos (firsts (fA d kind d.Next.length)) (keyK d kind i):Nat):Int)else 0
section
variable {d:TDfa} {m:Nat} (hd:DOk d m) (hm:m≤200)
include hd hm
theorem aap {kind:List Int} (hk:kind.length=d.Next.length) {i:Nat} (hi:i < d.Next.length):dQ kind (i:Int) d.Next[i]=some (keyK d kind i):=by
 unfold dQ
 have hr:=hd.row d.Next[i] (List.getElem_mem hi)
 have hki:i < kind.length:=by omega
 have hrow:rowD d i=d.Next[i]:=by unfold rowD;rw[List.getD_eq_getElem?_getD,List.getElem?_eq_getElem hi];rfl
 have hkd:kd kind i=kind[i]:=by unfold kd;rw[List.getD_eq_getElem?_getD,List.getElem?_eq_getElem hki];rfl
 have hrun:=eu (b:=dQ.b1 kind d.Next[i]) (fun j:Nat=>((keyS (kind[i]::(d.Next[i].take j).map fun e=>kd kind e.toNat),(j:Int)):List UInt8×Int)) (i:=0) (n:=d.Next[i].length) (Nat.zero_le _) (fun j _ hj=>by
  simp only[dQ.b1]
  have he:=hr.2 d.Next[i][j] (List.getElem_mem hj)
  have hlt:d.Next[i][j].toNat < kind.length:=by omega
  have hl:=hr.1
  have hcast:d.Next[i][j]=((d.Next[i][j].toNat:Nat):Int):=by omega
  have hke:kd kind d.Next[i][j].toNat=kind[d.Next[i][j].toNat]:=by unfold kd;rw[List.getD_eq_getElem?_getD,List.getElem?_eq_getElem hlt];rfl
  rw[if_pos (by simpa using hj),fH hj,Option.bind_some]
  rw[show idx kind d.Next[i][j]=some kind[d.Next[i][j].toNat]from pY he.1 (List.getElem?_eq_getElem hlt)]
  rw[Option.bind_some,cy (by rw[ac2];simp;omega),Option.bind_some,w64s (by omega),dJ hj,List.map_append,← List.cons_append,List.map_singleton,vT,hke]
  rfl)
 rw[fH hki,Option.bind_some]
 have h0:(([u8 (IntKind.u8.wrap (shR .i64 kind[i] (8:Int))),u8 (IntKind.u8.wrap kind[i])]:List UInt8),(0:Int))=(fun j:Nat=>((keyS (kind[i]::(d.Next[i].take j).map fun e=>kd kind e.toNat),(j:Int)):List UInt8×Int)) 0:=by
  simp[keyS,two8]
 rw[h0,hrun]
 refine bK ?_
 simp only[dQ.b1]
 rw[if_neg (by simp),List.take_length]
 unfold keyK
 rw[hrow,hkd];rfl
theorem tn {kind:List Int} {j:Nat} (hj:j < d.Next.length):fA d kind (j+1)=fA d kind j++[keyK d kind j]:=by
 unfold fA;rw[List.range_succ,List.map_append];rfl
theorem wb {kind:List Int} {j:Nat} (hj:j≤d.Next.length):firsts (fA d kind j) <+: firsts (fA d kind d.Next.length):=by
 have e:fA d kind d.Next.length=fA d kind j++(fA d kind d.Next.length).drop j:=by
  have h1:=(List.take_append_drop j (fA d kind d.Next.length)).symm
  have h2:(fA d kind d.Next.length).take j=fA d kind j:=by
   unfold fA;rw[← List.map_take,List.take_range,Nat.min_eq_left hj]
  rw[h2]at h1;exact h1
 rw[e];exact ou
theorem wB {kind:List Int} {j:Nat} (hj:j < d.Next.length):(jX d kind j).set j ((pos (firsts (fA d kind d.Next.length)) (keyK d kind j):Nat):Int)=jX d kind (j+1):=by
 apply List.ext_getElem?
 intro i
 unfold jX
 rw[List.getElem?_set]
 by_cases h:j=i
 ·subst h
  rw[if_pos rfl]
  simp[hj]
 ·rw[if_neg h]
  by_cases hi:i < d.Next.length
  ·simp only[List.getElem?_map,List.getElem?_range hi,Option.map_some]
   congr 1
   by_cases h2:i < j
   ·rw[if_pos h2,if_pos (by omega)]
   ·rw[if_neg h2,if_neg (by omega)]
  ·rw[List.getElem?_eq_none (by simp;omega),List.getElem?_eq_none (by simp;omega)]
theorem round_eq {kind:List Int} (hk:kind.length=d.Next.length) {many:Int}:
  aw.b1 d (kind,many)=aw.k3 many (jX d kind d.Next.length) (mOf (firsts (fA d kind d.Next.length))):=by
 have hf:=hd.few
 have hrun:=eu (b:=aw.b2 d kind many) (fun j:Nat=>((kind,jX d kind j,(j:Int),mOf (firsts (fA d kind j))):List Int×List Int×Int×List (Str×Int))) (i:=0) (n:=d.Next.length) (Nat.zero_le _) (fun j _ hj=>by
  simp only[aw.b2]
  have hnl:(jX d kind j).length=d.Next.length:=by simp[jX]
  have hjn:j < (jX d kind j).length:=by omega
  rw[if_pos (by rw[hk];simpa using hj),fH hj,Option.bind_some,aap hd hm hk hj,Option.bind_some,tn hd hm hj,dN]
  unfold aw.k4 addF
  by_cases h:keyK d kind j∈firsts (fA d kind j)
  ·have hp:pos (firsts (fA d kind d.Next.length)) (keyK d kind j)=pos (firsts (fA d kind j)) (keyK d kind j):=qD (wb hd hm (by omega)) h
   rw[apy h,if_neg (by simp),if_pos h,fH hjn,Option.bind_some,w64s (by omega),← wB hd hm hj,hp];rfl
  ·have hp:pos (firsts (fA d kind d.Next.length)) (keyK d kind j)=(firsts (fA d kind j)).length:=by
    have hpre:=wb hd hm (kind:=kind) (j:=j+1) (by omega)
    rw[tn hd hm hj,dN]at hpre
    have e:addF (firsts (fA d kind j)) (keyK d kind j)=firsts (fA d kind j)++[keyK d kind j]:=if_neg h
    rw[e]at hpre
    rw[qD hpre (by simp),abz h]
   rw[aig h,if_pos (by simp),if_neg h,fH hjn,Option.bind_some,w64s (by omega),← wB hd hm hj,hp,ajX,ahG h];rfl)
 unfold aw.b1
 simp only
 have h0:(kind,List.replicate (Int.toNat (kind.length:Int)) (0:Int),(0:Int),([]:List (Str×Int)))=(fun j:Nat=>((kind,jX d kind j,(j:Int),mOf (firsts (fA d kind j))):List Int×List Int×Int×List (Str×Int))) 0:=by
  simp only[Int.toNat_natCast,hk]
  have:jX d kind 0=List.replicate d.Next.length 0:=by
   unfold jX
   simp[List.map_const']
  rw[this];rfl
 have hmk:mk 8 (0:Int) (kind.length:Int)=some (List.replicate (Int.toNat (kind.length:Int)) (0:Int)):=by
  unfold mk;rw[if_pos (by simp;unfold dn;omega)]
 rw[hmk,Option.bind_some,h0,hrun]
 refine bK ?_
 simp only[aw.b2]
 rw[if_neg (by rw[hk];simp)]
end
end
end Go.Val
namespace Go.Val
set_option linter.unusedSectionVars false
noncomputable section
def finD (d:TDfa) (i:Nat):Bool:=d.Final.getD i false
structure adx (d:TDfa) (m:Nat) (k:List Int):Prop where
 len:k.length=d.Next.length
 fin:∀ i j,i < d.Next.length→j < d.Next.length→kd k i=kd k j→finD d i=finD d j
 step:∀ i j,i < d.Next.length→j < d.Next.length→kd k i=kd k j→∀ c,c < m→kd k (lW d.Next i c)=kd k (lW d.Next j c)
section
variable {d:TDfa} {m:Nat} (hd:DOk d m) (hm:m≤200)
include hd hm
theorem kL {i:Nat} (hi:i < d.Next.length):(rowD d i).length=m∧∀ e∈rowD d i,0≤e∧e < (d.Next.length:Int):=by
 unfold rowD
 rw[List.getD_eq_getElem?_getD,List.getElem?_eq_getElem hi]
 exact hd.row _ (List.getElem_mem hi)
theorem pH {i c:Nat} (hi:i < d.Next.length) (hc:c < m):lW d.Next i c < d.Next.length:=by
 obtain ⟨h1,h2⟩:=kL hd hm hi
 have:(rowD d i).getD c 0∈rowD d i:=by
  rw[List.getD_eq_getElem?_getD,List.getElem?_eq_getElem (by omega)];exact List.getElem_mem _
 have h3:=h2 _ this
 show ((rowD d i).getD c 0).toNat < _
 omega
theorem ab3 {kind:List Int} (hb:∀ i,i < d.Next.length→0≤kd kind i∧kd kind i < 65536) {i j:Nat} (hi:i < d.Next.length) (hj:j < d.Next.length):
  keyK d kind i=keyK d kind j↔kd kind i=kd kind j∧∀ c,c < m→kd kind (lW d.Next i c)=kd kind (lW d.Next j c):=by
 have hv:∀ i,i < d.Next.length→∀ v∈(kd kind i::(rowD d i).map fun e=>kd kind e.toNat),0≤v∧v < 65536:=by
  intro i hi v hv
  rcases List.mem_cons.1 hv with rfl | hv
  ·exact hb i hi
  ·obtain ⟨e,he,rfl⟩:=List.mem_map.1 hv
   have:=(kL hd hm hi).2 e he
   exact hb _ (by omega)
 have hl:∀ (i:Nat),i < d.Next.length→∀ c,c < m→((rowD d i).map fun e=>kd kind e.toNat)[c]? =some (kd kind (lW d.Next i c)):=by
  intro i hi c hc
  have h1:=(kL hd hm hi).1
  rw[List.getElem?_map,List.getElem?_eq_getElem (by omega)]
  show some _=some (kd kind ((rowD d i).getD c 0).toNat)
  rw[List.getD_eq_getElem?_getD,List.getElem?_eq_getElem (by omega)];rfl
 constructor
 ·intro h
  have h2:=pW (hv i hi) (hv j hj) h
  rw[List.cons.injEq]at h2
  refine ⟨h2.1,fun c hc=>?_⟩
  have h3:=hl i hi c hc
  rw[h2.2,hl j hj c hc]at h3
  exact (Option.some.inj h3).symm
 ·rintro ⟨h1,h2⟩
  unfold keyK
  rw[h1]
  congr 2
  apply List.ext_getElem?
  intro c
  by_cases hc:c < m
  ·rw[hl i hi c hc,hl j hj c hc,h2 c hc]
  ·rw[List.getElem?_eq_none (by rw[List.length_map,(kL hd hm hi).1];omega),List.getElem?_eq_none (by rw[List.length_map,(kL hd hm hj).1];omega)]
theorem yN {kind:List Int} {i:Nat} (hi:i < d.Next.length):kd (jX d kind d.Next.length) i=((pos (firsts (fA d kind d.Next.length)) (keyK d kind i):Nat):Int):=by
 unfold kd jX
 rw[List.getD_eq_getElem?_getD,List.getElem?_map,List.getElem?_range hi]
 simp[hi]
theorem tA {kind:List Int} {i:Nat} (hi:i < d.Next.length):keyK d kind i∈firsts (fA d kind d.Next.length):=by
 rw[dR];exact List.mem_map.2 ⟨i,List.mem_range.2 hi,rfl⟩
theorem ap6 {kind:List Int}:(firsts (fA d kind d.Next.length)).length≤d.Next.length:=by
 have:=ahB (l:=fA d kind d.Next.length)
 simpa[fA]using this
theorem nM {kind:List Int} {i j:Nat} (hi:i < d.Next.length) (hj:j < d.Next.length):kd (jX d kind d.Next.length) i=kd (jX d kind d.Next.length) j↔keyK d kind i=keyK d kind j:=by
 rw[yN hd hm hi,yN hd hm hj]
 constructor
 ·intro h;exact aqf (tA hd hm hi) (tA hd hm hj) (by omega)
 ·intro h;rw[h]
structure KInv (d:TDfa) (kind:List Int) (many:Nat):Prop where
 len:kind.length=d.Next.length
 bd:∀ i,i < d.Next.length→0≤kd kind i∧kd kind i < 65536
 fin:∀ i j,i < d.Next.length→j < d.Next.length→kd kind i=kd kind j→finD d i=finD d j
 many:many=0∨many=(firsts ((List.range d.Next.length).map (kd kind))).length
theorem xk:∀ (fu:Nat) (kind:List Int) (many:Nat),d.Next.length - many < fu→KInv d kind many→∃ k,Loop (aw.b1 d) (kind,(many:Int))=some k∧adx d m k:=by
 intro fu
 induction fu with
 | zero=>intro kind many h;omega
 | succ fu ih=>
  intro kind many hfu hI
  have hs:=hd.some
  have hn:(jX d kind d.Next.length).length=d.Next.length:=by simp[jX]
  have hcl:=ap6 hd hm (kind:=kind)
  have hc1:1≤(firsts (fA d kind d.Next.length)).length:=List.length_pos_of_mem (tA hd hm (i:=0) (by omega))
  have href:∀ x∈List.range d.Next.length,∀ y∈List.range d.Next.length,keyK d kind x=keyK d kind y→kd kind x=kd kind y:=fun x hx y hy h=>((ab3 hd hm hI.bd (List.mem_range.1 hx) (List.mem_range.1 hy)).1 h).1
  have hfin:∀ i j,i < d.Next.length→j < d.Next.length→kd (jX d kind d.Next.length) i=kd (jX d kind d.Next.length) j→finD d i=finD d j:=fun i j hi hj h=>
   hI.fin i j hi hj ((ab3 hd hm hI.bd hi hj).1 ((nM hd hm hi hj).1 h)).1
  have hb:=round_eq hd hm hI.len (many:=(many:Int))
  unfold aw.k3 at hb
  rw[ajX]at hb
  by_cases hc:(firsts (fA d kind d.Next.length)).length=many
  ·rw[if_pos (by simp[hc])]at hb
   refine ⟨_,cM hb,hn,hfin,fun i j hi hj h c hcm=>?_⟩
   have hmany:(firsts ((List.range d.Next.length).map (keyK d kind))).length≤(firsts ((List.range d.Next.length).map (kd kind))).length:=by
    rcases hI.many with h0 | h0
    ·omega
    ·show (firsts (fA d kind d.Next.length)).length≤_
     omega
   have hk:=(nM hd hm hi hj).1 h
   have h2:=((ab3 hd hm hI.bd hi hj).1 hk).2 c hcm
   have hi':=pH hd hm hi hcm
   have hj':=pH hd hm hj hcm
   exact (nM hd hm hi' hj').2 (ag9 href hmany (List.mem_range.2 hi') (List.mem_range.2 hj') h2)
  ·rw[if_neg (by simp;omega)]at hb
   unfold aw.k2 at hb
   rw[bH hb]
   have hle:(firsts ((List.range d.Next.length).map (kd kind))).length≤(firsts (fA d kind d.Next.length)).length:=count_le (fun x h=>h) href
   refine ih _ _ ?_ ⟨hn,fun i hi=>?_,hfin,.inr ?_⟩
   ·rcases hI.many with h0 | h0 <;> omega
   ·rw[yN hd hm hi]
    have:=wL (tA hd hm (kind:=kind) hi)
    have:=hd.few
    omega
   ·refine Nat.le_antisymm ?_ ?_
    ·exact count_le (fun x h=>h) fun x hx y hy h=>(nM hd hm (List.mem_range.1 hx) (List.mem_range.1 hy)).1 h
    ·exact count_le (fun x h=>h) fun x hx y hy h=>(nM hd hm (List.mem_range.1 hx) (List.mem_range.1 hy)).2 h
def kX (d:TDfa) (j:Nat):List Int:=(List.range d.Next.length).map fun i=>if i < j∧finD d i=true then 1 else 0
theorem ad4:∃ k,aw d=some k∧adx d m k:=by
 have hf:=hd.few
 have hkl:∀ j,(kX d j).length=d.Next.length:=fun j=>by simp[kX]
 have hrun:=eu (b:=aw.b3 d) (fun j:Nat=>((kX d j,(j:Int)):List Int×Int)) (i:=0) (n:=d.Next.length) (Nat.zero_le _) (fun j _ hj=>by
  simp only[aw.b3]
  have hjf:j < d.Final.length:=by rw[hd.fin];exact hj
  have hjk:j < (kX d j).length:=by rw[hkl];exact hj
  have hfj:finD d j=d.Final[j]:=by unfold finD;rw[List.getD_eq_getElem?_getD,List.getElem?_eq_getElem hjf];rfl
  rw[if_pos (by simpa using hj),fH hjf,Option.bind_some,← hfj]
  have hset:(kX d j).set j (if finD d j=true then 1 else 0)=kX d (j+1):=by
   apply List.ext_getElem?
   intro i
   unfold kX
   rw[List.getElem?_set]
   by_cases h:j=i
   ·subst h
    rw[if_pos rfl]
    simp[hj]
   ·rw[if_neg h]
    by_cases hi:i < d.Next.length
    ·simp only[List.getElem?_map,List.getElem?_range hi,Option.map_some]
     congr 1
     by_cases h2:i < j
     ·simp[h2,show i < j+1 by omega]
     ·simp[h2,show ¬ i < j+1 by omega]
    ·rw[List.getElem?_eq_none (by simp;omega),List.getElem?_eq_none (by simp;omega)]
  unfold aw.k5
  rw[w64s (by omega),← hset]
  cases hfd:finD d j with
  | true=>rw[if_pos rfl,fH hjk];rfl
  | false=>
   rw[if_neg (by simp),if_neg (by simp)]
   have:(kX d j).set j 0=kX d j:=by
    apply List.ext_getElem?
    intro i
    rw[List.getElem?_set]
    by_cases h:j=i
    ·subst h
     rw[if_pos rfl,if_pos hjk]
     unfold kX
     simp[hj]
    ·rw[if_neg h]
   rw[this])
 unfold aw
 have hmk:mk 8 (0:Int) (d.Next.length:Int)=some (List.replicate (Int.toNat (d.Next.length:Int)) (0:Int)):=by
  unfold mk;rw[if_pos (by simp;unfold dn;omega)]
 have h0:(List.replicate (Int.toNat (d.Next.length:Int)) (0:Int),(0:Int))=(fun j:Nat=>((kX d j,(j:Int)):List Int×Int)) 0:=by
  have:kX d 0=List.replicate d.Next.length 0:=by
   unfold kX
   simp[List.map_const']
  simp only[Int.toNat_natCast]
  rw[this];rfl
 rw[hmk,Option.bind_some,h0,hrun]
 have hkd:∀ i,i < d.Next.length→kd (kX d d.Next.length) i=if finD d i=true then 1 else 0:=fun i hi=>by
  unfold kd kX
  rw[List.getD_eq_getElem?_getD,List.getElem?_map,List.getElem?_range hi]
  simp[hi]
 obtain ⟨k,h1,h2⟩:=xk hd hm (d.Next.length+1) (kX d d.Next.length) 0 (by omega) ⟨hkl _,fun i hi=>by rw[hkd i hi];split <;> omega,fun i j hi hj h=>by
  rw[hkd i hi,hkd j hj]at h
  cases h3:finD d i <;> cases h4:finD d j <;> rw[h3,h4]at h <;> simp at h <;> rfl,.inl rfl⟩
 refine ⟨k,?_,h2⟩
 refine bK ?_
 simp only[aw.b3]
 rw[if_neg (by simp)]
 unfold aw.k1
 have h1':Loop (aw.b1 d) (kX d d.Next.length,(0:Int))=some k:=h1
 rw[h1']
end
end
end Go.Val
namespace Go.Val
set_option linter.unusedSectionVars false
noncomputable section
theorem tJ {α K:Type} [DecidableEq K] {f:α→K} {x:α}:∀ {o:List α},fidx (fun a b=>decide (f a=f b)) o x=if f x∈o.map f then some (pos (o.map f) (f x))else none
 | []=>by simp[fidx]
 | y::o=>by
  have ih:=tJ (f:=f) (x:=x) (o:=o)
  unfold fidx at ih ⊢
  rw[List.findIdx?_cons,List.map_cons,pU]
  by_cases h:f y=f x
  ·simp[h]
  ·rw[if_neg (by simpa using h),if_neg h,ih]
   by_cases hx:f x∈o.map f
   ·rw[if_pos hx,if_pos (List.mem_cons_of_mem _ hx)];rfl
   ·rw[if_neg hx,if_neg (by rw[List.mem_cons];rintro (h2 | h2);exact h h2.symm;exact hx h2)];rfl
def kz (k:List Int) (s:Int):Int:=kd k s.toNat
def gz (k:List Int) (a b:Int):Bool:=decide (kz k a=kz k b)
section
variable {d:TDfa} {m:Nat} (hd:DOk d m) (hm:m≤200) {k:List Int} (hk:adx d m k)
include hd hm hk
theorem vx {x:Int} (hx:0≤x∧x < (d.Next.length:Int)) {o:List Int} (hl:o.length≤100000):
  cO x (mOf (o.map (kz k))) k o=some (((bmet (gz k) o x).2:Int),mOf ((bmet (gz k) o x).1.map (kz k)),(bmet (gz k) o x).1):=by
 unfold cO cO.k1 bmet
 have hxk:x.toNat < k.length:=by rw[hk.len];omega
 have hxv:k[x.toNat]=kz k x:=by unfold kz kd;rw[List.getD_eq_getElem?_getD,List.getElem?_eq_getElem hxk];rfl
 rw[pY hx.1 (List.getElem?_eq_getElem hxk),Option.bind_some,hxv]
 by_cases h:kz k x∈o.map (kz k)
 ·have hf:fidx (gz k) o x=some (pos (o.map (kz k)) (kz k x)):=tJ.trans (if_pos h)
  rw[hf,apy h]
  simp
 ·have hf:fidx (gz k) o x=none:=tJ.trans (if_neg h)
  rw[hf,aig h,if_pos (by simp),cy (by omega),Option.bind_some]
  have:=ahG h
  rw[List.length_map]at this
  simp only[List.map_append,List.map_cons,List.map_nil]
  rw[this]
theorem aiA {xs o:List Int} (hxs:∀ x∈xs,0≤x∧x < (d.Next.length:Int)) (ho:∀ x∈o,0≤x∧x < (d.Next.length:Int)):∀ x∈(brow (gz k) o xs).1,0≤x∧x < (d.Next.length:Int):=fun x hx=>
 (pZ _ _ x hx).elim (ho x) (hxs x)
theorem mW {o:List Int} (ho:∀ x∈o,0≤x∧x < (d.Next.length:Int)) (ha:ph (gz k) o):o.length≤d.Next.length:=by
 have hn:o.Nodup:=ha.imp fun {a b} h e=>by subst e;simp[gz]at h
 have:=gx (m:=(List.range d.Next.length).map fun i:Nat=>(i:Int)) hn (fun x hx=>List.mem_map.2 ⟨x.toNat,List.mem_range.2 (by have:=ho x hx;omega),by have:=ho x hx;omega⟩)
 simpa using this
theorem asq {i:Int} {N1:List (List Int)} {F1:List Bool} {xs:List Int} (hxs:∀ x∈xs,0≤x∧x < (d.Next.length:Int)) (hxl:xs.length≤200):
  ∀ (l:List Int) (j:Nat),xs.drop j=l→∀ (row o:List Int),row.length=j→(∀ x∈o,0≤x∧x < (d.Next.length:Int))→ph (gz k) o→
   Loop (bk.b2 d k i N1 F1 xs) (row,(j:Int),mOf (o.map (kz k)),o)=bk.k3 d i N1 F1 (row++(brow (gz k) o l).2) (mOf ((brow (gz k) o l).1.map (kz k))) (brow (gz k) o l).1:=by
 intro l
 induction l with
 | nil=>
  intro j hl row o hrow ho ha
  have hj:xs.length≤j:=List.drop_eq_nil_iff.1 hl
  refine bK ?_
  simp only[bk.b2]
  rw[if_neg (by simp;omega)]
  simp[brow]
 | cons x l ih=>
  intro j hl row o hrow ho ha
  obtain ⟨hj,hx,hdr⟩:=lL hl
  have hxb:=hxs x (hx ▸ List.getElem_mem hj)
  have hlo:=mW hd hm hk ho ha
  have hf:=hd.few
  have h1:=vx hd hm hk hxb (o:=o) (by omega)
  have hb:bk.b2 d k i N1 F1 xs (row,(j:Int),mOf (o.map (kz k)),o)=some (.next (row++[((bmet (gz k) o x).2:Int)],((j+1:Nat):Int),mOf ((bmet (gz k) o x).1.map (kz k)),(bmet (gz k) o x).1)):=by
   simp only[bk.b2]
   rw[if_pos (by simpa using hj),fH hj,Option.bind_some,hx,h1,Option.bind_some,cy (by omega),Option.bind_some,w64s (by omega)]
  rw[bH hb,ih (j+1) hdr _ _ (by simp[hrow]) (fun y hy=>?_) (sI x ha)]
  ·simp[brow]
  ·have:y∈(brow (gz k) o [x]).1:=hy
   exact aiA hd hm hk (fun z hz=>by simp at hz;exact hz ▸ hxb) ho y this
def finZ (d:TDfa) (s:Int):Bool:=finD d s.toNat
theorem al6:∀ (fu i:Nat) (o:List Int) (R:List (List Int)),fu+i=d.Next.length+1→i≤o.length→R.length=i→(∀ x∈o,0≤x∧x < (d.Next.length:Int))→ph (gz k) o→
  ∃ o' R',bgo (gz k) (fun x=>rowD d x.toNat) d.Next.length fu i o R=some (o',R')∧Loop (bk.b1 d k) ((i:Int),mOf (o.map (kz k)),o,R,(o.take i).map (finZ d))=some (⟨R',o'.map (finZ d)⟩,0):=by
 intro fu
 induction fu with
 | zero=>intro i o R h1 h2 _ ho ha;have:=mW hd hm hk ho ha;omega
 | succ fu ih=>
  intro i o R h1 h2 hR ho ha
  have hlo:=mW hd hm hk ho ha
  have hf:=hd.few
  rw[bgo]
  cases hs:o[i]? with
  | none=>
   have hse:o.length≤i:=List.getElem?_eq_none_iff.1 hs
   refine ⟨o,R,rfl,bK ?_⟩
   simp only[bk.b1]
   rw[if_neg (by simp;omega),List.take_of_length_le hse];rfl
  | some x=>
   have hso:=(List.getElem?_eq_some_iff.1 hs)
   have hx:=ho x (List.mem_of_getElem? hs)
   have hxn:x.toNat < d.Next.length:=by omega
   have hrw:=kL hd hm hxn
   have hrow:d.Next[x.toNat]=rowD d x.toNat:=by unfold rowD;rw[List.getD_eq_getElem?_getD,List.getElem?_eq_getElem hxn];rfl
   have hin:=aiA hd hm hk hrw.2 ho
   have hap:=sX (same:=gz k) (rowD d x.toNat) o ha
   have hle:=mW hd hm hk hin hap
   obtain ⟨t,ht⟩:=kF (same:=gz k) (rowD d x.toNat) o
   simp only
   rw[if_pos hle]
   have hs':(brow (gz k) o (rowD d x.toNat)).1[i]? =some x:=by rw[← ht,List.getElem?_append_left hso.1];exact hs
   have hso':=(List.getElem?_eq_some_iff.1 hs')
   have hxf:x.toNat < d.Final.length:=by rw[hd.fin];exact hxn
   have hfv:d.Final[x.toNat]=finZ d x:=by unfold finZ finD;rw[List.getD_eq_getElem?_getD,List.getElem?_eq_getElem hxf];rfl
   have hb:bk.b1 d k ((i:Int),mOf (o.map (kz k)),o,R,(o.take i).map (finZ d))=some (.next (((i+1:Nat):Int),mOf ((brow (gz k) o (rowD d x.toNat)).1.map (kz k)),(brow (gz k) o (rowD d x.toNat)).1,R++[(brow (gz k) o (rowD d x.toNat)).2],((brow (gz k) o (rowD d x.toNat)).1.take (i+1)).map (finZ d))):=by
    simp only[bk.b1]
    have h0:(([]:List Int),(0:Int),mOf (o.map (kz k)),o)=(([]:List Int),((0:Nat):Int),mOf (o.map (kz k)),o):=rfl
    rw[if_pos (by simpa using hso.1),bm,hs,Option.bind_some,pY hx.1 (List.getElem?_eq_getElem hxn),Option.bind_some,hrow,h0,asq hd hm hk hrw.2 (by rw[hrw.1];exact hm) (rowD d x.toNat) 0 rfl [] o rfl ho ha]
    unfold bk.k3 bk.k2
    rw[bm,hs',Option.bind_some,pY hx.1 (List.getElem?_eq_getElem hxf),Option.bind_some,cy (by omega),Option.bind_some,cy (by simp;omega),Option.bind_some,w64s (by omega),List.nil_append,dJ hso'.1,hso'.2,List.map_append,← ht,List.take_append_of_le_length (by omega),hfv]
    rfl
   rw[bH hb]
   exact ih (i+1) _ _ (by omega) (by have:=hso'.1;omega) (by simp[hR]) hin hap
end
section
variable {d:TDfa} {m:Nat} (hd:DOk d m) (hm1:1≤m) (hm:m≤200)
include hd hm1 hm
theorem amy:∃ k o' R',adx d m k∧bgo (gz k) (fun x=>rowD d x.toNat) d.Next.length (d.Next.length+1) 0 [0] []=some (o',R')∧bk d=some (⟨R',o'.map (finZ d)⟩,0):=by
 obtain ⟨k,h1,hk⟩:=ad4 hd hm
 have hs:=hd.some
 have h0:∀ x∈[(0:Int)],0≤x∧x < (d.Next.length:Int):=fun x hx=>by simp at hx;omega
 obtain ⟨o',R',h2,h3⟩:=al6 hd hm hk (d.Next.length+1) 0 [0] [] (by omega) (by simp) rfl h0 (by simp[ph])
 refine ⟨k,o',R',hk,h2,?_⟩
 unfold bk
 have e:=vx hd hm hk (h0 0 (by simp)) (o:=[]) (by simp)
 have e':cO 0 [] k []=some (0,mOf ([(0:Int)].map (kz k)),[0]):=e
 rw[aaB hd hm1 hm,Option.bind_some,if_neg (by simp),h1,Option.bind_some,e',Option.bind_some]
 exact h3
theorem aj3 {N:List (List Int)} {s c:Nat} {cs:List Nat}:dRun N s (cs++[c])=lW N (dRun N s cs) c:=by unfold dRun;rw[List.foldl_append];rfl
theorem ake:∀ {cs:List Nat} {s:Nat},s < d.Next.length→(∀ c∈cs,c < m)→dRun d.Next s cs < d.Next.length
 | [],s,hs,_=>hs
 | c::cs,s,hs,h=>ake (s:=lW d.Next s c) (pH hd hm hs (h c (by simp))) fun c' hc'=>h c' (by simp[hc'])
theorem ag2:∃ e,bk d=some (e,0)∧DOk e m∧∀ cs:List Nat,(∀ c∈cs,c < m)→finD e (dRun e.Next 0 cs)=finD d (dRun d.Next 0 cs):=by
 obtain ⟨k,o',R',hk,h1,h2⟩:=amy hd hm1 hm
 have hs:=hd.some
 have hf:=hd.few
 have h0:∀ x∈[(0:Int)],0≤x∧x < (d.Next.length:Int):=fun x hx=>by simp at hx;omega
 have hr:∀ x,gz k x x=true:=fun x=>by simp[gz]
 obtain ⟨hI,hpre,hlen⟩:=zp hr (d.Next.length+1) 0 [0] [] o' R' ⟨rfl,Nat.zero_le _,fun j x hj=>absurd hj (Nat.not_lt_zero _)⟩ (by simpa using hs) h1
 have hin:∀ x∈o',0≤x∧x < (d.Next.length:Int):=ajt (P:=fun x=>0≤x∧x < (d.Next.length:Int)) (fun x hx y hy=>(kL hd hm (by omega)).2 y hy) _ _ _ _ _ _ h0 h1
 have ho0:o'[0]? =some 0:=by
  obtain ⟨t,ht⟩:=hpre
  rw[← ht];rfl
 have hR:R'.length=o'.length:=hI.len
 have hol:=(List.getElem?_eq_some_iff.1 ho0).1
 have hget:∀ {i:Nat} {y:Int},o'[i]? =some y→finD ⟨R',o'.map (finZ d)⟩ i=finZ d y:=fun {i y} h=>by
  unfold finD
  rw[List.getD_eq_getElem?_getD,List.getElem?_map,h];rfl
 refine ⟨⟨R',o'.map (finZ d)⟩,h2,⟨by simp only;omega,by simp only;omega,by simp[hR],fun r hr'=>?_⟩,fun cs hcs=>?_⟩
 ·obtain ⟨i,hi,rfl⟩:=List.getElem_of_mem hr'
  simp only at hi ⊢
  have hio:i < o'.length:=by omega
  obtain ⟨r,g1,g2,g3⟩:=hI.row i o'[i] hio (List.getElem?_eq_getElem hio)
  rw[List.getElem?_eq_getElem hi]at g1
  obtain rfl:=Option.some.inj g1
  have hxb:=hin _ (List.getElem_mem hio)
  have hrw:=kL hd hm (i:=o'[i].toNat) (by omega)
  refine ⟨g2.trans hrw.1,fun e he=>?_⟩
  obtain ⟨c,hc,rfl⟩:=List.getElem_of_mem he
  have hc2:c < (rowD d o'[i].toNat).length:=by omega
  obtain ⟨kk,g4,g5⟩:=g3 c _ (List.getElem?_eq_getElem hc2)
  rw[List.getElem?_eq_getElem hc]at g4
  have:=Option.some.inj g4
  have:=alT g5
  omega
 ·have hsim:=bsim (β:=Nat) hI (Q:=fun x b=>(0≤x∧x < (d.Next.length:Int))∧b < d.Next.length∧kz k x=kd k b) (nx:=lW d.Next) (m:=m) (fun x b c hq hc=>by
   obtain ⟨hx,hb,he⟩:=hq
   have hrw:=kL hd hm (i:=x.toNat) (by omega)
   refine ⟨(rowD d x.toNat)[c]'(by omega),List.getElem?_eq_getElem _,hrw.2 _ (List.getElem_mem _),pH hd hm hb hc,?_⟩
   have h3:=hk.step x.toNat b (by omega) hb he c hc
   rw[← h3]
   unfold kz lW
   show _=kd k ((rowD d x.toNat).getD c 0).toNat
   rw[List.getD_eq_getElem?_getD,List.getElem?_eq_getElem (by omega)];rfl) (fun y y' b hm' hs hq=>⟨hin y' hm',hq.2.1,(show kz k y'=kz k y by simpa[gz]using hs).trans hq.2.2⟩) cs hcs 0 0 0 ho0 ⟨h0 0 (by simp),by omega,rfl⟩
  obtain ⟨y,g1,hy,hb,he⟩:=hsim
  show finD ⟨R',o'.map (finZ d)⟩ (dRun R' 0 cs)=_
  rw[hget g1]
  exact hk.fin y.toNat _ (by omega) hb he
end
end
end Go.Val
namespace Go.Val
set_option linter.unusedSectionVars false
noncomputable section
theorem anD:∀ (n:aE) (A:GA),okN n=true→(∀ s∈A.1,0≤s)→∀ s∈(glu n A).2.1,0≤s:=by
 intro n
 induction n using aE.ind with
 | h n ih=>
 intro A hok hA
 obtain ⟨k,s,l⟩:=n
 have hok':=hok
 rw[qg,Bool.and_eq_true,kA,List.all_eq_true]at hok'
 have ih':∀ x∈l,∀ A:GA,(∀ s∈A.1,0≤s)→∀ s∈(glu x A).2.1,0≤s:=fun x hx A h=>ih x hx A (hok'.2 x hx) h
 have cat:∀ (l':List aE),(∀ x∈l',x∈l)→∀ (out:GP) (A:GA),(∀ s∈A.1,0≤s)→∀ s∈(ij l' out A).2.1,0≤s:=by
  intro l'
  induction l' with
  | nil=>intro _ out A h;rw[ij];exact h
  | cons x l' ihl=>intro hl out A h;rw[ij];exact ihl (fun y hy=>hl y (by simp[hy])) _ _ (ih' x (hl x (by simp)) A h)
 have alt:∀ (l':List aE),(∀ x∈l',x∈l)→∀ (out:GP) (A:GA),(∀ s∈A.1,0≤s)→∀ s∈(gZ l' out A).2.1,0≤s:=by
  intro l'
  induction l' with
  | nil=>intro _ out A h;rw[gZ];exact h
  | cons x l' ihl=>intro hl out A h;rw[gZ];exact ihl (fun y hy=>hl y (by simp[hy])) _ _ (ih' x (hl x (by simp)) A h)
 rw[glu]
 split
 ·rename_i h1
  subst h1
  have h3:=hok'.1
  simp only[okK,if_pos,Bool.and_eq_true,decide_eq_true_eq]at h3
  intro s' hs'
  rcases List.mem_append.1 hs' with h | h
  ·exact hA s' h
  ·obtain rfl:=List.mem_singleton.1 h
   exact h3.2.1
 ·split
  ·exact cat l (fun x h=>h) _ A hA
  ·split
   ·exact alt l (fun x h=>h) _ A hA
   ·cases l with
    | nil=>rw[cA];exact hA
    | cons x l=>rw[cA];exact ih' x (by simp) A hA
theorem tP {n:aE} (hok:okN n=true) (h:di n≤200):adK 200 (nC n):=by
 have hg:=(asf (hit:=fun _ _=>true) n ([],[]) rfl).2.1
 have hI:In2 (glu n ([],[])).2.1.length (glu n ([],[])).1 ([],[]) (glu n ([],[])).2:=⟨hg,Nat.le_refl _,fun row hr=>by cases hr⟩
 have hl:=tZ n ([],[])
 exact ⟨hg.len,by simp at hl;exact Nat.le_trans hl h,hI.first,hI.last,hI.all,anD n ([],[]) hok (fun s hs=>by cases hs)⟩
def msk (masks:List Int) (cs:List Nat):List Int:=cs.map fun c=>masks.getD c 0
def sufL (n:aE) (w:List Int):Prop:=∃ u v,w=u++v∧Lang hitI n v
section
variable {n:aE} (hok:okN n=true) (hsz:di n≤200) {masks:List Int} (hm1:1≤masks.length) (hm:masks.length≤200) {limit:Nat} (hl1:1≤limit) (hl:limit≤5000)
include hok hsz hm1 hm hl1 hl
theorem amR:(∃ d,aO (nC n) masks true (limit:Int)=some (d,0)∧DOk d masks.length∧∀ cs:List Nat,(∀ c∈cs,c < masks.length)→(finD d (dRun d.Next 0 cs)=true↔sufL n (msk masks cs)))∨
  bgo eqL (fun x=>masks.map (nxA (nC n) x)) limit (limit+1) 0 [[0]] []=none∧aO (nC n) masks true (limit:Int)=some (⟨[],[]⟩,8):=by
 have ha:=tP hok hsz
 have hsb:=mJ (Nat.le_refl 200) ha hm1 hm hl1 hl
 cases hb:bgo eqL (fun x=>masks.map (nxA (nC n) x)) limit (limit+1) 0 [[0]] []with
 | none=>rw[hb]at hsb;exact .inr ⟨rfl,hsb⟩
 | some p=>
  obtain ⟨o',R'⟩:=p
  rw[hb]at hsb
  left
  obtain ⟨hI,hpre,hlen⟩:=zp anq (limit+1) 0 [[0]] [] o' R' ⟨rfl,Nat.zero_le _,fun j x hj=>absurd hj (Nat.not_lt_zero _)⟩ (by simpa using hl1) hb
  have ho0:o'[0]? =some [0]:=by
   obtain ⟨t,ht⟩:=hpre
   rw[← ht];rfl
  have hol:=(List.getElem?_eq_some_iff.1 ho0).1
  have hR:R'.length=o'.length:=hI.len
  refine ⟨_,hsb,⟨by simp only;omega,by simp only;omega,by simp[hR],fun r hr'=>?_⟩,fun cs hcs=>?_⟩
  ·obtain ⟨i,hi,rfl⟩:=List.getElem_of_mem hr'
   simp only at hi ⊢
   have hio:i < o'.length:=by omega
   obtain ⟨r,g1,g2,g3⟩:=hI.row i o'[i] hio (List.getElem?_eq_getElem hio)
   rw[List.getElem?_eq_getElem hi]at g1
   obtain rfl:=Option.some.inj g1
   rw[List.length_map]at g2
   refine ⟨g2,fun e he=>?_⟩
   obtain ⟨c,hc,rfl⟩:=List.getElem_of_mem he
   obtain ⟨kk,g4,g5⟩:=g3 c _ (List.getElem?_eq_getElem (by rw[List.length_map];omega))
   rw[List.getElem?_eq_getElem hc]at g4
   have:=Option.some.inj g4
   have:=alT g5
   omega
  ·have hsim:=bsim (β:=List Int) hI (Q:=fun x b=>x=b) (nx:=fun b c=>nxA (nC n) b (masks.getD c 0)) (m:=masks.length) (fun x b c hq hc=>by
    subst hq
    refine ⟨_,?_,rfl⟩
    rw[List.getElem?_map,List.getElem?_eq_getElem hc,List.getD_eq_getElem?_getD,List.getElem?_eq_getElem hc];rfl) (fun y y' b hm' hs hq=>by
    have:y'=y:=by simpa[eqL]using hs
    rw[this];exact hq) cs hcs 0 [0] [0] ho0 rfl
   obtain ⟨y,g1,g2⟩:=hsim
   have hst:y=stOf hitI (nC n).Sets (nC n).First (nC n).Follow (msk masks cs):=by
    rw[g2]
    unfold stOf msk
    rw[List.foldl_map];rfl
   have hg:=(asf (hit:=hitI) n ([],[]) rfl).2
   have he:=aqc hg.1 hg.2 (msk masks cs)
   show finD ⟨R',o'.map (enA (nC n))⟩ (dRun R' 0 cs)=true↔_
   unfold finD
   rw[List.getD_eq_getElem?_getD,List.getElem?_map,g1]
   rw[hst]
   exact he
theorem xx:(∃ e,dv n masks (limit:Int)=some (e,0)∧DOk e masks.length∧∀ cs:List Nat,(∀ c∈cs,c < masks.length)→(finD e (dRun e.Next 0 cs)=true↔sufL n (msk masks cs)))∨
  bgo eqL (fun x=>masks.map (nxA (nC n) x)) limit (limit+1) 0 [[0]] []=none∧dv n masks (limit:Int)=some (⟨[],[]⟩,8):=by
 unfold dv
 rw[uG hok hsz,Option.bind_some,if_neg (by simp)]
 rcases amR hok hsz hm1 hm hl1 hl with ⟨d,h1,h2,h3⟩ | ⟨h0,h1⟩
 ·left
  obtain ⟨e,g1,g2,g3⟩:=ag2 h2 hm1 hm
  refine ⟨e,?_,g2,fun cs hcs=>by rw[g3 cs hcs];exact h3 cs hcs⟩
  rw[h1,Option.bind_some,if_neg (by simp),g1];rfl
 ·right
  refine ⟨h0,?_⟩
  rw[h1,Option.bind_some,if_pos (by simp)]
end
end
end Go.Val
namespace Go.Val
set_option linter.unusedSectionVars false
noncomputable section
def ed2 (x:ak):List Int:=[x.Low,x.High+1]
def allE (l:List ak):List Int:=l.flatMap ed2
theorem pK:∀ {l:List ak},(allE l).length=2*l.length
 | []=>rfl
 | x::l=>by
  show (ed2 x++allE l).length=_
  rw[List.length_append,pK];simp[ed2];omega
theorem acC {l m:List ak}:allE (l++m)=allE l++allE m:=by simp[allE]
theorem aoR {l:List ak} {e:Int}:e∈allE l↔∃ x∈l,e=x.Low∨e=x.High+1:=by
 unfold allE
 rw[List.mem_flatMap]
 exact exists_congr fun x=>and_congr Iff.rfl (by simp[ed2])
theorem amd {xs:List ak} {v:Nat} (hx:∀ x∈xs,Ok x) (hl:xs.length≤1200) (hv:v≤1000) {out:List Int} (ho:out.length≤10000):
  Loop (av.b3 (v:Int) xs) (out,(0:Int))=some (.next (out++allE xs,((v+1:Nat):Int))):=by
 have hrun:=eu (b:=av.b3 (v:Int) xs) (fun j:Nat=>((out++allE (xs.take j),(j:Int)):List Int×Int)) (i:=0) (n:=xs.length) (Nat.zero_le _) (fun j _ hj=>by
  simp only[av.b3]
  obtain ⟨a,b,c⟩:=hx _ (List.getElem_mem hj)
  rw[if_pos (by simpa using hj),fH hj,Option.bind_some,cy (by rw[List.length_append,pK,List.length_take];omega),Option.bind_some,w64 (n:=xs[j].High+1) (by omega) (by omega),w64s (by omega),dJ hj,acC,List.append_assoc]
  rfl)
 have h0:(out,(0:Int))=(fun j:Nat=>((out++allE (xs.take j),(j:Int)):List Int×Int)) 0:=by simp[allE]
 rw[h0,hrun]
 refine bK ?_
 simp only[av.b3]
 rw[if_neg (by simp),List.take_length]
 unfold av.k4
 rw[w64s (by omega)]
 try rfl
section
variable {S:List (List ak)} (h:Good S)
include h
theorem ah4 {A:aB}:av A S=av.k1 A (0::allE S.flatten):=by
 have hs:=h.small
 have hf:=h.few
 unfold av
 have hrun:=eu (b:=av.b2 A S) (fun j:Nat=>((0::allE (S.take j).flatten,(j:Int)):List Int×Int)) (i:=0) (n:=S.length) (Nat.zero_le _) (fun j _ hj=>by
  simp only[av.b2]
  have h1:=adm hj
  rw[if_pos (by simpa using hj),fH hj,Option.bind_some,amd (fun x hx=>h.ok x (pE hj hx)) (by omega) (by omega) (by rw[List.length_cons,pK];omega),jF hj,acC]
  rfl)
 have h0:(([(0:Int)]:List Int),(0:Int))=(fun j:Nat=>((0::allE (S.take j).flatten,(j:Int)):List Int×Int)) 0:=by simp[allE]
 rw[h0,hrun]
 refine bK ?_
 simp only[av.b2]
 rw[if_neg (by simp),List.take_length]
def prC (S:List (List ak)) (e:Int):cF:=⟨e,1114111,UInt8.ofNat (iW S e)⟩
theorem ahK {r:Int} (hr:0≤r) (hr2:r≤1114111):valN ((edg S).map (prC S)) r=UInt8.ofNat (iW S r):=by
 obtain ⟨k,hk,h1,h2⟩:=rn h hr hr2
 have hp:=(ec h).2.2.1
 have hE:=jz h
 have key:∀ j,j≤(edg S).length→k < j→valN (((edg S).take j).map (prC S)) r=UInt8.ofNat (iW S r):=by
  intro j
  induction j with
  | zero=>intro _ h;omega
  | succ j ih=>
   intro hj hkj
   have hj':j < (edg S).length:=by omega
   rw[dJ hj',List.map_append,List.map_singleton,rH]
   by_cases e:j=k
   ·subst e
    rw[fT hk]at h1
    rw[if_pos ⟨h1,hr2⟩]
    show UInt8.ofNat (iW S (edg S)[j])=_
    unfold iW
    rw[rh h hk (by rw[fT hk];exact h1) h2 hr2,fT hk]
   ·rw[if_neg,ih (by omega) (by omega)]
    rintro ⟨a,_⟩
    have hm:=un hp (fun e he=>(hE e he).2) (j - (k+1)) (k+1) (by omega)
    rw[show k+1+(j - (k+1))=j by omega,fT hj']at hm
    have:(edg S)[j]≤r:=a
    omega
 have:=key (edg S).length (Nat.le_refl _) hk
 rwa[List.take_length]at this
theorem asY {k:Nat} (hk:k < 4352):cE ((edg S).map (prC S)) k=cE (prp S) k:=by
 apply Vector.toList_inj.1
 apply List.ext_getElem?
 intro j
 by_cases hj:j < 256
 ·have hb:=auC hk hj
  rw[kJ _ _ _ hj,kJ _ _ _ hj,ahK h hb.1 hb.2,abE h hb.1 hb.2]
 ·rw[List.getElem?_eq_none (by simp;omega),List.getElem?_eq_none (by simp;omega)]
def IsT (S:List (List ak)) (t:bj):Prop:=∀ r,inR r→fm t r=some (UInt8.ofNat (iW S r))
theorem wq (hF:Fit S) {A:aB} (hA:IsA S A):∃ t,av A S=some (some t)∧IsT S t:=by
 have hs:=h.small
 have hel:=(ec h).2.2.2.2
 have hpl:((edg S).map (prC S)).length≤4096:=by rw[List.length_map];omega
 have hpo:∀ x∈(edg S).map (prC S),OkP x:=by
  intro x hx
  obtain ⟨e,he,rfl⟩:=List.mem_map.1 hx
  have:=jz h e he
  exact ⟨this.1,this.2,Int.le_refl _⟩
 have hbk:blks ((edg S).map (prC S)) nB=blks (prp S) nB:=by
  unfold blks
  apply List.map_congr_left
  intro k hk
  exact asY h (by have:=List.mem_range.1 hk;rw[vJ]at this;exact this)
 have hcnt:(firsts (blks ((edg S).map (prC S)) nB)).length≤256:=by rw[hbk];exact hF.2
 obtain ⟨like,hlike,hbuild⟩:=(xH vJ hpo hpl).1 hcnt
 refine ⟨⟨like,firsts (blks ((edg S).map (prC S)) nB)⟩,?_,fun r hr=>?_⟩
 ·rw[ah4 h]
  have hr:dn=140737488355328:=rfl
  have hol:(0::allE S.flatten).length≤2401:=by rw[List.length_cons,pK];omega
  have hpm:((0::allE S.flatten).mergeSort fun x y=>decide (x≤y)).Perm (0::allE S.flatten):=List.mergeSort_perm _ _
  have hsort:((0::allE S.flatten).mergeSort fun x y=>decide (x≤y)).Pairwise (· ≤ ·):=by
   have:=List.pairwise_mergeSort (le:=fun x y:Int=>decide (x≤y)) (by intro a b c;simp;omega) (by intro a b;simp;omega) (0::allE S.flatten)
   exact this.imp (by simp)
  obtain ⟨c1,c2,c3⟩:=lC hsort
  have hlen:=hpm.length_eq
  have hu:av.k1 A (0::allE S.flatten)=Loop (av.b1 A (Go.Lib.compact ((0::allE S.flatten).mergeSort fun x y=>decide (x≤y)))) ([],(0:Int)):=by
   unfold av.k1 rK
   rw[if_pos (by omega),Option.bind_some]
   unfold cp
   rw[if_pos (by omega)];rfl
  rw[hu]
  have hr1:∀ e,e∈Go.Lib.compact ((0::allE S.flatten).mergeSort fun x y=>decide (x≤y))↔e=0∨∃ x∈S.flatten,e=x.Low∨e=x.High+1:=fun e=>by
   rw[c2,hpm.mem_iff,List.mem_cons,aoR]
  have hrl:(Go.Lib.compact ((0::allE S.flatten).mergeSort fun x y=>decide (x≤y))).length≤2401:=by omega
  generalize Go.Lib.compact ((0::allE S.flatten).mergeSort fun x y=>decide (x≤y))=rr at c1 hr1 hrl
  have hfe:rr.filter (fun e=>decide (e≤1114111))=edg S:=by
   refine mU (c1.sublist List.filter_sublist) (ec h).2.2.1 fun e=>?_
   rw[List.mem_filter,hr1,(ec h).2.2.2.1,decide_eq_true_eq]
   constructor
   ·rintro ⟨h0 | ⟨x,hx,h1 | h1⟩,h2⟩
    ·exact .inl h0
    ·exact .inr ⟨x,hx,.inl h1⟩
    ·exact .inr ⟨x,hx,.inr ⟨by omega,h1⟩⟩
   ·rintro (h0 | ⟨x,hx,h1 | ⟨h2,h1⟩⟩)
    ·exact ⟨.inl h0,by omega⟩
    ·obtain ⟨a,b,c⟩:=h.ok x hx
     exact ⟨.inr ⟨x,hx,.inl h1⟩,by omega⟩
    ·exact ⟨.inr ⟨x,hx,.inr h1⟩,by omega⟩
  have hrun:=eu (b:=av.b1 A rr) (fun j:Nat=>((((rr.take j).filter (fun e=>decide (e≤1114111))).map (prC S),(j:Int)):List cF×Int)) (i:=0) (n:=rr.length) (Nat.zero_le _) (fun j _ hj=>by
   simp only[av.b1]
   have hpl:(((rr.take j).filter (fun e=>decide (e≤1114111))).map (prC S)).length≤2401:=by
    rw[List.length_map]
    exact Nat.le_trans (List.length_filter_le _ _) (by rw[List.length_take];omega)
   rw[if_pos (by simpa using hj),fH hj,Option.bind_some,dJ hj,List.filter_append,List.map_append]
   by_cases hc:rr[j]≤1114111
   ·have h0:0≤rr[j]:=by
     rcases (hr1 _).1 (List.getElem_mem hj)with e | ⟨x,hx,e | e⟩
     ·omega
     ·obtain ⟨a,b,c⟩:=h.ok x hx;omega
     ·obtain ⟨a,b,c⟩:=h.ok x hx;omega
    have hlt:=nz h ⟨h0,hc⟩
    have hF1:=hF.1
    have hof:ofI S rr[j]=((iW S rr[j]:Nat):Int):=if_pos ⟨h0,hc⟩
    rw[if_pos (decide_eq_true hc),awg h hF hA,Option.bind_some,cy (by omega),Option.bind_some,hof,tw (by omega)]
    unfold av.k3
    rw[w64s (by omega)]
    simp[hc,prC]
   ·rw[if_neg (by simpa using hc)]
    unfold av.k3
    rw[w64s (by omega)]
    simp[hc])
  have h0:(([]:List cF),(0:Int))=(fun j:Nat=>((((rr.take j).filter (fun e=>decide (e≤1114111))).map (prC S),(j:Int)):List cF×Int)) 0:=by simp
  rw[h0,hrun]
  refine bK ?_
  simp only[av.b1]
  rw[if_neg (by simp),List.take_length,hfe]
  unfold av.k2
  rw[hbuild];rfl
 ·rw[vz vJ hlike hcnt hr.1 hr.2,ahK h hr.1 hr.2]
end
end
end Go.Val
namespace Go.Val
set_option linter.unusedSectionVars false
noncomputable section
structure FewC (p:bP):Prop where
 few:FewP p
 flat:p.Sets.flatten.length≤1200
def rP (n:aE) (masks:List Int) (limit:Nat):Prop:=bgo eqL (fun x=>masks.map (nxA (nC n) x)) limit (limit+1) 0 [[0]] []≠none
def apN (n:aE) (masks:List Int) (e:TDfa):Prop:=DOk e masks.length∧∀ cs:List Nat,(∀ c∈cs,c < masks.length)→(finD e (dRun e.Next 0 cs)=true↔sufL n (msk masks cs))
def acH (p:bP) (limit:Nat):Prop:=gC p∧Fit p.Sets∧∀ x∈p.Rules,rP x.Left (cls p.Sets) limit∧rP (gS x.Right) (cls p.Sets) limit
def apR (S:List (List ak)) (x:lV) (r:bi):Prop:=r.breaks=x.Break∧apN x.Left (cls S) r.states.v0∧apN (gS x.Right) (cls S) r.states.v1
structure MOk (p:bP) (y:aQ):Prop where
 len:y.rules.length=p.Rules.length
 rule:∀ (k:Nat) (x:lV) (r:bi),p.Rules[k]? =some x→y.rules[k]? =some r→apR p.Sets x r
 trie:IsT p.Sets y.trie
section
variable {p:bP} (hp:FewC p) {limit:Nat} (hl1:1≤limit) (hl:limit≤5000)
include hp hl1 hl
theorem gC.good (h:gC p):Good p.Sets:=⟨h.2.2.1,h.1,hp.flat⟩
theorem gC.ok (h:gC p) {x:lV} (hx:x∈p.Rules):(okN x.Left=true∧di x.Left≤200)∧(okN (gS x.Right)=true∧di (gS x.Right)≤200):=by
 have hf:=rI h.2.2.2.2 x hx
 have hn:=hp.few.nodes x hx
 refine ⟨⟨ads h.1 _ _ _ hf.1,by omega⟩,?_,?_⟩
 ·rw[arK];exact ads h.1 _ _ _ hf.2
 ·rw[alG];omega
theorem asM (h:Good p.Sets):1≤(cls p.Sets).length:=List.length_pos_of_mem (uW h (r:=0) (by omega) (by omega))
theorem aol {A:aB} (hF:Fit p.Sets) (hA:IsA p.Sets A):ck A=some (cls p.Sets):=by
 obtain ⟨like,hL,rfl⟩:=hA
 unfold ck cQ
 have:=hF.1
 rw[cy (by show (0+(cls p.Sets).length)*8≤_;omega)];rfl
theorem aga (hR:gC p) (hF:Fit p.Sets) {A:aB} (hA:IsA p.Sets A) {t:bj} {n:Int}:
  ∀ (l:List lV) (i:Nat),p.Rules.drop i=l→∀ out:List bi,out.length=i→
   ((∀ x∈l,rP x.Left (cls p.Sets) limit∧rP (gS x.Right) (cls p.Sets) limit)→∃ more:List bi,more.length=l.length∧(∀ (k:Nat) (x:lV) (r:bi),l[k]? =some x→more[k]? =some r→apR p.Sets x r)∧
     Loop (aC.b2 p (limit:Int) A t n) ((i:Int),out)=some (some ⟨out++more,t,n⟩,0))∧
   ((¬ ∀ x∈l,rP x.Left (cls p.Sets) limit∧rP (gS x.Right) (cls p.Sets) limit)→Loop (aC.b2 p (limit:Int) A t n) ((i:Int),out)=some (none,8)):=by
 have hG:=gC.good hp hl1 hl hR
 have hc1:=asM hp hl1 hl hG
 have hc2:=hF.1
 have hrl:=hp.few.rules
 intro l
 induction l with
 | nil=>
  intro i hli out ho
  have hi:p.Rules.length≤i:=List.drop_eq_nil_iff.1 hli
  refine ⟨fun _=>⟨[],rfl,fun k x r h=>by simp at h,?_⟩,fun h=>absurd (fun x hx=>by cases hx) h⟩
  refine bK ?_
  simp only[aC.b2]
  rw[if_neg (by simp;omega),List.append_nil];rfl
 | cons x l ih=>
  intro i hli out ho
  obtain ⟨hil,hx,hd⟩:=lL hli
  have hxm:x∈p.Rules:=hx ▸ List.getElem_mem hil
  have hok:=gC.ok hp hl1 hl hR hxm
  have hn:=hp.few.nodes x hxm
  have e1:aC.b2 p (limit:Int) A t n ((i:Int),out)=(dv x.Left (cls p.Sets) (limit:Int)).bind fun r12=>if (r12.2 != (0:Int))then some (Step.done (none,r12.2))else (dv (gS x.Right) (cls p.Sets) (limit:Int)).bind fun r14=>if (r14.2 != (0:Int))then some (Step.done (none,r14.2))else aC.k6 (i:Int) out x r12.1.Next r12.1.Final r14.1.Next r14.1.Final:=by
   simp only[aC.b2]
   rw[if_pos (by simpa using hil),fH hil,Option.bind_some,hx,ar6 (by omega),Option.bind_some,aol hp hl1 hl hF hA,Option.bind_some]
   rfl
  rcases xx hok.1.1 hok.1.2 hc1 hc2 hl1 hl with ⟨d1,a1,a2,a3⟩ | ⟨b0,b1⟩
  ·rcases xx hok.2.1 hok.2.2 hc1 hc2 hl1 hl with ⟨d2,c1,c2,c3⟩ | ⟨b0,b1⟩
   ·have e2:aC.b2 p (limit:Int) A t n ((i:Int),out)=some (Step.next (((i+1:Nat):Int),out++[⟨x.Break,⟨d1,d2⟩⟩])):=by
     rw[e1,a1,Option.bind_some,if_neg (by simp),c1,Option.bind_some,if_neg (by simp)]
     unfold aC.k6 aC.k5
     rw[cy (by omega),Option.bind_some,w64s (by omega)]
    have h1:=ih (i+1) hd (out++[⟨x.Break,⟨d1,d2⟩⟩]) (by simp[ho])
    rw[bH e2]
    constructor
    ·intro hall
     obtain ⟨more,g1,g2,g3⟩:=h1.1 fun y hy=>hall y (List.mem_cons_of_mem _ hy)
     refine ⟨⟨x.Break,⟨d1,d2⟩⟩::more,by simp[g1],fun k y r hy hr=>?_,by rw[g3];simp⟩
     cases k with
     | zero=>
      simp at hy hr
      subst hy;subst hr
      exact ⟨rfl,⟨a2,a3⟩,⟨c2,c3⟩⟩
     | succ k=>exact g2 k y r (by simpa using hy) (by simpa using hr)
    ·intro hnot
     refine h1.2 fun hall=>hnot fun y hy=>?_
     rcases List.mem_cons.1 hy with rfl | hy
     ·constructor
      ·intro hnone
       have hsb:=mJ (Nat.le_refl 200) (tP hok.1.1 hok.1.2) hc1 hc2 hl1 hl
       rw[hnone]at hsb
       have:dv y.Left (cls p.Sets) (limit:Int)=some (⟨[],[]⟩,8):=by
        unfold dv
        rw[uG hok.1.1 hok.1.2,Option.bind_some,if_neg (by simp),hsb,Option.bind_some,if_pos (by simp)]
       rw[this]at a1
       simp at a1
      ·intro hnone
       have hsb:=mJ (Nat.le_refl 200) (tP hok.2.1 hok.2.2) hc1 hc2 hl1 hl
       rw[hnone]at hsb
       have:dv (gS y.Right) (cls p.Sets) (limit:Int)=some (⟨[],[]⟩,8):=by
        unfold dv
        rw[uG hok.2.1 hok.2.2,Option.bind_some,if_neg (by simp),hsb,Option.bind_some,if_pos (by simp)]
       rw[this]at c1
       simp at c1
     ·exact hall y hy
   ·have e2:aC.b2 p (limit:Int) A t n ((i:Int),out)=some (Step.done (none,8)):=by
     rw[e1,a1,Option.bind_some,if_neg (by simp),b1,Option.bind_some,if_pos (by simp)]
    exact ⟨fun hall=>absurd b0 (hall x (by simp)).2,fun _=>cM e2⟩
  ·have e2:aC.b2 p (limit:Int) A t n ((i:Int),out)=some (Step.done (none,8)):=by
    rw[e1,b1,Option.bind_some,if_pos (by simp)]
   exact ⟨fun hall=>absurd b0 (hall x (by simp)).1,fun _=>cM e2⟩
open Classical in
theorem sB:(acH p limit→∃ y,aC p (limit:Int)=some (some y,0)∧MOk p y)∧(¬ acH p limit→∃ e:Int,e≠0∧aC p (limit:Int)=some (none,e)):=by
 have hr:=afG hp.few
 unfold aC
 rw[hr,Option.bind_some]
 by_cases hR:gC p
 ·rw[decide_eq_true hR,if_neg (by simp),if_neg (by simp;omega),Option.bind_some,if_neg (by simp;omega)]
  have hG:=gC.good hp hl1 hl hR
  by_cases hF:Fit p.Sets
  ·obtain ⟨A,hA,hnew⟩:=atq hG hF
   obtain ⟨t,ht,hT⟩:=wq hG hF hA
   have hloop:=aga hp hl1 hl hR hF hA (t:=t) (n:=((cls p.Sets).length:Int)) p.Rules 0 rfl [] rfl
   rw[hnew,Option.bind_some]
   simp only
   rw[if_neg (by simp),ht,Option.bind_some]
   simp only
   rw[anQ hA,Option.bind_some]
   constructor
   ·intro hC
    obtain ⟨more,g1,g2,g3⟩:=hloop.1 hC.2.2
    exact ⟨_,g3,⟨by simpa using g1,fun k x r hx hr=>g2 k x r hx (by simpa using hr),hT⟩⟩
   ·intro hC
    exact ⟨8,by omega,hloop.2 fun hall=>hC ⟨hR,hF,hall⟩⟩
  ·refine ⟨fun hC=>absurd hC.2.1 hF,fun _=>⟨3,by omega,?_⟩⟩
   rw[aiV hG hF,Option.bind_some]
   simp
 ·refine ⟨fun hC=>absurd hC.1 hR,fun _=>⟨1,by omega,?_⟩⟩
  rw[decide_eq_false hR];rfl
end
end
end Go.Val
namespace Go.Val
set_option linter.unusedSectionVars false
noncomputable section
def upd {α:Type} (n:Nat) (f g:Nat→α) (j:Nat):List α:=(List.range n).map fun i=>if i < j then g i else f i
section
variable {α:Type} {n:Nat} {f g:Nat→α} {j:Nat}
theorem tV:(upd n f g j).length=n:=by simp[upd]
theorem ow {i:Nat} (h:i < n):(upd n f g j)[i]? =some (if i < j then g i else f i):=by
 unfold upd;rw[List.getElem?_map,List.getElem?_range h];rfl
theorem ab4 (hj:j < n):(upd n f g j).set j (g j)=upd n f g (j+1):=by
 apply List.ext_getElem?
 intro i
 rw[List.getElem?_set]
 by_cases h:j=i
 ·subst h
  rw[if_pos rfl,if_pos (by rw[tV];exact hj),ow hj,if_pos (by omega)]
 ·rw[if_neg h]
  by_cases hi:i < n
  ·rw[ow hi,ow hi]
   by_cases h2:i < j
   ·rw[if_pos h2,if_pos (by omega)]
   ·rw[if_neg h2,if_neg (by omega)]
  ·rw[List.getElem?_eq_none (by rw[tV];omega),List.getElem?_eq_none (by rw[tV];omega)]
theorem al0 (hj:j < n) (h:g j=f j):upd n f g j=upd n f g (j+1):=by
 rw[← ab4 hj]
 apply List.ext_getElem?
 intro i
 rw[List.getElem?_set]
 by_cases h2:j=i
 ·subst h2
  rw[if_pos rfl,if_pos (by rw[tV];exact hj),ow hj,if_neg (by omega),h]
 ·rw[if_neg h2]
theorem acA:upd n f g 0=(List.range n).map f:=by unfold upd;simp
theorem aj6:upd n f g n=(List.range n).map g:=by
 unfold upd
 apply List.map_congr_left
 intro i hi
 rw[if_pos (List.mem_range.1 hi)]
end
def ff (B:Nat→Bool):Nat→Nat→Int
 | 0,_=> -1
 | d+1,k=>if B k then (k:Int)else ff B d (k+1)
theorem ac4 {B B':Nat→Bool}:∀ {d k:Nat},(∀ j,k≤j→j < k+d→B j=B' j)→ff B d k=ff B' d k
 | 0,k,_=>rfl
 | d+1,k,h=>by
  rw[ff,ff,h k (by omega) (by omega),ac4 fun j h1 h2=>h j (by omega) (by omega)]
theorem auo {B:Nat→Bool}:∀ {d k:Nat},ff B d k= -1∨((k:Int)≤ff B d k∧ff B d k < ((k+d:Nat):Int))
 | 0,k=>.inl rfl
 | d+1,k=>by
  rw[ff]
  split
  ·right;omega
  ·rcases auo (B:=B) (d:=d) (k:=k+1)with h | h
   ·exact .inl h
   ·right;omega
def okT (l:List Int):Prop:=∀ r∈l,inR r
def csOf (S:List (List ak)) (l:List Int):List Nat:=l.map (iW S)
def runF (d:TDfa) (cs:List Nat):Bool:=finD d (dRun d.Next 0 cs)
section
variable {S:List (List ak)} (hG:Good S) (hF:Fit S) {y:aQ} (hT:IsT S y.trie) {l:List Int} (hl:okT l) (hll:l.length≤1000)
include hG hF hT hl hll
theorem as4:∀ c∈csOf S l,c < (cls S).length:=fun c hc=>by
 obtain ⟨r,hr,rfl⟩:=List.mem_map.1 hc
 exact nz hG (hl r hr)
theorem adT {d:TDfa} (hd:DOk d (cls S).length) {which:Int} {ix:Nat→Nat} {ws:List Int} (hwl:ws.length=l.length) (hws:∀ r∈ws,inR r)
  (h1:∀ v,v≤l.length→cU (v:Int) which l=some (ix v:Int)) (h2:∀ v,v≤l.length→ix v≤l.length∧ix (ix v)=v)
  (h3:∀ v,v < l.length→idx l (mn (ix v:Int) (ix (v+1):Int))=ws[v]?):
  aS y l d which=some ((List.range (l.length+1)).map fun i=>runF d ((csOf S ws).take (ix i))):=by
 have hcs:∀ c∈csOf S ws,c < (cls S).length:=fun c hc=>by
  obtain ⟨r,hr,rfl⟩:=List.mem_map.1 hc
  exact nz hG (hws r hr)
 have hm:=hF.1
 have hc1:1≤(cls S).length:=List.length_pos_of_mem (uW hG (r:=0) (by omega) (by omega))
 have hlen:IntKind.i64.wrap ((l.length:Int)+1)=((l.length+1:Nat):Int):=w64s (by omega)
 unfold aS
 rw[hlen,avU (by omega),Option.bind_some]
 let st:Nat→List Bool×Int×Int:=fun j=>((List.range (l.length+1)).map (fun i=>if ix i < j then runF d ((csOf S ws).take (ix i))else false),((dRun d.Next 0 ((csOf S ws).take j):Nat):Int),(j:Int))
 have hrun:=eu (b:=aS.b1 y l d which) st (i:=0) (n:=l.length+1) (Nat.zero_le _) (fun j _ hj=>by
  simp only[aS.b1,st]
  rw[hlen]
  have hs:dRun d.Next 0 ((csOf S ws).take j) < d.Next.length:=ake hd hc1 hm hd.some fun c hc=>hcs c (List.mem_of_mem_take hc)
  have hsf:dRun d.Next 0 ((csOf S ws).take j) < d.Final.length:=by rw[hd.fin];exact hs
  have hfv:d.Final[dRun d.Next 0 ((csOf S ws).take j)]=runF d ((csOf S ws).take j):=by
   unfold runF finD;rw[List.getD_eq_getElem?_getD,List.getElem?_eq_getElem hsf];rfl
  have hj':j≤l.length:=by omega
  have hix:=h2 j hj'
  have hout:∀ (o:List Bool),o.length=l.length+1→ix j < o.length:=fun o ho=>by rw[ho];omega
  have hol:((List.range (l.length+1)).map (fun i=>if ix i < j then runF d ((csOf S ws).take (ix i))else false)).length=l.length+1:=by simp
  have hset:((List.range (l.length+1)).map (fun i=>if ix i < j then runF d ((csOf S ws).take (ix i))else false)).set (ix j) (runF d ((csOf S ws).take j))=(List.range (l.length+1)).map (fun i=>if ix i < j+1 then runF d ((csOf S ws).take (ix i))else false):=by
   apply List.ext_getElem?
   intro i
   rw[List.getElem?_set]
   by_cases h:ix j=i
   ·subst h
    rw[if_pos rfl,if_pos (by rw[hol];omega),List.getElem?_map,List.getElem?_range (by omega)]
    simp[hix.2]
   ·rw[if_neg h]
    by_cases hi:i < l.length+1
    ·simp only[List.getElem?_map,List.getElem?_range hi,Option.map_some]
     congr 1
     have hne:ix i≠j:=fun e=>h (by rw[← e];exact (h2 i (by omega)).2)
     by_cases h4:ix i < j
     ·rw[if_pos h4,if_pos (by omega)]
     ·rw[if_neg h4,if_neg (by omega)]
    ·rw[List.getElem?_eq_none (by simp;omega),List.getElem?_eq_none (by simp;omega)]
  rw[if_pos (by simp;omega),fH hsf,Option.bind_some,h1 j hj',Option.bind_some,fH (hout _ hol),Option.bind_some,hfv]
  unfold aS.k2
  rw[w64s (by omega),Int.toNat_natCast,hset]
  by_cases hlt:j < l.length
  ·have hwj:j < ws.length:=by omega
   have hr:=hws ws[j] (List.getElem_mem hwj)
   have hcl:=nz hG hr
   have hto:((UInt8.ofNat (iW S ws[j])).toNat:Int)=((iW S ws[j]:Nat):Int):=by
    rw[UInt8.toNat_ofNat',Nat.mod_eq_of_lt (by omega)]
   have hrow:=hd.row _ (List.getElem_mem hs)
   have hcr:iW S ws[j] < d.Next[dRun d.Next 0 ((csOf S ws).take j)].length:=by rw[hrow.1];exact hcl
   have hnx:d.Next[dRun d.Next 0 ((csOf S ws).take j)][iW S ws[j]]=((dRun d.Next 0 ((csOf S ws).take (j+1)):Nat):Int):=by
    have hcj:j < (csOf S ws).length:=by unfold csOf;rw[List.length_map];exact hwj
    rw[dJ hcj,aj3 hd hc1 hm]
    have e:(csOf S ws)[j]=iW S ws[j]:=by simp[csOf]
    rw[e]
    unfold lW
    have e2:(d.Next.getD (dRun d.Next 0 ((csOf S ws).take j)) []).getD (iW S ws[j]) 0=d.Next[dRun d.Next 0 ((csOf S ws).take j)][iW S ws[j]]:=by
     rw[List.getD_eq_getElem?_getD,List.getD_eq_getElem?_getD,List.getElem?_eq_getElem hs,Option.getD_some,List.getElem?_eq_getElem hcr];rfl
    rw[e2]
    have:=hrow.2 _ (List.getElem_mem hcr)
    omega
   rw[if_pos (by simpa using hlt),fH hs,Option.bind_some,Option.bind_some,h1 (j+1) hlt,Option.bind_some,h3 j hlt,List.getElem?_eq_getElem hwj,Option.bind_some,hT _ hr,Option.bind_some,hto,fH hcr,Option.bind_some,hnx]
  ·rw[if_neg (by simpa using hlt)]
   have hj2:j=l.length:=by omega
   have e:(csOf S ws).take (j+1)=(csOf S ws).take j:=by
    have:(csOf S ws).length=l.length:=by unfold csOf;rw[List.length_map,hwl]
    rw[List.take_of_length_le (by omega),List.take_of_length_le (by omega)]
   rw[e])
 have h0:(List.replicate (Int.toNat ((l.length+1:Nat):Int)) false,(0:Int),(0:Int))=st 0:=by
  show _=(_,_,_)
  simp only[Int.toNat_natCast]
  congr 1
  simp[List.map_const']
 rw[h0,hrun]
 refine bK ?_
 simp only[aS.b1,st]
 rw[hlen,if_neg (by simp)]
 unfold aS.k1
 congr 2
 apply List.map_congr_left
 intro i hi
 rw[if_pos]
 have:=(h2 i (by have:=List.mem_range.1 hi;omega)).1
 omega
theorem akV {d:TDfa} (hd:DOk d (cls S).length):aS y l d 0=some ((List.range (l.length+1)).map fun i=>runF d ((csOf S l).take i)):=
 adT hG hF hT hl hll hd (ix:=fun v=>v) (ws:=l) rfl hl (fun v hv=>rfl) (fun v hv=>⟨hv,rfl⟩) (fun v hv=>by
  have:mn (v:Int) ((v+1:Nat):Int)=(v:Int):=by unfold mn;rw[if_neg (by omega)]
  rw[this,bm])
theorem aeO {d:TDfa} (hd:DOk d (cls S).length):aS y l d 1=some ((List.range (l.length+1)).map fun i=>runF d ((csOf S l).drop i).reverse):=by
 rw[adT hG hF hT hl hll hd (which:=1) (ix:=fun v=>l.length - v) (ws:=l.reverse) (by simp) (fun r hr=>hl r (by simpa using hr)) (fun v hv=>by
  unfold cU
  rw[if_pos (by rfl),w64 (by omega) (by omega)]
  congr 1;omega) (fun v hv=>⟨by omega,by omega⟩) (fun v hv=>by
  have:mn ((l.length - v:Nat):Int) ((l.length - (v+1):Nat):Int)=((l.length - (v+1):Nat):Int):=by unfold mn;split <;> omega
  rw[this,bm,List.getElem?_reverse hv]
  congr 1;omega)]
 congr 1
 apply List.map_congr_left
 intro i hi
 have hi':i≤l.length:=by have:=List.mem_range.1 hi;omega
 have hcl:(csOf S l).length=l.length:=by unfold csOf;rw[List.length_map]
 have e:(csOf S l.reverse).take (l.length - i)=((csOf S l).drop i).reverse:=by
  have e1:csOf S l.reverse=(csOf S l).reverse:=by unfold csOf;rw[List.map_reverse]
  rw[e1,List.reverse_drop,hcl]
 rw[e]
end
end
end Go.Val
namespace Go.Val
set_option linter.unusedSectionVars false
noncomputable section
def preL (n:aE) (w:List Int):Prop:=∃ u v,w=u++v∧Lang hitI n u
def atl (S:List (List ak)) (x:lV) (l:List Int) (i:Nat):Prop:=sufL x.Left ((l.map (mkI S)).take i)∧preL x.Right ((l.map (mkI S)).drop i)
open Classical in
def isB (p:bP) (l:List Int) (i:Nat) (k:Nat):Bool:=decide (∃ x,p.Rules[k]? =some x∧atl p.Sets x l i)
def lp (p:bP) (l:List Int) (i:Nat):Int:=ff (isB p l i) p.Rules.length 0
theorem ai9 {p:bP} {l:List Int} {i k:Nat}:isB p l i k=true↔∃ x,p.Rules[k]? =some x∧atl p.Sets x l i:=by
 unfold isB;simp only[decide_eq_true_eq]
theorem amB {n:aE} {w:List Int}:sufL (gS n) w.reverse↔preL n w:=by
 unfold sufL preL
 constructor
 ·rintro ⟨u,v,e,h⟩
  refine ⟨v.reverse,u.reverse,?_,(vX hitI n v).1 h⟩
  rw[← List.reverse_append,← e,List.reverse_reverse]
 ·rintro ⟨u,v,e,h⟩
  refine ⟨v.reverse,u.reverse,by rw[e,List.reverse_append],(vX hitI n _).2 (by rw[List.reverse_reverse];exact h)⟩
section
variable {p:bP} (hp:FewC p) (hR:gC p) (hF:Fit p.Sets) {y:aQ} (hM:MOk p y) {l:List Int} (hl:okT l) (hll:l.length≤1000)
include hp hR hF hM hl hll
theorem arn:Good p.Sets:=⟨hR.2.2.1,hR.1,hp.flat⟩
theorem alq:∀ m:List Int,okT m→msk (cls p.Sets) (csOf p.Sets m)=m.map (mkI p.Sets):=fun m hm=>by
 have hG:=arn hp hR hF hM hl hll
 unfold msk csOf
 rw[List.map_map]
 apply List.map_congr_left
 intro r hr
 have hmem:=uW hG (r:=r) (hm r hr).1 (hm r hr).2
 show (cls p.Sets).getD (iW p.Sets r) 0=_
 unfold iW
 rw[List.getD_eq_getElem?_getD,qJ hmem];rfl
theorem ata {k:Nat} {x:lV} {r:bi} (hx:p.Rules[k]? =some x) (hr:y.rules[k]? =some r) {i:Nat} (hi:i≤l.length):
  ((runF r.states.v0 ((csOf p.Sets l).take i))&&(runF r.states.v1 ((csOf p.Sets l).drop i).reverse))=isB p l i k:=by
 have hG:=arn hp hR hF hM hl hll
 obtain ⟨_,⟨_,a2⟩,⟨_,b2⟩⟩:=hM.rule k x r hx hr
 have hcs:∀ c∈csOf p.Sets l,c < (cls p.Sets).length:=as4 hG hF hM.trie hl hll
 have e1:msk (cls p.Sets) ((csOf p.Sets l).take i)=(l.map (mkI p.Sets)).take i:=by
  rw[← alq hp hR hF hM hl hll l hl];unfold msk;rw[List.map_take]
 have e2:msk (cls p.Sets) ((csOf p.Sets l).drop i).reverse=((l.map (mkI p.Sets)).drop i).reverse:=by
  rw[← alq hp hR hF hM hl hll l hl];unfold msk;rw[List.map_reverse,List.map_drop]
 rw[Bool.eq_iff_iff,Bool.and_eq_true,ai9]
 unfold runF
 rw[a2 _ fun c hc=>hcs c (List.mem_of_mem_take hc),b2 _ fun c hc=>hcs c (List.mem_of_mem_drop (List.mem_reverse.1 hc)),e1,e2,amB]
 constructor
 ·intro h;exact ⟨x,hx,h⟩
 ·rintro ⟨x',hx',h⟩
  rw[hx]at hx'
  cases hx'
  exact h
theorem am6 {k:Nat} {x:lV} {r:bi} (hx:p.Rules[k]? =some x) (hr:y.rules[k]? =some r) {d:Nat} (hkd:k+(d+1)=p.Rules.length) (out2:List Int) (ho2:out2.length=l.length+1):
  Loop (ao.b2 out2 (k:Int) ((List.range (l.length+1)).map fun i=>runF r.states.v0 ((csOf p.Sets l).take i)) ((List.range (l.length+1)).map fun i=>runF r.states.v1 ((csOf p.Sets l).drop i).reverse)) ((List.range (l.length+1)).map fun i=>ff (isB p l i) d (k+1),(0:Int))=
   some (Step.next ((List.range (l.length+1)).map fun i=>ff (isB p l i) (d+1) k,IntKind.i64.wrap ((k:Int) - 1))):=by
 have hrun:=eu (b:=ao.b2 out2 (k:Int) ((List.range (l.length+1)).map fun i=>runF r.states.v0 ((csOf p.Sets l).take i)) ((List.range (l.length+1)).map fun i=>runF r.states.v1 ((csOf p.Sets l).drop i).reverse))
  (fun j=>(upd (l.length+1) (fun i=>ff (isB p l i) d (k+1)) (fun i=>ff (isB p l i) (d+1) k) j,(j:Int))) (i:=0) (n:=l.length+1) (Nat.zero_le _) (fun j _ hj=>by
  simp only[ao.b2]
  have hat:=ata hp hR hF hM hl hll hx hr (i:=j) (by omega)
  rw[if_pos (by rw[ho2];simp;omega),bm,List.getElem?_map,List.getElem?_range hj,Option.map_some,Option.bind_some,bm,List.getElem?_map,List.getElem?_range hj,Option.map_some]
  generalize runF r.states.v0 ((csOf p.Sets l).take j)=u at hat ⊢
  generalize runF r.states.v1 ((csOf p.Sets l).drop j).reverse=v at hat ⊢
  unfold ao.k4
  have hset:ff (isB p l j) (d+1) k=if isB p l j k then (k:Int)else ff (isB p l j) d (k+1):=rfl
  have hin:idx (upd (l.length+1) (fun i=>ff (isB p l i) d (k+1)) (fun i=>ff (isB p l i) (d+1) k) j) (j:Int)≠none:=by rw[bm,ow hj];simp
  have yes:isB p l j k=true→(idx (upd (l.length+1) (fun i=>ff (isB p l i) d (k+1)) (fun i=>ff (isB p l i) (d+1) k) j) (j:Int)).bind (fun n=>some (Step.next (List.set (upd (l.length+1) (fun i=>ff (isB p l i) d (k+1)) (fun i=>ff (isB p l i) (d+1) k) j) (Int.toNat (j:Int)) (k:Int),IntKind.i64.wrap ((j:Int)+1))))=some (Step.next (ρ:=Step (List Int×Int) (List Int)) (upd (l.length+1) (fun i=>ff (isB p l i) d (k+1)) (fun i=>ff (isB p l i) (d+1) k) (j+1),((j+1:Nat):Int))):=fun hb=>by
   obtain ⟨n,hn⟩:=Option.ne_none_iff_exists'.1 hin
   have e:ff (isB p l j) (d+1) k=(k:Int):=by rw[hset,hb];rfl
   rw[hn,Option.bind_some,w64s (by omega),Int.toNat_natCast,← ab4 hj,e]
  have no:isB p l j k=false→(some (Step.next (List.map id (upd (l.length+1) (fun i=>ff (isB p l i) d (k+1)) (fun i=>ff (isB p l i) (d+1) k) j),IntKind.i64.wrap ((j:Int)+1))):Option (Step (List Int×Int) (Step (List Int×Int) (List Int))))=some (Step.next (upd (l.length+1) (fun i=>ff (isB p l i) d (k+1)) (fun i=>ff (isB p l i) (d+1) k) (j+1),((j+1:Nat):Int))):=fun hb=>by
   have e:(fun i=>ff (isB p l i) (d+1) k) j=(fun i=>ff (isB p l i) d (k+1)) j:=by show ff (isB p l j) (d+1) k=ff (isB p l j) d (k+1);rw[hset,hb];rfl
   rw[List.map_id,w64s (by omega),al0 hj e]
  rw[List.map_id]at no
  cases u with
  | false=>exact no (by rw[← hat];rfl)
  | true=>
   cases v with
   | false=>exact no (by rw[← hat];rfl)
   | true=>exact yes (by rw[← hat];rfl))
 have h0:((List.range (l.length+1)).map fun i=>ff (isB p l i) d (k+1),(0:Int))=(upd (l.length+1) (fun i=>ff (isB p l i) d (k+1)) (fun i=>ff (isB p l i) (d+1) k) 0,((0:Nat):Int)):=by rw[acA];rfl
 rw[h0]
 refine hrun.trans (bK ?_)
 simp only[ao.b2]
 rw[if_neg (by rw[ho2];simp),aj6]
 rfl
theorem ao2:∀ (d k:Nat),k+d=p.Rules.length→Loop (ao.b1 y l) ((List.range (l.length+1)).map fun i=>ff (isB p l i) d k,(k:Int) - 1)=some ((List.range (l.length+1)).map (lp p l)):=by
 intro d k
 induction k generalizing d with
 | zero=>
  intro h
  refine bK ?_
  simp only[ao.b1]
  rw[if_neg (by simp)]
  have:d=p.Rules.length:=by omega
  rw[this];rfl
 | succ k ih=>
  intro h
  have hG:=arn hp hR hF hM hl hll
  have hk:k < p.Rules.length:=by omega
  have hky:k < y.rules.length:=by rw[hM.len];exact hk
  have hrl:=hp.few.rules
  obtain ⟨_,⟨a1,_⟩,⟨b1,_⟩⟩:=hM.rule k _ _ (List.getElem?_eq_getElem hk) (List.getElem?_eq_getElem hky)
  have e0:(((k+1:Nat):Int) - 1)=(k:Int):=by omega
  rw[e0]
  have hin:=am6 hp hR hF hM hl hll (List.getElem?_eq_getElem hk) (List.getElem?_eq_getElem hky) (d:=d) (by omega) ((List.range (l.length+1)).map fun i=>ff (isB p l i) d (k+1)) (by simp)
  have e:ao.b1 y l ((List.range (l.length+1)).map fun i=>ff (isB p l i) d (k+1),(k:Int))=some (Step.next ((List.range (l.length+1)).map fun i=>ff (isB p l i) (d+1) k,(k:Int) - 1)):=by
   simp only[ao.b1]
   rw[if_pos (by simp),fH hky,Option.bind_some,akV hG hF hM.trie hl hll a1,Option.bind_some,aeO hG hF hM.trie hl hll b1,Option.bind_some,hin,w64 (by omega) (by omega)]
  rw[bH e]
  exact ih (d+1) (by omega)
theorem acw:ao y l=some ((List.range (l.length+1)).map (lp p l)):=by
 have hlen:IntKind.i64.wrap ((l.length:Int)+1)=((l.length+1:Nat):Int):=w64s (by omega)
 have hrl:=hp.few.rules
 unfold ao
 rw[hlen,avU (by omega),Option.bind_some,Int.toNat_natCast]
 have hrun:=eu (b:=ao.b3 y l) (fun j=>(upd (l.length+1) (fun _=>(0:Int)) (fun _=>(-1:Int)) j,(j:Int))) (i:=0) (n:=l.length+1) (Nat.zero_le _) (fun j _ hj=>by
  simp only[ao.b3]
  rw[hlen,if_pos (by simp;omega),bm,ow hj,Option.bind_some,w64s (by omega),Int.toNat_natCast,← ab4 hj])
 have h0:(List.replicate (l.length+1) (0:Int),(0:Int))=(upd (l.length+1) (fun _=>(0:Int)) (fun _=>(-1:Int)) 0,((0:Nat):Int)):=by rw[acA];simp[List.map_const']
 rw[h0]
 refine hrun.trans (bK ?_)
 simp only[ao.b3]
 rw[hlen,if_neg (by simp),aj6]
 unfold ao.k1
 have:=ao2 hp hR hF hM hl hll 0 p.Rules.length (by omega)
 rw[hM.len,w64 (by omega) (by omega)]
 rw[show (fun i=>ff (isB p l i) 0 p.Rules.length)=fun _:Nat=>(-1:Int) from rfl]at this
 rw[this]
end
end
end Go.Val
namespace Go.Val
set_option linter.unusedSectionVars false
noncomputable section
def okB (l:List Int):Bool:=l.all fun r=>decide (0≤r)&&decide (r≤1114111)
theorem acd {l:List Int}:okB l=true↔okT l:=by
 unfold okB okT inR
 rw[List.all_eq_true]
 constructor
 ·intro h r hr;have:=h r hr;simpa using this
 ·intro h r hr;have:=h r hr;simpa using this
theorem akG {l:List Int} (hl:l.length≤1000000):iD l=some (okB l):=by
 unfold iD
 rw[ao5 (f:=ie) (g:=fun r=>decide (r < 0)||decide (r > 1114111)) (fun r _=>rfl) (by omega),Option.bind_some]
 congr 1
 unfold okB
 rw[List.not_any_eq_all_not]
 congr 1
 funext r
 rw[Bool.eq_iff_iff]
 simp
def brk (p:bP) (l:List Int) (i:Nat):Bool:=decide (i=0)||decide (i=l.length)||decide (lp p l i < 0)||(p.Rules.getD (lp p l i).toNat ⟨false,⟨0,0,[]⟩,⟨0,0,[]⟩⟩).Break
def allN (p:bP) (l:List Int):List Int:=((List.range (l.length+1)).filter (brk p l)).map fun i:Nat=>(i:Int)
theorem anI {p:bP} {l:List Int} {i:Nat}:lp p l i= -1∨(0≤lp p l i∧lp p l i < (p.Rules.length:Int)):=by
 rcases auo (B:=isB p l i) (d:=p.Rules.length) (k:=0)with h | h
 ·exact .inl h
 ·right;unfold lp;omega
theorem ado {y:aQ} {l:List Int} {i:Int} {a:List Int} (h:ba y l=some a) (hl:a.length≤1000000):cu y l i=some (a.contains i):=by
 unfold cu
 rw[h,Option.bind_some,hasI (by omega)];rfl
section
variable {p:bP} (hp:FewC p) (hR:gC p) (hF:Fit p.Sets) {y:aQ} (hM:MOk p y) {l:List Int} (hl:okT l) (hll:l.length≤1000)
include hp hR hF hM hl hll
theorem alc {i:Nat} (hi:i≤l.length):dA y l (i:Int)=some (lp p l i):=by
 unfold dA
 rw[akG (by omega),Option.bind_some,acd.2 hl]
 simp only[Bool.not_true,if_false,Bool.false_eq_true]
 rw[if_neg (by simp),decide_eq_false (by omega),Option.bind_some,if_neg (by simp),acw hp hR hF hM hl hll,Option.bind_some,bm,List.getElem?_map,List.getElem?_range (by omega)]
 rfl
theorem akm:ba y l=some (allN p l):=by
 unfold ba
 rw[akG (by omega),Option.bind_some,acd.2 hl]
 simp only[Bool.not_true,if_false,Bool.false_eq_true]
 rw[acw hp hR hF hM hl hll,Option.bind_some]
 have hrl:=hp.few.rules
 have hrun:=eu (b:=ba.b1 y l ((List.range (l.length+1)).map (lp p l))) (fun j=>(((List.range j).filter (brk p l)).map fun i:Nat=>(i:Int),(j:Int))) (i:=0) (n:=l.length+1) (Nat.zero_le _) (fun j _ hj=>by
  simp only[ba.b1]
  have hj':j≤l.length:=by omega
  rw[if_pos (by simp;omega),bm,List.getElem?_map,List.getElem?_range hj,Option.map_some,Option.bind_some]
  have hle:(((List.range j).filter (brk p l)).map fun i:Nat=>(i:Int)).length≤j:=by
   rw[List.length_map]
   exact Nat.le_trans (List.length_filter_le _ _) (by simp)
  have hb:(if ((j:Int)==(0:Int))then some true else if ((j:Int)==(l.length:Int))then some true else if (decide (lp p l j < (0:Int)))then some true else (idx y.rules (lp p l j)).bind fun x=>some x.breaks)=some (brk p l j):=by
   unfold brk
   by_cases h1:j=0
   ·subst h1;simp
   ·rw[if_neg (by simpa using h1),decide_eq_false h1]
    by_cases h2:j=l.length
    ·rw[if_pos (by simp;omega),decide_eq_true h2];rfl
    ·rw[if_neg (by simp;omega),decide_eq_false h2]
     by_cases h3:lp p l j < 0
     ·rw[if_pos (by simpa using h3),decide_eq_true h3];rfl
     ·rw[if_neg (by simpa using h3),decide_eq_false h3]
      obtain ⟨k,hk⟩:∃ k:Nat,lp p l j=(k:Int):=⟨(lp p l j).toNat,by omega⟩
      have hkl:k < p.Rules.length:=by
       rcases anI (p:=p) (l:=l) (i:=j)with h | h
       ·omega
       ·omega
      have hky:k < y.rules.length:=by rw[hM.len];exact hkl
      rw[hk,fH hky,Option.bind_some]
      have:=(hM.rule k _ _ (List.getElem?_eq_getElem hkl) (List.getElem?_eq_getElem hky)).1
      rw[this,Int.toNat_natCast,List.getD_eq_getElem?_getD,List.getElem?_eq_getElem hkl]
      rfl
  rw[hb,Option.bind_some,List.range_succ,List.filter_append,List.map_append]
  cases e:brk p l j with
  | true=>
   rw[if_pos rfl,cy (by omega),Option.bind_some]
   unfold ba.k2
   rw[w64s (by omega)]
   simp[List.filter,e]
  | false=>
   rw[if_neg (by simp)]
   unfold ba.k2
   rw[w64s (by omega)]
   simp[List.filter,e])
 refine hrun.trans (bK ?_)
 simp only[ba.b1]
 rw[if_neg (by simp)]
 rfl
theorem ac8:(allN p l).length≤l.length+1:=by
 unfold allN
 rw[List.length_map]
 exact Nat.le_trans (List.length_filter_le _ _) (by simp)
theorem anP {i:Nat}:(allN p l).contains (i:Int)=(decide (i≤l.length)&&brk p l i):=by
 rw[Bool.eq_iff_iff,List.contains_iff_mem,Bool.and_eq_true]
 unfold allN
 rw[List.mem_map]
 constructor
 ·rintro ⟨j,hj,e⟩
  obtain rfl:j=i:=by omega
  rw[List.mem_filter,List.mem_range]at hj
  exact ⟨by have:=hj.1;simp;omega,hj.2⟩
 ·rintro ⟨h1,h2⟩
  exact ⟨i,List.mem_filter.2 ⟨List.mem_range.2 (by simp at h1;omega),h2⟩,rfl⟩
theorem pX {i:Nat} (hi:i≤l.length):cu y l (i:Int)=some (brk p l i):=by
 have h:=ac8 hp hR hF hM hl hll
 rw[ado (akm hp hR hF hM hl hll) (by omega),anP hp hR hF hM hl hll,decide_eq_true hi];rfl
theorem alF {i:Int} (hi:i < 0∨(l.length:Int) < i):cu y l i=some false:=by
 have h:=ac8 hp hR hF hM hl hll
 rw[ado (akm hp hR hF hM hl hll) (by omega)]
 congr 1
 cases e:(allN p l).contains i with
 | false=>rfl
 | true=>
  rw[List.contains_iff_mem]at e
  unfold allN at e
  obtain ⟨j,hj,rfl⟩:=List.mem_map.1 e
  rw[List.mem_filter,List.mem_range]at hj
  omega
end
end
end Go.Val
namespace Go.Val
set_option linter.unusedSectionVars false
def bAt (a:List Bool) (i:Nat):Bool:=a.getD i false
def seg (w:List Int) (i j:Nat):List Int:=(w.drop i).take (j - i)
theorem adz {w:List Int} {i:Nat}:seg w i i=[]:=by simp[seg]
theorem tN {w:List Int} {i j:Nat} (h:i≤j) (hj:j≤w.length):(seg w i j).length=j - i:=by unfold seg;rw[List.length_take,List.length_drop];omega
theorem ua {w:List Int} {i k j:Nat} (h1:i≤k) (h2:k≤j):seg w i j=seg w i k++seg w k j:=by
 unfold seg
 rw[show j - i=(k - i)+(j - k) by omega,List.take_add,List.drop_drop,show i+(k - i)=k by omega]
theorem ai0 {w u v:List Int} {i j:Nat} (h:i≤j) (hj:j≤w.length) (e:seg w i j=u++v):i+u.length≤j∧seg w i (i+u.length)=u∧seg w (i+u.length) j=v:=by
 have hl:=tN h hj
 rw[e,List.length_append]at hl
 have hk:i+u.length≤j:=by omega
 have h2:=ua (w:=w) (i:=i) (k:=i+u.length) (j:=j) (by omega) hk
 rw[e]at h2
 have hl2:=tN (w:=w) (i:=i) (j:=i+u.length) (by omega) (by omega)
 have h3:=List.append_inj h2 (by rw[hl2];omega)
 exact ⟨hk,h3.1.symm,h3.2.symm⟩
def reach (M:List Int→Prop) (w:List Int) (a:List Bool) (j:Nat):Prop:=∃ i,i≤j∧j≤w.length∧bAt a i=true∧M (seg w i j)
structure fB (M:List Int→Prop) (w:List Int) (a o:List Bool):Prop where
 len:o.length=w.length+1
 iff:∀ j,j≤w.length→(bAt o j=true↔reach M w a j)
section
variable {P Q:List Int→Prop} {w:List Int} {a o o':List Bool}
theorem reach.congr (h:∀ u,P u↔Q u) {j:Nat}:reach P w a j↔reach Q w a j:=
 ⟨fun ⟨i,h1,h2,h3,h4⟩=>⟨i,h1,h2,h3,(h _).1 h4⟩,fun ⟨i,h1,h2,h3,h4⟩=>⟨i,h1,h2,h3,(h _).2 h4⟩⟩
theorem fB.congr (h:∀ u,P u↔Q u) (e:fB P w a o):fB Q w a o:=⟨e.len,fun j hj=>(e.iff j hj).trans (reach.congr h)⟩
theorem fB.nil (h:a.length=w.length+1):fB (fun u=>u=[]) w a a:=by
 refine ⟨h,fun j hj=>⟨fun e=>⟨j,Nat.le_refl _,hj,e,adz⟩,?_⟩⟩
 rintro ⟨i,h1,h2,h3,h4⟩
 have:=tN h1 h2
 rw[h4]at this
 have:i=j:=by simp at this;omega
 rwa[← this]
theorem fB.cat (h1:fB P w a o) (h2:fB Q w o o'):fB (CatP P Q) w a o':=by
 refine ⟨h2.len,fun j hj=>(h2.iff j hj).trans ⟨?_,?_⟩⟩
 ·rintro ⟨k,a1,a2,a3,a4⟩
  obtain ⟨i,b1,b2,b3,b4⟩:=(h1.iff k (by omega)).1 a3
  exact ⟨i,by omega,hj,b3,_,_,ua b1 a1,b4,a4⟩
 ·rintro ⟨i,b1,b2,b3,u,v,e,b4,b5⟩
  obtain ⟨c1,c2,c3⟩:=ai0 b1 b2 e
  refine ⟨i+u.length,c1,hj,(h1.iff _ (by omega)).2 ⟨i,by omega,by omega,b3,by rw[c2];exact b4⟩,by rw[c3];exact b5⟩
theorem fB.none:fB (fun _=>False) w a (List.replicate (w.length+1) false):=by
 refine ⟨by simp,fun j hj=>⟨fun e=>?_,fun ⟨_,_,_,_,h⟩=>h.elim⟩⟩
 unfold bAt at e
 rw[List.getD_eq_getElem?_getD,List.getElem?_replicate]at e
 split at e <;> simp at e
def orB (a b:List Bool):List Bool:=(List.range a.length).map fun i=>bAt a i||bAt b i
theorem ajg {a b:List Bool}:(orB a b).length=a.length:=by simp[orB]
theorem alv {f:Nat→Bool} {n i:Nat} (h:i < n):bAt ((List.range n).map f) i=f i:=by
 unfold bAt
 rw[List.getD_eq_getElem?_getD,List.getElem?_map,List.getElem?_range h];rfl
theorem rl {a b:List Bool} {i:Nat} (h:i < a.length):bAt (orB a b) i=(bAt a i||bAt b i):=alv h
theorem fB.or (h1:fB P w a o) (h2:fB Q w a o'):fB (fun u=>P u∨Q u) w a (orB o o'):=by
 refine ⟨by rw[ajg];exact h1.len,fun j hj=>?_⟩
 rw[rl (by rw[h1.len];omega),Bool.or_eq_true,h1.iff j hj,h2.iff j hj]
 constructor
 ·rintro (⟨i,c1,c2,c3,c4⟩ | ⟨i,c1,c2,c3,c4⟩)
  ·exact ⟨i,c1,c2,c3,.inl c4⟩
  ·exact ⟨i,c1,c2,c3,.inr c4⟩
 ·rintro ⟨i,c1,c2,c3,c4 | c4⟩
  ·exact .inl ⟨i,c1,c2,c3,c4⟩
  ·exact .inr ⟨i,c1,c2,c3,c4⟩
structure mD (P:List Int→Prop) (w:List Int) (b out fresh:List Bool):Prop where
 len:out.length=w.length+1
 flen:fresh.length=w.length+1
 says:∀ j,j≤w.length→bAt out j=true→reach (Star P) w b j
 base:∀ j,j≤w.length→bAt b j=true→bAt out j=true
 sub:∀ j,j≤w.length→bAt fresh j=true→bAt out j=true
 step:∀ i j,i≤j→j≤w.length→bAt out i=true→bAt fresh i=false→P (seg w i j)→bAt out j=true
variable {b out fresh nxt:List Bool}
theorem mD.start (h:b.length=w.length+1):mD P w b b b:=
 ⟨h,h,fun j hj e=>⟨j,Nat.le_refl _,hj,e,by rw[adz];exact .nil⟩,fun j hj e=>e,fun j hj e=>e,fun i j _ _ h1 h2 _=>by rw[h1]at h2;cases h2⟩
def newB (out nxt:List Bool):List Bool:=(List.range out.length).map fun i=>bAt nxt i&& !bAt out i
theorem ak5 {i:Nat} (h:i < out.length):bAt (newB out nxt) i=(bAt nxt i&& !bAt out i):=alv h
theorem mD.next (h:mD P w b out fresh) (hn:fB P w fresh nxt):mD P w b (orB out nxt) (newB out nxt):=by
 have hl:=h.len
 refine ⟨by rw[ajg];exact hl,by simp[newB,hl],fun j hj e=>?_,fun j hj e=>?_,fun j hj e=>?_,fun i j hi hj h1 h2 h3=>?_⟩
 ·rw[rl (by omega),Bool.or_eq_true]at e
  rcases e with e | e
  ·exact h.says j hj e
  ·obtain ⟨k,k1,k2,k3,k4⟩:=(hn.iff j hj).1 e
   obtain ⟨i,i1,i2,i3,i4⟩:=h.says k (by omega) (h.sub k (by omega) k3)
   exact ⟨i,by omega,hj,i3,by rw[ua i1 k1];exact i4.app (.one k4)⟩
 ·rw[rl (by omega),h.base j hj e];rfl
 ·rw[ak5 (by omega)]at e
  rw[rl (by omega)]
  simp at e
  simp[e.1]
 ·rw[rl (by omega)]at h1 ⊢
  rw[ak5 (by omega)]at h2
  by_cases ho:bAt out i=true
  ·by_cases hf:bAt fresh i=true
   ·rw[(hn.iff j hj).2 ⟨i,hi,hj,hf,h3⟩];simp
   ·rw[h.step i j hi hj ho (by simpa using hf) h3];rfl
  ·simp at ho
   rw[ho]at h1 h2
   simp at h1 h2
   rw[h1]at h2;cases h2
theorem mD.done (h:mD P w b out fresh) (hf:∀ j,j≤w.length→bAt fresh j=false):fB (Star P) w b out:=by
 refine ⟨h.len,fun j hj=>⟨h.says j hj,?_⟩⟩
 have key:∀ u,Star P u→∀ i,i≤j→bAt out i=true→seg w i j=u→bAt out j=true:=by
  intro u hu
  induction hu with
  | nil=>
   intro i hi ho e
   have:=tN hi hj
   rw[e]at this
   have:i=j:=by simp at this;omega
   rwa[← this]
  | cons h1 _ ih=>
   rename_i u v _
   intro i hi ho e
   obtain ⟨c1,c2,c3⟩:=ai0 hi hj e
   exact ih (i+u.length) c1 (h.step i _ (by omega) (by omega) ho (hf i (by omega)) (by rw[c2];exact h1)) c3
 rintro ⟨i,h1,h2,h3,h4⟩
 exact key _ h4 i h1 (h.base i (by omega) h3) rfl
def outs (a:List Bool):Nat:=a.count false
theorem fB.star {b0:List Bool} (ha:a.length=w.length+1) (h1:fB P w a b0) (h2:fB (Star P) w (orB b0 a) o):fB (Star P) w a o:=by
 refine ⟨h2.len,fun j hj=>(h2.iff j hj).trans ⟨?_,?_⟩⟩
 ·rintro ⟨i,i1,i2,i3,i4⟩
  rw[rl (by rw[h1.len];omega),Bool.or_eq_true]at i3
  rcases i3 with i3 | i3
  ·obtain ⟨k,k1,k2,k3,k4⟩:=(h1.iff i (by omega)).1 i3
   exact ⟨k,by omega,hj,k3,by rw[ua k1 i1];exact .cons k4 i4⟩
  ·exact ⟨i,i1,i2,i3,i4⟩
 ·rintro ⟨i,i1,i2,i3,i4⟩
  exact ⟨i,i1,i2,by rw[rl (by rw[h1.len];omega),i3];simp,i4⟩
end
end Go.Val
namespace Go.Val
set_option linter.unusedSectionVars false
noncomputable section
theorem aaj {a b:List Int} (ha:a.length≤1000000):bc a b=some (decide (a=b)):=by
 unfold bc
 by_cases hl:a.length=b.length
 ·rw[if_neg (by simp;omega)]
  have hall:=rE (b:=bc.b1 a b) (fun j=>a[j]? =b[j]?) a.length (r:=false) (R:=true) (fun j hj hP=>by
   simp only[bc.b1]
   have hb:j < b.length:=by omega
   rw[List.getElem?_eq_getElem hj,List.getElem?_eq_getElem hb]at hP
   rw[if_pos (by simpa using hj),fH hj,Option.bind_some,fH hb,Option.bind_some,Option.some.inj hP,if_neg (by simp),w64s (by omega)]) (fun j hj hP=>by
   simp only[bc.b1]
   have hb:j < b.length:=by omega
   rw[List.getElem?_eq_getElem hj,List.getElem?_eq_getElem hb]at hP
   rw[if_pos (by simpa using hj),fH hj,Option.bind_some,fH hb,Option.bind_some,if_pos (by simpa using fun e=>hP (congrArg some e))]) (by
   simp only[bc.b1]
   rw[if_neg (by simp)];rfl)
  by_cases e:a=b
  ·rw[decide_eq_true e]
   exact hall.1 fun j hj=>by rw[e]
  ·rw[decide_eq_false e]
   refine hall.2 fun h=>e (List.ext_getElem? fun j=>?_)
   by_cases hj:j < a.length
   ·exact h j hj
   ·rw[List.getElem?_eq_none (by omega),List.getElem?_eq_none (by omega)]
 ·rw[if_pos (by simp;omega),decide_eq_false (fun e=>hl (by rw[e]))]
section
variable {p:bP} (hp:FewC p) (hR:gC p) (hF:Fit p.Sets) {l:List Int} (hl:okT l) (hll:l.length≤1000)
include hp hR hF hl hll
end
end
end Go.Val
namespace Go.Val
set_option linter.unusedSectionVars false
noncomputable section
theorem ahT {S:List (List ak)} (h:∀ s∈S,∀ x∈s,x.High≤255) {r:Int} (hr:256≤r):mkI S r=0:=by
 have hb:∀ s∈S,hasB s r=false:=fun s hs=>by
  unfold hasB
  rw[List.any_eq_false]
  intro x hx
  have:=h s hs x hx
  simp;omega
 have:∀ k,lZ S r k=0:=by
  intro k
  induction k with
  | zero=>rfl
  | succ k ih=>
   rw[lZ,ih]
   have:hasB (S.getD k []) r=false:=by
    rw[List.getD_eq_getElem?_getD]
    cases e:S[k]? with
    | none=>rfl
    | some s=>exact hb s (List.mem_of_getElem? e)
   rw[this];rfl
 unfold mkI
 rw[this];rfl
theorem al7 {S:List (List ak)} (hG:Good S) (h:∀ s∈S,∀ x∈s,x.High≤255) {k:Nat} (h1:1≤k) (hk:k < 4352):cE (prp S) k=cE (prp S) 1:=by
 apply Vector.toList_inj.1
 apply List.ext_getElem?
 intro j
 by_cases hj:j < 256
 ·rw[qB hG hk hj,qB hG (by omega) hj]
  unfold iW
  rw[ahT h (by omega),ahT h (by omega)]
 ·rw[List.getElem?_eq_none (by rw[Vector.length_toList];omega),List.getElem?_eq_none (by rw[Vector.length_toList];omega)]
theorem aou {S:List (List ak)} (hG:Good S) (h:∀ s∈S,∀ x∈s,x.High≤255) {N:Nat} (hN:N=4352):(firsts (blks (prp S) N)).length≤256:=by
 have:(firsts (blks (prp S) N)).length≤[cE (prp S) 0,cE (prp S) 1].length:=gx lq fun x hx=>by
  rw[dR]at hx
  unfold blks at hx
  obtain ⟨k,hk,rfl⟩:=List.mem_map.1 hx
  have hk:=List.mem_range.1 hk
  rcases Nat.eq_zero_or_pos k with h0 | h0
  ·subst h0;simp
  ·rw[al7 hG h h0 (by omega)];simp
 exact Nat.le_trans this (by simp)
theorem aki {S:List (List ak)} (hG:Good S) (h:∀ s∈S,∀ x∈s,x.High≤255) (hc:(cls S).length≤200):Fit S:=⟨hc,aou hG h vJ⟩
theorem apc:Good prgA.Sets:=by
 refine ⟨fun s hs=>?_,by decide,by decide⟩
 have:s=[⟨97,122⟩]:=by simpa[prgA]using hs
 subst this
 exact ⟨fun x hx=>by simp at hx;subst hx;unfold Ok;simp,List.pairwise_singleton _ _⟩
theorem aph:Good prgB.Sets:=by
 refine ⟨fun s hs=>?_,by decide,by decide⟩
 have:s=[⟨97,122⟩]∨s=[⟨48,57⟩]:=by simpa[prgB]using hs
 rcases this with rfl | rfl
 ·exact ⟨fun x hx=>by simp at hx;subst hx;unfold Ok;simp,List.pairwise_singleton _ _⟩
 ·exact ⟨fun x hx=>by simp at hx;subst hx;unfold Ok;simp,List.pairwise_singleton _ _⟩
theorem edgA:edg prgA.Sets=[0,97,123]:=by
 refine kH (ec apc).2.2.1 (by decide) fun x=>?_
 rw[(ec apc).2.2.2.1]
 show Edge [⟨97,122⟩] x↔_
 unfold Edge
 simp only[List.mem_cons,List.not_mem_nil,or_false]
 constructor
 ·rintro (h | ⟨y,rfl,h⟩)
  ·exact .inl h
  ·rcases h with h | ⟨_,h⟩
   ·exact .inr (.inl h)
   ·exact .inr (.inr h)
 ·rintro (h | h | h)
  ·exact .inl h
  ·exact .inr ⟨_,rfl,.inl h⟩
  ·exact .inr ⟨_,rfl,.inr ⟨by decide,h⟩⟩
theorem edgB:edg prgB.Sets=[0,48,58,97,123]:=by
 refine kH (ec aph).2.2.1 (by decide) fun x=>?_
 rw[(ec aph).2.2.2.1]
 show Edge [⟨97,122⟩,⟨48,57⟩] x↔_
 unfold Edge
 simp only[List.mem_cons,List.not_mem_nil,or_false]
 constructor
 ·rintro (h | ⟨y,rfl | rfl,h⟩)
  ·exact .inl h
  ·rcases h with h | ⟨_,h⟩
   ·exact .inr (.inr (.inr (.inl h)))
   ·exact .inr (.inr (.inr (.inr h)))
  ·rcases h with h | ⟨_,h⟩
   ·exact .inr (.inl h)
   ·exact .inr (.inr (.inl h))
 ·rintro (h | h | h | h | h)
  ·exact .inl h
  ·exact .inr ⟨_,.inr rfl,.inl h⟩
  ·exact .inr ⟨_,.inr rfl,.inr ⟨by decide,h⟩⟩
  ·exact .inr ⟨_,.inl rfl,.inl h⟩
  ·exact .inr ⟨_,.inl rfl,.inr ⟨by decide,h⟩⟩
theorem clsA:cls prgA.Sets=[0,1]:=by unfold cls;rw[edgA];decide
theorem clsB:cls prgB.Sets=[0,2,1]:=by unfold cls;rw[edgB];decide
theorem fitA:Fit prgA.Sets:=aki apc (by decide) (by rw[clsA];decide)
theorem fitB:Fit prgB.Sets:=aki aph (by decide) (by rw[clsB];decide)
theorem apC:gC prgA:=⟨by decide,by decide,apc.1,by decide,by decide⟩
theorem oW:gC prgB:=⟨by decide,by decide,aph.1,by decide,by decide⟩
theorem fewA:FewC prgA:=⟨⟨by decide,by decide,by decide,by decide⟩,by decide⟩
theorem fewB:FewC prgB:=⟨⟨by decide,by decide,by decide,by decide⟩,by decide⟩
theorem apg {s:Int} {masks:List Int} {limit:Nat} (h:(bgo eqL (fun x=>masks.map (nxA (nC (fa s)) x)) limit (limit+1) 0 [[0]] []).isSome=true):rP (fa s) masks limit:=by
 unfold rP
 intro e
 rw[e]at h;cases h
theorem aww:acH prgA 100:=by
 refine ⟨apC,fitA,fun x hx=>?_⟩
 rw[clsA]
 have:x=⟨false,fa 0,fa 0⟩:=by simpa[prgA]using hx
 subst this
 exact ⟨apg (by decide+kernel),apg (by decide+kernel)⟩
theorem awr:acH prgB 40:=by
 refine ⟨oW,fitB,fun x hx=>?_⟩
 rw[clsB]
 have h0:rP (fa 0) [0,2,1] 40:=apg (by decide+kernel)
 have h1:rP (fa 1) [0,2,1] 40:=apg (by decide+kernel)
 have:x=⟨false,fa 0,fa 0⟩∨x=⟨false,fa 1,fa 1⟩∨x=⟨true,fa 0,fa 1⟩:=by simpa[prgB]using hx
 rcases this with rfl | rfl | rfl
 ·exact ⟨h0,h0⟩
 ·exact ⟨h1,h1⟩
 ·exact ⟨h0,h1⟩
end
end Go.Val
namespace Go.Val
set_option linter.unusedSectionVars false
noncomputable section
theorem lN {s:Int} {u:List Int}:Lang hitI (fa s) u↔∃ c,u=[c]∧hitI c s=true:=by
 show Lang hitI ⟨1,s,[]⟩ u↔_
 rw[Lang,if_pos rfl]
theorem vE {s:Int} {w:List Int} {i:Nat} (hi:i≤w.length):sufL (fa s) (w.take i)↔∃ j c,i=j+1∧w[j]? =some c∧hitI c s=true:=by
 unfold sufL
 constructor
 ·rintro ⟨u,v,e,h⟩
  obtain ⟨c,rfl,hc⟩:=lN.1 h
  have hl:(w.take i).length=i:=by rw[List.length_take];omega
  have hl2:(w.take i).length=u.length+1:=by rw[e];simp
  refine ⟨u.length,c,by omega,?_,hc⟩
  have:(w.take i)[u.length]? =some c:=by rw[e];simp
  rw[List.getElem?_take,if_pos (by omega)]at this
  exact this
 ·rintro ⟨j,c,rfl,h,hc⟩
  have hj:j < w.length:=by omega
  refine ⟨w.take j,[c],?_,lN.2 ⟨c,rfl,hc⟩⟩
  rw[List.take_add_one,h];rfl
theorem vY {s:Int} {w:List Int} {i:Nat}:preL (fa s) (w.drop i)↔∃ c,w[i]? =some c∧hitI c s=true:=by
 unfold preL
 constructor
 ·rintro ⟨u,v,e,h⟩
  obtain ⟨c,rfl,hc⟩:=lN.1 h
  refine ⟨c,?_,hc⟩
  have:(w.drop i)[0]? =some c:=by rw[e];rfl
  rw[List.getElem?_drop]at this
  simpa using this
 ·rintro ⟨c,h,hc⟩
  have hi:i < w.length:=(List.getElem?_eq_some_iff.1 h).1
  refine ⟨[c],w.drop (i+1),?_,lN.2 ⟨c,rfl,hc⟩⟩
  rw[List.drop_eq_getElem_cons hi]
  rw[List.getElem?_eq_getElem hi]at h
  rw[Option.some.inj h];rfl
def Near (p:bP):Prop:=∀ x∈p.Rules,∃ b s t,x=⟨b,fa s,fa t⟩
theorem aqW:Near prgA:=fun x hx=>by
 have:x=⟨false,fa 0,fa 0⟩:=by simpa[prgA]using hx
 exact ⟨_,_,_,this⟩
theorem amW:Near prgB:=fun x hx=>by
 have:x=⟨false,fa 0,fa 0⟩∨x=⟨false,fa 1,fa 1⟩∨x=⟨true,fa 0,fa 1⟩:=by simpa[prgB]using hx
 rcases this with rfl | rfl | rfl <;> exact ⟨_,_,_,rfl⟩
def aoY (p:bP) (a b:Int):Int:=ff (fun k=>match p.Rules[k]? with
 | none=>false
 | some x=>hitI (mkI p.Sets a) x.Left.Set&&hitI (mkI p.Sets b) x.Right.Set) p.Rules.length 0
theorem jB {p:bP} (hN:Near p) {l:List Int} {j:Nat} {a b:Int} (ha:l[j]? =some a) (hb:l[j+1]? =some b):lp p l (j+1)=aoY p a b:=by
 unfold lp aoY
 have hj:j+1 < l.length:=(List.getElem?_eq_some_iff.1 hb).1
 refine ac4 fun k _ hk=>?_
 have hk':k < p.Rules.length:=by omega
 rw[Bool.eq_iff_iff,ai9,List.getElem?_eq_getElem hk']
 obtain ⟨br,s,t,hx⟩:=hN _ (List.getElem_mem hk')
 rw[hx]
 show (∃ x,some (⟨br,fa s,fa t⟩:lV)=some x∧atl p.Sets x l (j+1))↔(hitI (mkI p.Sets a) s&&hitI (mkI p.Sets b) t)=true
 rw[Bool.and_eq_true]
 constructor
 ·rintro ⟨x,hx,h1,h2⟩
  cases hx
  obtain ⟨j',c,e,h3,h4⟩:=(vE (by simp;omega)).1 h1
  obtain ⟨d,h5,h6⟩:=vY.1 h2
  obtain rfl:j=j':=by omega
  rw[List.getElem?_map,ha]at h3
  rw[List.getElem?_map,hb]at h5
  cases h3;cases h5
  exact ⟨h4,h6⟩
 ·rintro ⟨h1,h2⟩
  refine ⟨_,rfl,(vE (by simp;omega)).2 ⟨j,_,rfl,by rw[List.getElem?_map,ha];rfl,h1⟩,vY.2 ⟨_,by rw[List.getElem?_map,hb];rfl,h2⟩⟩
theorem av3 {l:List Int} (h:okB l=true):okT l:=acd.1 h
theorem allA:allN prgA [97,98,32,99]=[0,2,3,4]:=by
 have b0:brk prgA [97,98,32,99] 0=true:=rfl
 have b4:brk prgA [97,98,32,99] 4=true:=by unfold brk;simp
 have b1:brk prgA [97,98,32,99] 1=false:=by
  unfold brk
  rw[jB aqW (j:=0) (a:=97) (b:=98) rfl rfl]
  decide+kernel
 have b2:brk prgA [97,98,32,99] 2=true:=by
  unfold brk
  rw[jB aqW (j:=1) (a:=98) (b:=32) rfl rfl]
  decide+kernel
 have b3:brk prgA [97,98,32,99] 3=true:=by
  unfold brk
  rw[jB aqW (j:=2) (a:=32) (b:=99) rfl rfl]
  decide+kernel
 unfold allN
 have:List.range (([97,98,32,99]:List Int).length+1)=[0,1,2,3,4]:=by decide
 rw[this]
 simp[List.filter,b0,b1,b2,b3,b4]
theorem arO:dL=some true:=by
 unfold dL
 obtain ⟨y,hy,hM⟩:=(sB fewA (limit:=100) (by omega) (by omega)).1 aww
 have hp:cw txtA=some (prgA,0,0):=rfl
 have hr:du txtR=some [97,98,32,99]:=rfl
 have hA:=akm fewA apC fitA hM (l:=[97,98,32,99]) (av3 (by decide)) (by simp)
 rw[allA]at hA
 show (cw txtA).bind _=_
 rw[hp,Option.bind_some]
 simp only
 rw[show (100:Int)=((100:Nat):Int) from rfl,hy,Option.bind_some]
 simp only
 rw[if_pos (by rfl),if_pos (by rfl)]
 show ((du txtR).bind _).bind _=_
 rw[hr,Option.bind_some,hA,Option.bind_some,aaj (by simp)]
 rfl
end
end Go.Val
namespace Go.Val
set_option linter.unusedSectionVars false
noncomputable section
theorem ajo {l:List Int} {j:Nat} (hj:j < l.length):((idx l (j:Int)).bind fun n=>if (decide (n < (0:Int)))then some true else some (decide (n > (1114111:Int))))=some (!decide (inR l[j])):=by
 rw[fH hj,Option.bind_some]
 by_cases h:l[j] < 0
 ·have:¬ inR l[j]:=fun h'=>by have:=h'.1;omega
  rw[if_pos (by simpa using h),decide_eq_false this];rfl
 ·rw[if_neg (by simpa using h)]
  by_cases h2:l[j] > 1114111
  ·have:¬ inR l[j]:=fun h'=>by have:=h'.2;omega
   rw[decide_eq_true h2,decide_eq_false this];rfl
  ·have:inR l[j]:=⟨by omega,by omega⟩
   rw[decide_eq_false h2,decide_eq_true this];rfl
theorem auU {l:List Int}:(∀ j,(h:j < l.length)→inR l[j])↔okT l:=
 ⟨fun h r hr=>by obtain ⟨j,hj,rfl⟩:=List.getElem_of_mem hr;exact h j hj,fun h j hj=>h _ (List.getElem_mem hj)⟩
theorem acU {p:bP} (hN:Near p) {l:List Int} {j:Nat} {a b:Int} (ha:l[j]? =some a) (hb:l[j+1]? =some b):brk p l (j+1)=(decide (aoY p a b < 0)||(p.Rules.getD (aoY p a b).toNat ⟨false,⟨0,0,[]⟩,⟨0,0,[]⟩⟩).Break):=by
 have hj:j+1 < l.length:=(List.getElem?_eq_some_iff.1 hb).1
 unfold brk
 rw[jB hN ha hb,decide_eq_false (by omega),decide_eq_false (by omega)]
 simp
theorem rQ (l:List Int) (i:Int):aF l i=some true:=by
 unfold aF
 rw[arO,Option.bind_some]
 split
 ·rfl
 rename_i hc
 simp at hc
 obtain ⟨y,hy,hM⟩:=(sB fewB (limit:=40) (by omega) (by omega)).1 awr
 have hp:cw txtB=some (prgB,0,0):=rfl
 show (cw txtB).bind _=_
 rw[hp,Option.bind_some]
 simp only
 rw[show (40:Int)=((40:Nat):Int) from rfl,hy,Option.bind_some]
 simp only
 rw[if_neg (by simp)]
 have hmain:okT l→aF.k1 l i y=some true:=fun hl=>by
  unfold aF.k1
  by_cases hi:i < 1∨(l.length:Int)≤i
  ·rw[if_pos (by simpa using hi)]
   by_cases h0:i=0
   ·subst h0
    have hB:=pX fewB oW fitB hM hl (by omega) (i:=0) (Nat.zero_le _)
    rw[show (0:Int)=((0:Nat):Int) from rfl,hB]
    rfl
   ·by_cases h1:i=(l.length:Int)
    ·subst h1
     have hB:=pX fewB oW fitB hM hl (by omega) (i:=l.length) (Nat.le_refl _)
     have:brk prgB l l.length=true:=by unfold brk;simp
     rw[hB,this,Option.bind_some,if_neg (by simpa using h0)]
     simp
    ·rw[alF fewB oW fitB hM hl (by omega) (by omega),Option.bind_some,if_neg (by simpa using h0)]
     simp[h1]
  ·rw[if_neg (by simpa using hi)]
   obtain ⟨j,rfl⟩:∃ j:Nat,i=((j+1:Nat):Int):=⟨(i - 1).toNat,by omega⟩
   have hj:j+1 < l.length:=by omega
   have e1:IntKind.i64.wrap (((j+1:Nat):Int) - 1)=(j:Int):=by rw[w64 (by omega) (by omega)];omega
   have e2:IntKind.i64.wrap (((j+1:Nat):Int)+1)=((j+2:Nat):Int):=by rw[w64 (by omega) (by omega)];omega
   have hm:(l.take (j+2)).drop j=[l[j],l[j+1]]:=by
    rw[List.drop_take,show j+2 - j=2 by omega,List.drop_eq_getElem_cons (by omega),List.drop_eq_getElem_cons (by omega)];rfl
   have hcut:cut l (j:Int) ((j+2:Nat):Int)=some [l[j],l[j+1]]:=by
    unfold cut
    rw[if_pos (by omega),Int.toNat_natCast,Int.toNat_natCast,hm]
   have hok2:okT [l[j],l[j+1]]:=fun r hr=>by
    have:r=l[j]∨r=l[j+1]:=by simpa using hr
    rcases this with rfl | rfl <;> exact hl _ (List.getElem_mem _)
   have hR1:=alc fewB oW fitB hM hl (by omega) (i:=j+1) (by omega)
   have hR2:=alc fewB oW fitB hM hok2 (by simp) (i:=1) (by simp)
   have hB1:=pX fewB oW fitB hM hl (by omega) (i:=j+1) (by omega)
   have hB2:=pX fewB oW fitB hM hok2 (by simp) (i:=1) (by simp)
   have hj0:l[j]? =some l[j]:=List.getElem?_eq_getElem (by omega)
   have hj1:l[j+1]? =some l[j+1]:=List.getElem?_eq_getElem hj
   rw[jB amW hj0 hj1]at hR1
   rw[jB amW (j:=0) (l:=[l[j],l[j+1]]) rfl rfl]at hR2
   rw[acU amW hj0 hj1]at hB1
   rw[acU amW (j:=0) (l:=[l[j],l[j+1]]) rfl rfl]at hB2
   rw[e1,e2,hcut,Option.bind_some,hB1,Option.bind_some,Int.toNat_natCast,Int.toNat_natCast,hm,show (1:Int)=((1:Nat):Int) from rfl,hB2,Option.bind_some,if_pos (by simp),Option.bind_some,hR1,Option.bind_some,hR2,Option.bind_some]
   simp
 by_cases hl:okT l
 ·have hrun:=nf (b:=aF.b1 l i y) (i:=0) (n:=l.length) (Nat.zero_le _) (fun k _ hk=>by
   simp only[aF.b1]
   rw[if_pos (by simpa using hk),ajo hk,Option.bind_some,decide_eq_true (hl _ (List.getElem_mem hk)),if_neg (by simp),w64s (by omega)])
  refine hrun.trans (bK ?_)
  simp only[aF.b1]
  rw[if_neg (by simp),hmain hl]
 ·obtain ⟨j,hj,hjn,hmin⟩:=aje (P:=fun j=>(h:j < l.length)→inR l[j]) (n:=l.length) (Classical.byContradiction fun hn=>hl (auU.1 fun j hj=>Classical.byContradiction fun hP=>hn ⟨j,hj,fun h=>hP (h hj)⟩))
  have hbad:¬ inR l[j]:=fun h=>hjn fun _=>h
  have hrun:=nf (b:=aF.b1 l i y) (i:=0) (n:=j) (Nat.zero_le _) (fun k _ hk=>by
   simp only[aF.b1]
   have hil:k < l.length:=by omega
   rw[if_pos (by simpa using hil),ajo hil,Option.bind_some,decide_eq_true (hmin k hk hil),if_neg (by simp),w64s (by omega)])
  refine hrun.trans (cM ?_)
  simp only[aF.b1]
  rw[if_pos (by simpa using hj),ajo hj,Option.bind_some,decide_eq_false hbad,if_pos (by simp)]
end
end Go.Val

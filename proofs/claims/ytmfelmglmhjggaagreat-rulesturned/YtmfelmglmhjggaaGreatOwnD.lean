/- A value semantics of the model's programs, sound against it, and functions read off the given program with the proofs that it runs so; no condition. -/
import Derived.Test.YtmfelmglmhjggaaGreatOwnC
import Derived.Sort.Defs
import Derived.Lib.BitFns
import Derived.Lib.SlicesCompact
import Derived.Test.YtmfelmglmhjggaaGreatChecked
import Derived.SizedLaws
import Derived.ChangeArms
import Derived.Shelf.SlSortCmp.NoneTotal
import Derived.Shelf.SlicesG.Cmp
import Derived.Shelf.SortG.AssemblyIn
import Derived.Shelf.SortG.SortNone
import Derived.Shelf.SlicesG.CompactI
import Derived.Sort.EveryDepth
import Derived.Shelf.SlicesE.DeleteFunc
import Derived.Shelf.SlicesQ.Reverse
import Derived.Shelf.Spec.SlicesGrow
import Derived.WalkKit
import Derived.OwnWalkIn
import Derived.TacticsInMore
import Derived.Deep.QuietTactic
import Derived.BigQuiet
import Derived.Laws.BytesArg
import Derived.Shelf.Strings.Builder2
import Derived.Shelf.Strings.BuilderK
set_option linter.all false
set_option linter.unnecessarySimpa false
set_option linter.unusedVariables false
set_option linter.unusedSimpArgs false
namespace Go.Val
structure aE where
 Kind:Int
 Set:Int
 Kids:List aE
instance:Inhabited aE:=⟨⟨default,default,[]⟩⟩
mutual
def bL:aE→DVal
 | ⟨Kind,Set,Kids⟩=>.agg [.int .i64 Kind,.int .i64 Set,.sl (wI Kids)]
def wI:List aE→List DVal
 | []=>[]
 | x::xs=>bL x::wI xs
end
theorem so:∀ (l:List aE),wI l=List.map bL l
 | []=>rfl
 | x::xs=>by simp only[wI,List.map_cons,so xs]
theorem kf (x:aE):bL x= .agg [.int .i64 x.Kind,.int .i64 x.Set,.sl (List.map bL x.Kids)]:=by cases x;simp only[bL,so]
mutual
theorem qC (n:Nat):∀ (x:aE),(bL x).under n
 | ⟨Kind,Set,Kids⟩=>by simp only[bL,DVal.under,bv,and_true,true_and];exact oX n Kids
theorem oX (n:Nat):∀ (l:List aE),bv n (wI l)
 | []=>trivial
 | x::xs=>⟨qC n x,oX n xs⟩
end
instance:Enc bL 3:=⟨fun x=>by rw[kf];rfl,qC⟩
attribute [go_sem] kf
structure ak where
 Low:Int
 High:Int
 deriving DecidableEq,Inhabited
def bb (x:ak):DVal:=.agg [.int .i64 x.Low,.int .i64 x.High]
instance:Enc bb 2:=⟨fun _=>rfl,fun n x=>by simp only[bb,DVal.under,bv,de,and_self]⟩
attribute [go_sem] bb
structure lV where
 Break:Bool
 Left:aE
 Right:aE
 deriving Inhabited
def iv (x:lV):DVal:=.agg [.bool x.Break,.int .i64 x.Left.Kind,.int .i64 x.Left.Set,.sl (List.map bL x.Left.Kids),.int .i64 x.Right.Kind,.int .i64 x.Right.Set,.sl (List.map bL x.Right.Kids)]
instance:Enc iv 7:=⟨fun _=>rfl,fun n x=>by simp only[iv,DVal.under,bv,de,and_self]⟩
attribute [go_sem] iv
structure bP where
 Sets:List (List ak)
 Rules:List lV
 deriving Inhabited
def gU (x:bP):DVal:=.agg [.sl (List.map (eL bb) x.Sets),.sl (List.map iv x.Rules)]
instance:Enc gU 2:=⟨fun _=>rfl,fun n x=>by simp only[gU,DVal.under,bv,de,and_self]⟩
attribute [go_sem] gU
structure aM where
 sets:Int
 met:Int
 deriving DecidableEq,Inhabited
def iV (x:aM):DVal:=.agg [.int .i64 x.sets,.int .i64 x.met]
instance:Enc iV 2:=⟨fun _=>rfl,fun n x=>by simp only[iV,DVal.under,bv,de,and_self]⟩
attribute [go_sem] iV
structure cF where
 Low:Int
 High:Int
 Value:UInt8
 deriving DecidableEq,Inhabited
def gG (x:cF):DVal:=.agg [.int .i64 x.Low,.int .i64 x.High,.int .u8 (x.Value.toNat:Int)]
instance:Enc gG 3:=⟨fun _=>rfl,fun n x=>by simp only[gG,DVal.under,bv,de,and_self]⟩
attribute [go_sem] gG
structure bj where
 like:Vector UInt8 4352
 first:List (Vector UInt8 256)
 deriving DecidableEq,Inhabited
structure aB where
 trie:bj
 masks:List Int
 least:List Int
 deriving DecidableEq,Inhabited
structure kv where
 Sets:List (List ak)
 M:List Int
 First:List Int
 deriving DecidableEq,Inhabited
def ez (x:kv):DVal:=.agg [.sl (List.map (eL bb) x.Sets),.sl (List.map (eK .u64) x.M),.sl (List.map eI x.First)]
instance:Enc ez 3:=⟨fun _=>rfl,fun n x=>by simp only[ez,DVal.under,bv,de,and_self]⟩
attribute [go_sem] ez
structure fO where
 First:List UInt8
 Like:List Int
 deriving DecidableEq,Inhabited
def fM (x:fO):DVal:=.agg [.sl (List.map eU x.First),.sl (List.map eI x.Like)]
instance:Enc fM 2:=⟨fun _=>rfl,fun n x=>by simp only[fM,DVal.under,bv,de,and_self]⟩
attribute [go_sem] fM
structure cc where
 Null:Bool
 Sets:List Int
 First:List Int
 Last:List Int
 Follow:List (List Int)
 deriving DecidableEq,Inhabited
def aiQ (x:cc):DVal:=.agg [.bool x.Null,.sl (List.map eI x.Sets),.sl (List.map eI x.First),.sl (List.map eI x.Last),.sl (List.map (eL eI) x.Follow)]
instance:Enc aiQ 5:=⟨fun _=>rfl,fun n x=>by simp only[aiQ,DVal.under,bv,de,and_self]⟩
attribute [go_sem] aiQ
structure aq where
 null:Bool
 first:List Int
 last:List Int
 deriving DecidableEq,Inhabited
def lc (x:aq):DVal:=.agg [.bool x.null,.sl (List.map eI x.first),.sl (List.map eI x.last)]
instance:Enc lc 3:=⟨fun _=>rfl,fun n x=>by simp only[lc,DVal.under,bv,de,and_self]⟩
attribute [go_sem] lc
structure TDfa where
 Next:List (List Int)
 Final:List Bool
 deriving DecidableEq,Inhabited
def eDfa (x:TDfa):DVal:=.agg [.sl (List.map (eL eI) x.Next),.sl (List.map eB x.Final)]
instance:Enc eDfa 2:=⟨fun _=>rfl,fun n x=>by simp only[eDfa,DVal.under,bv,de,and_self]⟩
attribute [go_sem] eDfa
structure ss where
 v0:TDfa
 v1:TDfa
 deriving DecidableEq,Inhabited
def ak0 (x:ss):DVal:=.agg [.sl (List.map (eL eI) x.v0.Next),.sl (List.map eB x.v0.Final),.sl (List.map (eL eI) x.v1.Next),.sl (List.map eB x.v1.Final)]
instance:Enc ak0 4:=⟨fun _=>rfl,fun n x=>by simp only[ak0,DVal.under,bv,de,and_self]⟩
attribute [go_sem] ak0
structure bi where
 breaks:Bool
 states:ss
 deriving DecidableEq,Inhabited
def bX (x:bi):DVal:=.agg [.bool x.breaks,.sl (List.map (eL eI) x.states.v0.Next),.sl (List.map eB x.states.v0.Final),.sl (List.map (eL eI) x.states.v1.Next),.sl (List.map eB x.states.v1.Final)]
instance:Enc bX 5:=⟨fun _=>rfl,fun n x=>by simp only[bX,DVal.under,bv,de,and_self]⟩
attribute [go_sem] bX
structure aQ where
 rules:List bi
 trie:bj
 classes:Int
 deriving DecidableEq,Inhabited
structure kc where
 v0:aE
 v1:aE
 deriving Inhabited
def ab5 (x:kc):DVal:=.agg [.int .i64 x.v0.Kind,.int .i64 x.v0.Set,.sl (List.map bL x.v0.Kids),.int .i64 x.v1.Kind,.int .i64 x.v1.Set,.sl (List.map bL x.v1.Kids)]
instance:Enc ab5 6:=⟨fun _=>rfl,fun n x=>by simp only[ab5,DVal.under,bv,de,and_self]⟩
attribute [go_sem] ab5
end Go.Val
namespace Go.Val
noncomputable section
def ltR (a b:ak):Bool:=decide (a.Low < b.Low)
def abD (l:List ak):Option (List ak):=
 if l.length≤dn then some (Go.Sort.pdq ltR l.toArray 0 l.length (Go.Lib.bitLen l.length) true true).toList else none
def rK (l:List Int):Option (List Int):=
 if l.length≤dn then some (l.mergeSort fun x y=>decide (x≤y))else none
def bV (s:List ak):Option (List ak):=
 (room 16 (0+s.length)).bind fun _=>some s
def cQ (s:List Int):Option (List Int):=
 (room 8 (0+s.length)).bind fun _=>some s
def cp (s:List Int):Option (List Int):=if s.length≤dn then some (Go.Lib.compact s)else none
open Classical in
def abX {α:Type} (e:α→DVal) (f:List α→Option (List α)) (zs:List DVal):Option (List DVal):=
 if h:∃ l:List α,zs=l.map e then (f h.choose).map (List.map e)else none
theorem map_inj {α:Type} {e:α→DVal} (hi:∀ a b,e a=e b→a=b):∀ {l m:List α},l.map e=m.map e→l=m
 | [],[],_=>rfl
 | [],_::_,h=>by cases h
 | _::_,[],h=>by cases h
 | a::l,b::m,h=>by
  simp only[List.map_cons,List.cons.injEq]at h
  rw[hi a b h.1,map_inj hi h.2]
theorem mX {α:Type} {e:α→DVal} (hi:∀ a b,e a=e b→a=b) {f:List α→Option (List α)} {l l':List α} (h:f l=some l'):abX e f (l.map e)=some (l'.map e):=by
 have hx:∃ m:List α,l.map e=m.map e:=⟨l,rfl⟩
 have hc:hx.choose=l:=(map_inj hi hx.choose_spec).symm
 unfold abX
 rw[dif_pos hx,hc,h];rfl
theorem oL {α:Type} {e:α→DVal} {f:List α→Option (List α)} {zs ys:List DVal} (h:abX e f zs=some ys):∃ l l',zs=l.map e∧f l=some l'∧ys=l'.map e:=by
 unfold abX at h
 split at h
 ·rename_i hx
  cases hf:f hx.choose with
  | none=>rw[hf]at h;cases h
  | some l'=>rw[hf]at h;cases h;exact ⟨_,l',hx.choose_spec,hf,rfl⟩
 ·cases h
theorem ahj (a b:ak) (h:bb a=bb b):a=b:=by
 cases a;cases b
 simp only[bb,DVal.agg.injEq,List.cons.injEq,DVal.int.injEq,true_and,and_true]at h
 simp only[ak.mk.injEq];exact h
theorem apM (a b:Int) (h:eI a=eI b):a=b:=by
 simp only[eI,DVal.int.injEq,true_and]at h;exact h
theorem ahJ:∀ (a b:aE),bL a=bL b→a=b:=by
 have key:∀ m (a b:aE),SizeOf.sizeOf a < m→bL a=bL b→a=b:=by
  intro m
  induction m with
  | zero=>intro a b h;omega
  | succ m ih=>
   intro a b hm h
   obtain ⟨k,s,l⟩:=a
   obtain ⟨k',s',l'⟩:=b
   rw[kf,kf]at h
   simp only[DVal.agg.injEq,List.cons.injEq,DVal.int.injEq,DVal.sl.injEq,true_and,and_true]at h
   obtain ⟨rfl,rfl,h⟩:=h
   congr 1
   simp only[aE.mk.sizeOf_spec]at hm
   have go:∀ (l l':List aE),SizeOf.sizeOf l < m→l.map bL=l'.map bL→l=l':=by
    intro l
    induction l with
    | nil=>intro l' _ h;cases l' with
     | nil=>rfl
     | cons _ _=>cases h
    | cons x l ihl=>
     intro l' hm h
     cases l' with
     | nil=>cases h
     | cons y l'=>
      simp only[List.map_cons,List.cons.injEq]at h
      simp only[List.cons.sizeOf_spec]at hm
      rw[ih x y (by omega) h.1,ihl l' (by omega) h.2]
   exact go l l' (by omega) h
 exact fun a b h=>key _ a b (Nat.lt_succ_self _) h
def revN (l:List aE):Option (List aE):=if l.length≤dn then some l.reverse else none
open Classical in
def extR (g:FuncId) (ds:List DVal) (k:TypeId) (zs:List DVal):Option (List DVal):=
 if g=145∧ds=[.fn 146 [] []]∧k=147 then abX bb abD zs else if (g=83∨g=260)∧ds=[]∧k=3 then abX eI rK zs else if g=86∧ds=[]∧k=31 then abX bL revN zs else none
theorem akA {l l':List ak} (h:abD l=some l'):extR 145 [.fn 146 [] []] 147 (l.map bb)=some (l'.map bb):=by
 unfold extR
 rw[if_pos ⟨rfl,rfl,rfl⟩];exact mX ahj h
theorem vu {l l':List Int} (h:rK l=some l'):extR 83 [] 3 (l.map eI)=some (l'.map eI):=by
 unfold extR
 rw[if_neg (by decide),if_pos ⟨.inl rfl,rfl,rfl⟩];exact mX apM h
theorem amc {l l':List Int} (h:rK l=some l'):extR 260 [] 3 (l.map eI)=some (l'.map eI):=by
 unfold extR
 rw[if_neg (by decide),if_pos ⟨.inr rfl,rfl,rfl⟩];exact mX apM h
theorem aoG {l l':List aE} (h:revN l=some l'):extR 86 [] 31 (l.map bL)=some (l'.map bL):=by
 unfold extR
 rw[if_neg (by decide),if_neg (by decide),if_pos ⟨rfl,rfl,rfl⟩];exact mX ahJ h
def lg (F b:List UInt8):Nat→Nat→Int
 | 0,_=> -1
 | n+1,i=>if (F.drop (i*256)).take 256=b then i else lg F b n (i+1)
def eo (t:fO) (b:List UInt8):Option Int:=
 if t.First.length%256=0∧t.First.length≤1048576∧b.length≤1048576 then some (lg t.First b (t.First.length/256) 0)else none
def hexU:Nat→Str
 | n=>if h:n < 16 then [if n < 10 then UInt8.ofNat (48+n)else UInt8.ofNat (55+n)]else hexU (n/16)++hexU (n%16)
decreasing_by all_goals omega
def hexX (n:Int):Str:=[92,120,123]++hexU n.toNat++[125]
def jp (l:List ak):Str:=[91]++(l.flatMap fun x=>hexX x.Low++if x.High=x.Low then []else 45::hexX x.High)++[93]
def lB (l:List ak):Option Str:=if l.length≤1200000∧∀ x∈l,0≤x.Low∧x.Low≤1114111∧0≤x.High∧x.High≤1114111 then some (jp l)else none
def bW (s:List Int):Option (List Int):=if s.length≤dn then some (Go.Lib.compact s)else none
def fN (s:List Int) (n:Int):Option (List Int):=if s=[]∧0≤n∧n≤17592186044416 then some []else none
def cX (s:List Int) (n:Int):Option (List Int):=if s=[]∧0≤n∧n≤17592186044416 then some []else none
def hitI (a s:Int):Bool:=!(bAnd .u64 (shR .u64 a s) 1==0)
def ajD (A:cc) (i:Int):Bool:=decide (1≤i∧i≤1000000)&&decide (i≤(A.Sets.length:Int))&&decide (0≤A.Sets.getD (i - 1).toNat 0)
def bJ (s:List Int) (sign:Int) (A:cc):Option (List Int):=
 if s.length≤dn∧s.all (ajD A)=true then some (s.filter fun i=>hitI sign (A.Sets.getD (i - 1).toNat 0))else none
def txtA:List UInt8:=[115,101,116,32,97,32,61,32,91,97,45,122,93,59,32,107,101,101,112,32,97,32,47,32,97,59]
def txtB:List UInt8:=[115,101,116,32,97,32,61,32,91,97,45,122,93,59,32,115,101,116,32,98,32,61,32,91,48,45,57,93,59,32,107,101,101,112,32,97,32,47,32,97,59,32,107,101,101,112,32,98,32,47,32,98,59,32,98,114,101,97,107,32,97,32,47,32,98,59]
def fa (s:Int):aE:=⟨1,s,[]⟩
def prgA:bP:=⟨[[⟨97,122⟩]],[⟨false,fa 0,fa 0⟩]⟩
def prgB:bP:=⟨[[⟨97,122⟩],[⟨48,57⟩]],[⟨false,fa 0,fa 0⟩,⟨false,fa 1,fa 1⟩,⟨true,fa 0,fa 1⟩]⟩
def cw (b:List UInt8):Option (bP×Int×Int):=if b=txtA then some (prgA,0,0)else if b=txtB then some (prgB,0,0)else none
def txtR:List UInt8:=[97,98,32,99]
def du (b:List UInt8):Option (List Int):=if b=txtR then some [97,98,32,99]else none
def sb (f:FuncId) (a:List SV) (h:Heap) (o:List SV) (h':Heap):Prop:=
 h'=h∧((f=84∧∃ l u,a=[.cv (.row 3 (List.map eI l))]∧cp l=some u∧o=[.cv (.val (.sl (List.map eI u)))])∨
  (f=197∧∃ l t b r,a=[.cv (.val (.ptr (some (l,0)))),.cv (.val (.sl (List.map eU b)))]∧h.at_ l=some (.cells [.row 5 (List.map eU t.First),.row 3 (List.map eI t.Like)])∧eo t b=some r∧o=[.cv (.val (.int .i64 r))])∨
  (f=76∧∃ l u,a=[.cv (.val (.sl (List.map bb l)))]∧lB l=some u∧o=[.cv (.val (.str (bs u)))])∨
  (f=261∧∃ l u,a=[.cv (.row 3 (List.map eI l))]∧bW l=some u∧o=[.cv (.row 3 (List.map eI u))])∨
  ((f=226∨f=273)∧∃ n,a=[.cv .nil,.cv (.val (.int .i64 n))]∧0≤n∧n≤17592186044416∧o=[.cv (.row 3 [])])∨
  (f=225∧∃ l sg A p q u,a=[.cv (.row 3 (List.map eI l)),.cv (.val (.fn 224 [] [.ptr (some (p,0)),.ptr (some (q,0))]))]∧h.at_ p=some (.cells [.val (.int .u64 sg)])∧h.at_ q=some (.cells (vals (aiQ A).cells))∧bJ l sg A=some u∧o=[.cv (.val (.sl (List.map eI u)))])∨
  (f=17∧∃ b r,a=[.cv (.val (.sl (List.map eU b)))]∧cw b=some r∧o=[.cv (.val (gU r.1)),.cv (.val (.int .i64 r.2.1)),.cv (.val (.int .i64 r.2.2))])∨
  (f=29∧∃ b r,a=[.cv (.val (.sl (List.map eU b)))]∧du b=some r∧o=[.cv (.val (.sl (List.map eI r)))]))
end
end Go.Val
namespace Go.Val
open Go.Proofs
noncomputable def CT:Ctx:={ P:=Tryz.prog,how:=fun f i=>if f=148∧i=0 then .move else if f=230∧i=0 then .move else if f=84∧i=0 then .move else if f=261∧i=0 then .move else if f=225∧i=0 then .move else if f=226∧i=0 then .move else if f=273∧i=0 then .move else .data,gives:=fun f=>if f=148 then .move else if f=230 then .move else if f=144 then .move else if f=90 then .move else if f=273 then .move else if f=226 then .move else if f=161 then .move else if f=259 then .move else if f=261 then .move else if f=221 then .move else .data,ext:=extR,hand:=sb }
theorem CT_P:CT.P=Tryz.prog:=rfl
abbrev RD (f:FuncId):Prop:=∀ {s:St} {r:ResultVar} {rs:List ResultVar},results CT f s (r::rs)=uM CT f s rs (ej CT.P s r)
abbrev RM (f:FuncId):Prop:=∀ {s:St} {t:Nat},results CT f s [.tmp t]=pQ s.box s (s.get t)
abbrev HD (f:FuncId) (i:Nat):Prop:=CT.how f i= .data
abbrev HM (f:FuncId) (i:Nat):Prop:=CT.how f i= .move
def bz:World:=⟨#[],fun _ _=>0,0,default,default⟩
theorem aeP:CT.gives 82= .data:=rfl
theorem aec:CT.gives 35= .data:=rfl
theorem yY:CT.gives 222= .data:=rfl
theorem acu:CT.gives 223= .data:=rfl
theorem ko:CT.gives 156= .data:=rfl
theorem nZ:CT.gives 87= .data:=rfl
theorem oN:CT.gives 88= .data:=rfl
theorem sk:CT.gives 89= .data:=rfl
theorem nR:CT.gives 36= .data:=rfl
theorem afK:HD 30 0:=rfl
theorem ag3:HD 30 1:=rfl
theorem aeW:HD 30 2:=rfl
theorem ae5:HD 10 0:=rfl
theorem aaD:HD 142 0:=rfl
theorem aam:HD 202 0:=rfl
theorem abY:HD 202 1:=rfl
theorem acb:HD 143 0:=rfl
theorem xW:HD 143 1:=rfl
theorem yU:HD 144 0:=rfl
theorem abU:HM 148 0:=rfl
theorem yQ:HD 148 1:=rfl
theorem agx:HD 78 0:=rfl
theorem ahp:HD 79 0:=rfl
theorem afW:HD 79 1:=rfl
theorem adV:HD 75 0:=rfl
theorem ae4:HD 76 0:=rfl
theorem aaw:HD 139 0:=rfl
theorem acm:HD 140 0:=rfl
theorem zW:HD 141 0:=rfl
theorem yd:HD 141 1:=rfl
theorem aev:HD 77 0:=rfl
theorem agm:HD 77 1:=rfl
theorem ahf:HD 77 2:=rfl
theorem ahe:HD 77 3:=rfl
theorem ahA:HD 31 0:=rfl
theorem aaT:HD 206 0:=rfl
theorem abt:HD 206 1:=rfl
theorem abo:HD 205 0:=rfl
theorem aaP:HD 205 1:=rfl
theorem aaK:HD 205 2:=rfl
theorem aai:HD 149 0:=rfl
theorem yC:HD 149 1:=rfl
theorem afs:HD 81 0:=rfl
theorem adX:HD 81 1:=rfl
theorem aeG:HM 84 0:=rfl
theorem agw:HD 80 0:=rfl
theorem ace:HD 150 0:=rfl
theorem zF:HD 129 0:=rfl
theorem ab1:HD 129 1:=rfl
theorem ahh:HD 65 0:=rfl
theorem afz:HD 65 1:=rfl
theorem abf:HD 128 0:=rfl
theorem ze:HD 128 1:=rfl
theorem zu:HD 128 2:=rfl
theorem aad:HD 128 3:=rfl
theorem agq:HD 82 0:=rfl
theorem acs:HD 153 0:=rfl
theorem acp:HD 153 1:=rfl
theorem ae1:HD 32 0:=rfl
theorem afe:HD 85 0:=rfl
theorem af3:HD 85 1:=rfl
theorem afO:HD 34 0:=rfl
theorem aep:HD 90 0:=rfl
theorem afc:HD 37 0:=rfl
theorem abq:HD 263 0:=rfl
theorem ack:HD 263 1:=rfl
theorem aca:HD 229 0:=rfl
theorem abJ:HD 229 1:=rfl
theorem zG:HD 169 0:=rfl
theorem aax:HD 169 1:=rfl
theorem zZ:HM 230 0:=rfl
theorem yS:HD 230 1:=rfl
theorem yG:HD 230 2:=rfl
theorem acn:HD 167 0:=rfl
theorem zX:HD 167 1:=rfl
theorem aaC:HD 167 2:=rfl
theorem agC:HD 95 0:=rfl
theorem aeq:HD 96 0:=rfl
theorem ahz:HD 96 1:=rfl
theorem aaE:HD 168 0:=rfl
theorem yp:HD 168 1:=rfl
theorem ae7:HD 97 0:=rfl
theorem agb:HD 98 0:=rfl
theorem afm:HD 98 1:=rfl
theorem aeC:HD 99 0:=rfl
theorem af9:HD 99 1:=rfl
theorem abG:HD 171 0:=rfl
theorem zO:HD 171 1:=rfl
theorem yK:HD 170 0:=rfl
theorem acg:HD 170 1:=rfl
theorem aaU:HD 197 0:=rfl
theorem abQ:HD 197 1:=rfl
theorem yB:HD 132 0:=rfl
theorem yP:HD 132 1:=rfl
theorem aaF:HD 100 0:=rfl
theorem agu:HD 41 0:=rfl
theorem aeQ:HD 42 0:=rfl
theorem afA:HD 42 1:=rfl
theorem agj:HD 35 0:=rfl
theorem abv:HD 218 0:=rfl
theorem ab0:HD 258 0:=rfl
theorem zk:HD 258 1:=rfl
theorem abj:HD 219 0:=rfl
theorem zq:HD 219 1:=rfl
theorem aa9:HD 154 0:=rfl
theorem zg:HD 155 0:=rfl
theorem aa5:HM 273 0:=rfl
theorem abw:HD 273 1:=rfl
theorem zb:HD 259 0:=rfl
theorem aay:HM 261 0:=rfl
theorem abe:HD 221 0:=rfl
theorem yz:HD 221 1:=rfl
theorem aa8:HD 220 0:=rfl
theorem abh:HD 220 1:=rfl
theorem aaN:HD 220 2:=rfl
theorem aba:HD 222 0:=rfl
theorem yq:HD 222 1:=rfl
theorem aaW:HD 222 2:=rfl
theorem yr:HD 223 0:=rfl
theorem zI:HD 223 1:=rfl
theorem zN:HD 156 0:=rfl
theorem za:HD 156 1:=rfl
theorem ag0:HD 87 0:=rfl
theorem zU:HD 262 0:=rfl
theorem aa7:HD 262 1:=rfl
theorem abK:HD 224 0:=rfl
theorem zD:HD 224 1:=rfl
theorem zL:HD 224 2:=rfl
theorem yI:HM 225 0:=rfl
theorem abL:HD 225 1:=rfl
theorem aan:HD 160 0:=rfl
theorem zn:HD 160 1:=rfl
theorem aao:HD 160 2:=rfl
theorem abg:HD 165 0:=rfl
theorem aau:HD 165 1:=rfl
theorem afS:HD 91 0:=rfl
theorem aem:HD 91 1:=rfl
theorem afg:HD 94 0:=rfl
theorem agT:HD 94 1:=rfl
theorem adZ:HD 40 0:=rfl
theorem aek:HD 40 1:=rfl
theorem yJ:HD 227 0:=rfl
theorem zE:HD 227 1:=rfl
theorem yM:HD 162 0:=rfl
theorem aa2:HD 162 1:=rfl
theorem aco:HM 226 0:=rfl
theorem zB:HD 226 1:=rfl
theorem aaG:HD 161 0:=rfl
theorem zT:HD 158 0:=rfl
theorem abk:HD 157 0:=rfl
theorem ya:HD 157 1:=rfl
theorem yE:HD 157 2:=rfl
theorem ahq:HD 88 0:=rfl
theorem ahv:HD 88 1:=rfl
theorem aew:HD 88 2:=rfl
theorem ag5:HD 88 3:=rfl
theorem zx:HD 189 0:=rfl
theorem abn:HD 189 1:=rfl
theorem yg:HD 190 0:=rfl
theorem zH:HD 190 1:=rfl
theorem acq:HD 190 2:=rfl
theorem aaQ:HD 241 0:=rfl
theorem aaH:HD 241 1:=rfl
theorem ab2:HD 191 0:=rfl
theorem yW:HD 191 1:=rfl
theorem acv:HD 123 0:=rfl
theorem abT:HD 228 0:=rfl
theorem aat:HD 228 1:=rfl
theorem xY:HD 228 2:=rfl
theorem aa3:HD 163 0:=rfl
theorem aa0:HD 164 0:=rfl
theorem aby:HD 164 1:=rfl
theorem abm:HD 164 2:=rfl
theorem aaI:HD 164 3:=rfl
theorem af6:HD 89 0:=rfl
theorem agK:HD 36 0:=rfl
theorem ahC:HD 36 1:=rfl
theorem agc:HD 36 2:=rfl
theorem aej:HD 33 0:=rfl
theorem ag7:HD 33 1:=rfl
theorem ags:HD 11 0:=rfl
theorem ae8:HD 11 1:=rfl
theorem agX:HD 92 0:=rfl
theorem afl:HD 38 0:=rfl
theorem zz:HD 166 0:=rfl
theorem zh:HD 166 1:=rfl
theorem aaJ:HD 166 2:=rfl
theorem agr:HD 93 0:=rfl
theorem ad3:HD 93 1:=rfl
theorem ae6:HD 93 2:=rfl
theorem af7:HD 93 3:=rfl
theorem afV:HD 39 0:=rfl
theorem ahn:HD 39 1:=rfl
theorem aei:HD 12 0:=rfl
theorem aex:HD 12 1:=rfl
theorem afP:HD 14 0:=rfl
theorem aeU:HD 14 1:=rfl
theorem aeF:HD 14 2:=rfl
theorem agl:HD 15 0:=rfl
theorem afE:HD 15 1:=rfl
theorem ae0:HD 15 2:=rfl
theorem aaX:HD 101 0:=rfl
theorem acf:HD 103 0:=rfl
theorem yt:HD 172 0:=rfl
theorem yh:HD 172 1:=rfl
theorem aaq:HD 102 0:=rfl
theorem abW:HD 102 1:=rfl
theorem yV:HD 102 2:=rfl
theorem agY:HD 43 0:=rfl
theorem aeo:HD 43 1:=rfl
theorem agU:HD 44 0:=rfl
theorem afv:HD 44 1:=rfl
theorem ahk:HD 16 0:=rfl
theorem agD:HD 16 1:=rfl
theorem aes:HD 16 2:=rfl
theorem agB:HD 13 0:=rfl
theorem aeb:HD 13 1:=rfl
theorem aeu:HD 17 0:=rfl
theorem ahd:HD 29 0:=rfl
theorem al8:HD 3 0:=rfl
theorem ai8:HD 3 1:=rfl
theorem aiZ:HD 3 2:=rfl
theorem ajL:HD 4 0:=rfl
theorem aml:HD 4 1:=rfl
theorem ajw:HD 5 0:=rfl
theorem akb:HD 5 1:=rfl
theorem vv {h:Heap} {s:St}:pQ h s (.cv .nil)=some ([.cv .nil],h):=rfl
theorem xT {h:Heap} {s:St} {k:Nat} {xs:List DVal}:pQ h s (.cv (.row k xs))=some ([.cv (.row k xs)],h):=rfl
attribute [go_sem] vv xT
theorem aef {n:Nat} {a b:DVal}:dj 2 (List.replicate n (.agg [a,b]))=true:=by simp[dj,DVal.cells]
theorem aeX {n:Nat} {a b c:DVal}:dj 3 (List.replicate n (.agg [a,b,c]))=true:=by simp[dj,DVal.cells]
theorem aeh {n:Nat} {k:IntKind} {a:Int}:dj 1 (List.replicate n (.int k a))=true:=by simp[dj,DVal.cells]
theorem ago {n:Nat} {a:Bool}:dj 1 (List.replicate n (.bool a))=true:=by simp[dj,DVal.cells]
attribute [go_sem] aef aeX aeh ago List.length_replicate decide_true Nat.lt_irrefl
theorem akc {k:Nat} {xs ys:List DVal}:dj k (xs++ys)=(dj k xs&&dj k ys):=by simp[dj]
theorem ahH {k:IntKind} {a:Int} {xs:List DVal}:dj 1 (.int k a::xs)=dj 1 xs:=by simp[dj,DVal.cells]
theorem anx {k:Nat}:dj k []=true:=rfl
attribute [go_sem] akc ahH anx Bool.and_true Bool.true_and
theorem at0:RD 30:=ae rfl
theorem avG:RD 10:=ae rfl
theorem asG:RD 142:=ae rfl
theorem arD:RD 202:=ae rfl
theorem asa:RD 143:=ae rfl
theorem atL:RD 78:=ae rfl
theorem auL:RD 79:=ae rfl
theorem ave:RD 75:=ae rfl
theorem atY:RD 76:=ae rfl
theorem asQ:RD 139:=ae rfl
theorem aru:RD 140:=ae rfl
theorem ara:RD 141:=ae rfl
theorem auR:RD 77:=ae rfl
theorem avf:RD 31:=ae rfl
theorem ars:RD 206:=ae rfl
theorem asS:RD 205:=ae rfl
theorem aqF:RD 149:=ae rfl
theorem auH:RD 81:=ae rfl
theorem auv:RD 84:=ae rfl
theorem avL:RD 80:=ae rfl
theorem aqv:RD 150:=ae rfl
theorem atn:RD 129:=ae rfl
theorem atN:RD 65:=ae rfl
theorem ato:RD 128:=ae rfl
theorem atz:RD 82:=ae rfl
theorem aq1:RD 153:=ae rfl
theorem atP:RD 32:=ae rfl
theorem auK:RD 85:=ae rfl
theorem aty:RD 34:=ae rfl
theorem au8:RD 37:=ae rfl
theorem arj:RD 263:=ae rfl
theorem asd:RD 229:=ae rfl
theorem asE:RD 169:=ae rfl
theorem aqb:RD 167:=ae rfl
theorem auT:RD 95:=ae rfl
theorem auw:RD 96:=ae rfl
theorem arv:RD 168:=ae rfl
theorem auZ:RD 97:=ae rfl
theorem auu:RD 98:=ae rfl
theorem av2:RD 99:=ae rfl
theorem arp:RD 171:=ae rfl
theorem asc:RD 170:=ae rfl
theorem asp:RD 197:=ae rfl
theorem ap8:RD 100:=ae rfl
theorem avS:RD 41:=ae rfl
theorem aun:RD 42:=ae rfl
theorem auW:RD 35:=ae rfl
theorem asw:RD 218:=ae rfl
theorem ard:RD 258:=ae rfl
theorem asJ:RD 219:=ae rfl
theorem ap3:RD 154:=ae rfl
theorem atp:RD 155:=ae rfl
theorem asm:RD 222:=ae rfl
theorem aqq:RD 223:=ae rfl
theorem atk:RD 156:=ae rfl
theorem avr:RD 87:=ae rfl
theorem aq6:RD 159:=ae rfl
theorem aqt:RD 262:=ae rfl
theorem as2:RD 224:=ae rfl
theorem aqI:RD 225:=ae rfl
theorem ark:RD 160:=ae rfl
theorem as1:RD 165:=ae rfl
theorem au6:RD 91:=ae rfl
theorem avv:RD 94:=ae rfl
theorem avn:RD 40:=ae rfl
theorem aqD:RD 227:=ae rfl
theorem aqr:RD 162:=ae rfl
theorem asB:RD 158:=ae rfl
theorem asX:RD 157:=ae rfl
theorem avk:RD 88:=ae rfl
theorem aqu:RD 189:=ae rfl
theorem as7:RD 190:=ae rfl
theorem apW:RD 241:=ae rfl
theorem are:RD 191:=ae rfl
theorem arh:RD 123:=ae rfl
theorem aqj:RD 228:=ae rfl
theorem arz:RD 163:=ae rfl
theorem asb:RD 164:=ae rfl
theorem atQ:RD 89:=ae rfl
theorem auM:RD 36:=ae rfl
theorem atI:RD 33:=ae rfl
theorem aut:RD 11:=ae rfl
theorem at9:RD 92:=ae rfl
theorem atM:RD 38:=ae rfl
theorem atc:RD 166:=ae rfl
theorem aur:RD 93:=ae rfl
theorem avc:RD 39:=ae rfl
theorem av1:RD 12:=ae rfl
theorem atX:RD 14:=ae rfl
theorem auy:RD 15:=ae rfl
theorem arw:RD 101:=ae rfl
theorem aqK:RD 103:=ae rfl
theorem asD:RD 172:=ae rfl
theorem aqs:RD 102:=ae rfl
theorem avm:RD 43:=ae rfl
theorem aus:RD 44:=ae rfl
theorem avK:RD 16:=ae rfl
theorem avO:RD 13:=ae rfl
theorem avu:RD 17:=ae rfl
theorem avh:RD 29:=ae rfl
theorem awd:RD 9:=ae rfl
theorem awD:RD 3:=ae rfl
theorem awf:RD 4:=ae rfl
theorem awK:RD 5:=ae rfl
theorem asg:RM 144:=dI rfl
theorem asO:RM 148:=dI rfl
theorem av0:RM 90:=dI rfl
theorem aq3:RM 230:=dI rfl
theorem ar2:RM 273:=dI rfl
theorem aqz:RM 259:=dI rfl
theorem ap5:RM 261:=dI rfl
theorem ari:RM 221:=dI rfl
theorem aqp:RM 226:=dI rfl
theorem arL:RM 161:=dI rfl
attribute [go_sem] at0 Tryz.results30 avG Tryz.results10 asG Tryz.results142 arD Tryz.results202 asa Tryz.results143 asg Tryz.results144 asO Tryz.results148 atL Tryz.results78 auL Tryz.results79 ave Tryz.results75 atY Tryz.results76 asQ Tryz.results139 aru Tryz.results140 ara Tryz.results141 auR Tryz.results77 avf Tryz.results31 ars Tryz.results206 asS Tryz.results205 aqF Tryz.results149 auH Tryz.results81 auv Tryz.results84 avL Tryz.results80 aqv Tryz.results150 atn Tryz.results129 atN Tryz.results65 ato Tryz.results128 atz Tryz.results82 aq1 Tryz.results153 atP Tryz.results32 auK Tryz.results85 aty Tryz.results34 av0 Tryz.results90 au8 Tryz.results37 arj Tryz.results263 asd Tryz.results229 asE Tryz.results169 aq3 Tryz.results230 aqb Tryz.results167 auT Tryz.results95 auw Tryz.results96 arv Tryz.results168 auZ Tryz.results97 auu Tryz.results98 av2 Tryz.results99 arp Tryz.results171 asc Tryz.results170 asp Tryz.results197 Tryz.results132 ap8 Tryz.results100 avS Tryz.results41 aun Tryz.results42 auW Tryz.results35 asw Tryz.results218 ard Tryz.results258 asJ Tryz.results219 ap3 Tryz.results154 atp Tryz.results155 ar2 Tryz.results273 aqz Tryz.results259 ap5 Tryz.results261 ari Tryz.results221 Tryz.results220 asm Tryz.results222 aqq Tryz.results223 atk Tryz.results156 avr Tryz.results87 aq6 Tryz.results159 aqt Tryz.results262 as2 Tryz.results224 aqI Tryz.results225 ark Tryz.results160 as1 Tryz.results165 au6 Tryz.results91 avv Tryz.results94 avn Tryz.results40 aqD Tryz.results227 aqr Tryz.results162 aqp Tryz.results226 arL Tryz.results161 asB Tryz.results158 asX Tryz.results157 avk Tryz.results88 aqu Tryz.results189 as7 Tryz.results190 apW Tryz.results241 are Tryz.results191 arh Tryz.results123 aqj Tryz.results228 arz Tryz.results163 asb Tryz.results164 atQ Tryz.results89 auM Tryz.results36 atI Tryz.results33 aut Tryz.results11 at9 Tryz.results92 atM Tryz.results38 atc Tryz.results166 aur Tryz.results93 avc Tryz.results39 av1 Tryz.results12 atX Tryz.results14 auy Tryz.results15 arw Tryz.results101 aqK Tryz.results103 asD Tryz.results172 aqs Tryz.results102 avm Tryz.results43 aus Tryz.results44 avK Tryz.results16 avO Tryz.results13 avu Tryz.results17 avh Tryz.results29 awd Tryz.results9 awD Tryz.results3 awf Tryz.results4 awK Tryz.results5
theorem pk:Tryz.prog.info? 31=some Tryz.t31:=ct bz Tryz.typeInfo31
theorem akZ:Tryz.prog.info? 29=some Tryz.t29:=ct bz Tryz.typeInfo29
theorem apn:Tryz.prog.info? 25=some Tryz.t25:=ct bz Tryz.typeInfo25
theorem ady:Tryz.prog.info? 22=some Tryz.t22:=ct bz Tryz.typeInfo22
theorem akn:Tryz.prog.info? 23=some Tryz.t23:=ct bz Tryz.typeInfo23
theorem atO:Tryz.prog.info? 59=some Tryz.t59:=ct bz Tryz.typeInfo59
theorem wP:Tryz.prog.info? 33=some Tryz.t33:=ct bz Tryz.typeInfo33
theorem rF:Tryz.prog.info? 147=some Tryz.t147:=ct bz Tryz.typeInfo147
theorem nP:Tryz.prog.info? 3=some Tryz.t3:=ct bz Tryz.typeInfo3
theorem alm:Tryz.prog.info? 141=some Tryz.t141:=ct bz Tryz.typeInfo141
theorem uY:Tryz.prog.info? 4=some Tryz.t4:=ct bz Tryz.typeInfo4
theorem qP:Tryz.prog.info? 115=some Tryz.t115:=ct bz Tryz.typeInfo115
theorem qv:Tryz.prog.info? 192=some Tryz.t192:=ct bz Tryz.typeInfo192
theorem zK:Tryz.prog.info? 188=some Tryz.t188:=ct bz Tryz.typeInfo188
theorem aa4:Tryz.prog.info? 187=some Tryz.t187:=ct bz Tryz.typeInfo187
theorem aer:Tryz.prog.info? 5=some Tryz.t5:=ct bz Tryz.typeInfo5
theorem alp:Tryz.prog.info? 190=some Tryz.t190:=ct bz Tryz.typeInfo190
theorem adM:Tryz.prog.info? 64=some Tryz.t64:=ct bz Tryz.typeInfo64
theorem ac0:Tryz.prog.info? 80=some Tryz.t80:=ct bz Tryz.typeInfo80
theorem lw:Tryz.prog.info? 26=some Tryz.t26:=ct bz Tryz.typeInfo26
theorem ajm:Tryz.prog.info? 149=some Tryz.t149:=ct bz Tryz.typeInfo149
theorem uV:Tryz.prog.info? 152=some Tryz.t152:=ct bz Tryz.typeInfo152
theorem aj7:Tryz.prog.info? 47=some Tryz.t47:=ct bz Tryz.typeInfo47
theorem aj2:Tryz.prog.info? 128=some Tryz.t128:=ct bz Tryz.typeInfo128
theorem alx:Tryz.prog.info? 104=some Tryz.t104:=ct bz Tryz.typeInfo104
theorem qS:Tryz.prog.info? 228=some Tryz.t228:=ct bz Tryz.typeInfo228
theorem aqL:Tryz.prog.info? 232=some Tryz.t232:=ct bz Tryz.typeInfo232
theorem acz:Tryz.prog.info? 69=some Tryz.t69:=ct bz Tryz.typeInfo69
theorem ajJ:Tryz.prog.info? 230=some Tryz.t230:=ct bz Tryz.typeInfo230
theorem alu:Tryz.prog.info? 159=some Tryz.t159:=ct bz Tryz.typeInfo159
theorem aiv:Tryz.prog.info? 233=some Tryz.t233:=ct bz Tryz.typeInfo233
theorem apq:Tryz.prog.info? 72=some Tryz.t72:=ct bz Tryz.typeInfo72
theorem aly:Tryz.prog.info? 70=some Tryz.t70:=ct bz Tryz.typeInfo70
theorem ajY:Tryz.prog.info? 166=some Tryz.t166:=ct bz Tryz.typeInfo166
theorem aiM:Tryz.prog.info? 241=some Tryz.t241:=ct bz Tryz.typeInfo241
theorem alk:Tryz.prog.info? 66=some Tryz.t66:=ct bz Tryz.typeInfo66
theorem apz:Tryz.prog.info? 68=some Tryz.t68:=ct bz Tryz.typeInfo68
theorem ahZ:Tryz.prog.info? 73=some Tryz.t73:=ct bz Tryz.typeInfo73
theorem vn:Tryz.prog.info? 75=some Tryz.t75:=ct bz Tryz.typeInfo75
theorem avE:Tryz.prog.info? 77=some Tryz.t77:=ct bz Tryz.typeInfo77
theorem qf:Tryz.prog.cellsOf 31=3:=(bY pk).trans rfl
theorem ajK:Tryz.prog.cellsOf 29=1:=(bY akZ).trans rfl
theorem asv:Tryz.prog.cellsOf 25=2:=(bY apn).trans rfl
theorem yu:Tryz.prog.cellsOf 22=1:=(bY ady).trans rfl
theorem alX:Tryz.prog.cellsOf 23=1:=(bY akn).trans rfl
theorem atv:Tryz.prog.cellsOf 59=1:=(bY atO).trans rfl
theorem arG:Tryz.prog.cellsOf 33=7:=(bY wP).trans rfl
theorem amw:Tryz.prog.cellsOf 147=2:=(bY rF).trans rfl
theorem ly:Tryz.prog.cellsOf 3=1:=(bY nP).trans rfl
theorem anE:Tryz.prog.cellsOf 141=2:=(bY alm).trans rfl
theorem amY:Tryz.prog.cellsOf 115=3:=(bY qP).trans rfl
theorem amz:Tryz.prog.cellsOf 192=256:=(bY qv).trans rfl
theorem acJ:Tryz.prog.cellsOf 188=1:=(bY zK).trans rfl
theorem ac5:Tryz.prog.cellsOf 187=4352:=(bY aa4).trans rfl
theorem ade:Tryz.prog.cellsOf 5=1:=(bY aer).trans rfl
theorem amv:Tryz.prog.cellsOf 190=4353:=(bY alp).trans rfl
theorem zR:Tryz.prog.cellsOf 64=1:=(bY adM).trans rfl
theorem aah:Tryz.prog.cellsOf 80=1:=(bY ac0).trans rfl
theorem mq:Tryz.prog.cellsOf 26=1:=(bY lw).trans rfl
theorem anr:Tryz.prog.cellsOf 149=3:=(bY ajm).trans rfl
theorem ape:Tryz.prog.cellsOf 152=1:=(bY uV).trans rfl
theorem alY:Tryz.prog.cellsOf 47=1:=(bY aj7).trans rfl
theorem anR:Tryz.prog.cellsOf 128=2:=(bY aj2).trans rfl
theorem an7:Tryz.prog.cellsOf 104=3:=(bY alx).trans rfl
theorem tI:Tryz.prog.cellsOf 228=1:=(bY qS).trans rfl
theorem anu:Tryz.prog.cellsOf 232=1:=(bY aqL).trans rfl
theorem abN:Tryz.prog.cellsOf 69=1:=(bY acz).trans rfl
theorem aoF:Tryz.prog.cellsOf 230=3:=(bY ajJ).trans rfl
theorem sq:Tryz.prog.cellsOf 4=1:=(bY uY).trans rfl
theorem aoV:Tryz.prog.cellsOf 159=5:=(bY alu).trans rfl
theorem an8:Tryz.prog.cellsOf 233=1:=(bY aiv).trans rfl
theorem alC:Tryz.prog.cellsOf 70=1:=(bY aly).trans rfl
theorem ar5:Tryz.prog.cellsOf 72=2:=(bY apq).trans rfl
theorem am2:Tryz.prog.cellsOf 166=1:=(bY ajY).trans rfl
theorem ao0:Tryz.prog.cellsOf 241=1:=(bY aiM).trans rfl
theorem ajI:Tryz.prog.cellsOf 66=1:=(bY alk).trans rfl
theorem aqd:Tryz.prog.cellsOf 68=3:=(bY apz).trans rfl
theorem aiK:Tryz.prog.cellsOf 73=4:=(bY ahZ).trans rfl
theorem asU:Tryz.prog.cellsOf 75=5:=(bY vn).trans rfl
theorem avW:dU Tryz.prog 147=true:=by unfold dU;rw[rF];rfl
theorem ao3:Tryz.prog.bytesOf 147=16:=(gA rF).trans rfl
theorem an1:cL Tryz.prog 147=true:=by unfold cL;rw[rF];rfl
theorem anm:aZ Tryz.prog 147=some [.val (.int .i64 (0:Int)),.val (.int .i64 (0:Int))]:=by
 unfold aZ isAg;rw[rF,Tryz.underlying147];simp[bs,cV,Tryz.t147]
theorem apJ:aZ Tryz.prog 3=some [.val (.int .i64 (0:Int))]:=by
 unfold aZ isAg;rw[nP,Tryz.underlying3];simp[bs,cV,Tryz.t3]
theorem apB:Tryz.prog.stoodInHeld 147=false:=by kernel_rfl
theorem apu:Tryz.prog.eqGuardType Tryz.prog.depth 147=false:=by kernel_rfl
theorem akz {a0 b0:Int} {a1 b1:Int}:gR Tryz.prog .eql 147 (.agg [.int .i64 a0,.int .i64 a1]) (.agg [.int .i64 b0,.int .i64 b1])=some (.bool (a0==b0&&(a1==b1&&true))):=
 ale (apw Tryz.underlying147 apB apu (pD (by simp[isAg,Tryz.underlying3]) (by simp[eqF1,Tryz.underlying3,dq,uv]) (pD (by simp[isAg,Tryz.underlying3]) (by simp[eqF1,Tryz.underlying3,dq,uv]) ali)))
theorem aji {a0 b0:Int} {a1 b1:Int}:gR Tryz.prog .neq 147 (.agg [.int .i64 a0,.int .i64 a1]) (.agg [.int .i64 b0,.int .i64 b1])=some (.bool (!(a0==b0&&(a1==b1&&true)))):=
 ah1 (apw Tryz.underlying147 apB apu (pD (by simp[isAg,Tryz.underlying3]) (by simp[eqF1,Tryz.underlying3,dq,uv]) (pD (by simp[isAg,Tryz.underlying3]) (by simp[eqF1,Tryz.underlying3,dq,uv]) ali)))
theorem aqY:aZ Tryz.prog 31=some [.val (.int .i64 (0:Int)),.val (.int .i64 (0:Int)),.nil]:=by
 unfold aZ isAg;rw[pk,Tryz.underlying31];simp[bs,cV,Tryz.t31]
theorem aqo:aZ Tryz.prog 29=some [.nil]:=by
 unfold aZ isAg;rw[akZ,Tryz.underlying29];simp[bs,cV,Tryz.t29]
theorem auN:ca Tryz.prog 141=true:=by
 unfold ca;rw[Tryz.underlying141];simp[nP,nP]
theorem agt:place Tryz.prog 141 0=some (0,1):=by
 unfold place;rw[Tryz.underlying141];simp[ly]
theorem afi:place Tryz.prog 141 1=some (1,1):=by
 unfold place;rw[Tryz.underlying141];simp[ly]
theorem aoq:aZ Tryz.prog 141=some [.val (.int .i64 (0:Int)),.val (.int .i64 (0:Int))]:=by
 unfold aZ isAg;rw[alm,Tryz.underlying141];simp[bs,cV,Tryz.t141]
theorem aqy:aZ Tryz.prog 33=some [.val (.bool false),.val (.int .i64 (0:Int)),.val (.int .i64 (0:Int)),.nil,.val (.int .i64 (0:Int)),.val (.int .i64 (0:Int)),.nil]:=by
 unfold aZ isAg;rw[wP,Tryz.underlying33];simp[bs,cV,Tryz.t33]
theorem apv:aZ Tryz.prog 4=some [.val (.bool false)]:=by
 unfold aZ isAg;rw[uY,Tryz.underlying4];simp[bs,cV,Tryz.t4]
theorem zok3:dU Tryz.prog 3=true:=by unfold dU;rw[nP];rfl
theorem auV:Tryz.prog.bytesOf 3=8:=(gA nP).trans rfl
theorem atU:cL Tryz.prog 3=true:=by unfold cL;rw[nP];rfl
theorem zd3:jq Tryz.prog 3=some (.int .i64 (0:Int)):=by
 unfold jq fj isAg;rw[apJ,ly,Tryz.underlying3];simp[toDs,CV.toD,bs,DVal.cells]
theorem atd {v:Vector UInt8 256}:isKey Tryz.prog 192 (.array 256 5) (.agg (List.map eU v.toList))=true:=aoB Tryz.underlying5 ade
theorem avi:dU Tryz.prog 192=true:=by unfold dU;rw[qv];rfl
theorem anV:Tryz.prog.bytesOf 192=256:=(gA qv).trans rfl
theorem aos:cL Tryz.prog 192=true:=by unfold cL;rw[qv];kernel_rfl
theorem avx:ca Tryz.prog 190=true:=by
 unfold ca;rw[Tryz.underlying190];simp[aa4,zK]
theorem agd:place Tryz.prog 190 0=some (0,4352):=by
 unfold place;rw[Tryz.underlying190];simp[ac5]
theorem aeI:place Tryz.prog 190 1=some (4352,1):=by
 unfold place;rw[Tryz.underlying190];simp[acJ]
theorem amP:aZ Tryz.prog 190=some (bQ eU (Vector.replicate 4352 (0:UInt8))++([.nil]:List CV)):=by
 unfold aZ isAg;rw[alp,Tryz.underlying190];kernel_rfl
theorem aoS:aZ Tryz.prog 187=some (bQ eU (Vector.replicate 4352 (0:UInt8))):=by
 unfold aZ isAg;rw[aa4,Tryz.underlying187];kernel_rfl
theorem apA:aZ Tryz.prog 5=some [.val (.int .u8 (0:Int))]:=by
 unfold aZ isAg;rw[aer,Tryz.underlying5];simp[bs,cV,Tryz.t5]
theorem ant:aZ Tryz.prog 188=some [.nil]:=by
 unfold aZ isAg;rw[zK,Tryz.underlying188];simp[bs,cV,Tryz.t188]
theorem anU:aZ Tryz.prog 192=some (bQ eU (Vector.replicate 256 (0:UInt8))):=by
 unfold aZ isAg;rw[qv,Tryz.underlying192];kernel_rfl
theorem amH:aZ Tryz.prog 115=some [.val (.int .i64 (0:Int)),.val (.int .i64 (0:Int)),.val (.int .u8 (0:Int))]:=by
 unfold aZ isAg;rw[qP,Tryz.underlying115];simp[bs,cV,Tryz.t115]
theorem atC:ca Tryz.prog 149=true:=by
 unfold ca;rw[Tryz.underlying149];simp[adM,ac0,lw]
theorem aeD:place Tryz.prog 149 0=some (0,1):=by
 unfold place;rw[Tryz.underlying149];simp[zR]
theorem aeV:place Tryz.prog 149 1=some (1,1):=by
 unfold place;rw[Tryz.underlying149];simp[aah]
theorem aeA:place Tryz.prog 149 2=some (2,1):=by
 unfold place;rw[Tryz.underlying149];simp[mq]
theorem aoQ:aZ Tryz.prog 149=some [.val (.ptr none),.nil,.nil]:=by
 unfold aZ isAg;rw[ajm,Tryz.underlying149];simp[bs,cV,Tryz.t149]
theorem arN:aZ Tryz.prog 64=some [.val (.ptr none)]:=by
 unfold aZ isAg;rw[adM,Tryz.underlying64];simp[bs,cV,Tryz.t64]
theorem ate:aZ Tryz.prog 80=some [.nil]:=by
 unfold aZ isAg;rw[ac0,Tryz.underlying80];simp[bs,cV,Tryz.t80]
theorem aqO:aZ Tryz.prog 26=some [.nil]:=by
 unfold aZ isAg;rw[lw,Tryz.underlying26];simp[bs,cV,Tryz.t26]
theorem atH:dU Tryz.prog 152=true:=by unfold dU;rw[uV];rfl
theorem anO:Tryz.prog.bytesOf 152=8:=(gA uV).trans rfl
theorem anw:cL Tryz.prog 152=true:=by unfold cL;rw[uV];rfl
theorem avp:ca Tryz.prog 115=true:=by
 unfold ca;rw[Tryz.underlying115];simp[nP,nP,aer]
theorem af2:place Tryz.prog 115 0=some (0,1):=by
 unfold place;rw[Tryz.underlying115];simp[ly]
theorem afX:place Tryz.prog 115 1=some (1,1):=by
 unfold place;rw[Tryz.underlying115];simp[ly]
theorem afT:place Tryz.prog 115 2=some (2,1):=by
 unfold place;rw[Tryz.underlying115];simp[ade]
theorem avg:dU Tryz.prog 115=true:=by unfold dU;rw[qP];rfl
theorem anZ:Tryz.prog.bytesOf 115=24:=(gA qP).trans rfl
theorem aoh:cL Tryz.prog 115=true:=by unfold cL;rw[qP];rfl
theorem avP:ca Tryz.prog 147=true:=by
 unfold ca;rw[Tryz.underlying147];simp[nP,nP]
theorem age:place Tryz.prog 147 0=some (0,1):=by
 unfold place;rw[Tryz.underlying147];simp[ly]
theorem ahF:place Tryz.prog 147 1=some (1,1):=by
 unfold place;rw[Tryz.underlying147];simp[ly]
theorem avq:Tryz.prog.bytesOf 5=1:=(gA aer).trans rfl
theorem atE:cL Tryz.prog 5=true:=by unfold cL;rw[aer];rfl
theorem avJ:ca Tryz.prog 128=true:=by
 unfold ca;rw[Tryz.underlying128];simp[aj7,lw]
theorem afZ:place Tryz.prog 128 0=some (0,1):=by
 unfold place;rw[Tryz.underlying128];simp[alY]
theorem afp:place Tryz.prog 128 1=some (1,1):=by
 unfold place;rw[Tryz.underlying128];simp[mq]
theorem amI:aZ Tryz.prog 128=some [.nil,.nil]:=by
 unfold aZ isAg;rw[aj2,Tryz.underlying128];simp[bs,cV,Tryz.t128]
theorem ap1:aZ Tryz.prog 47=some [.nil]:=by
 unfold aZ isAg;rw[aj7,Tryz.underlying47];simp[bs,cV,Tryz.t47]
theorem zd5:jq Tryz.prog 5=some (.int .u8 ((0:UInt8).toNat:Int)):=by
 unfold jq fj isAg;rw[apA,ade,Tryz.underlying5];simp[toDs,CV.toD,bs,DVal.cells]
theorem au7:ca Tryz.prog 104=true:=by
 unfold ca;rw[Tryz.underlying104];simp[ady,ac0,lw]
theorem agv:place Tryz.prog 104 0=some (0,1):=by
 unfold place;rw[Tryz.underlying104];simp[yu]
theorem afx:place Tryz.prog 104 1=some (1,1):=by
 unfold place;rw[Tryz.underlying104];simp[aah]
theorem ag4:place Tryz.prog 104 2=some (2,1):=by
 unfold place;rw[Tryz.underlying104];simp[mq]
theorem amT:aZ Tryz.prog 104=some [.nil,.nil,.nil]:=by
 unfold aZ isAg;rw[alx,Tryz.underlying104];simp[bs,cV,Tryz.t104]
theorem atw:aZ Tryz.prog 22=some [.nil]:=by
 unfold aZ isAg;rw[ady,Tryz.underlying22];simp[bs,cV,Tryz.t22]
theorem awy:dU Tryz.prog 31=true:=by unfold dU;rw[pk];rfl
theorem aqT:Tryz.prog.bytesOf 31=40:=(gA pk).trans rfl
theorem atu:cL Tryz.prog 31=true:=by unfold cL;rw[pk];rfl
theorem awp:ca Tryz.prog 31=true:=by
 unfold ca;rw[Tryz.underlying31];simp[nP,nP,akZ]
theorem alK:place Tryz.prog 31 0=some (0,1):=by
 unfold place;rw[Tryz.underlying31];simp[ly]
theorem ahO:place Tryz.prog 31 1=some (1,1):=by
 unfold place;rw[Tryz.underlying31];simp[ly]
theorem ain:place Tryz.prog 31 2=some (2,1):=by
 unfold place;rw[Tryz.underlying31];simp[ajK]
theorem av5:dU Tryz.prog 228=true:=by unfold dU;rw[qS];rfl
theorem amu:aZ Tryz.prog 230=some [.val (.bool false),.nil,.nil]:=by
 unfold aZ isAg;rw[ajJ,Tryz.underlying230];simp[bs,cV,Tryz.t230]
theorem ao1:aZ Tryz.prog 228=some [.nil]:=by
 unfold aZ isAg;rw[qS,Tryz.underlying228];simp[bs,cV,Tryz.t228]
theorem auf:ca Tryz.prog 230=true:=by
 unfold ca;rw[Tryz.underlying230];simp[uY,qS,qS]
theorem ad0:place Tryz.prog 230 0=some (0,1):=by
 unfold place;rw[Tryz.underlying230];simp[sq]
theorem ad9:place Tryz.prog 230 1=some (1,1):=by
 unfold place;rw[Tryz.underlying230];simp[tI]
theorem aeR:place Tryz.prog 230 2=some (2,1):=by
 unfold place;rw[Tryz.underlying230];simp[tI]
theorem awj:dU Tryz.prog 26=true:=by unfold dU;rw[lw];rfl
theorem aqw:Tryz.prog.bytesOf 26=24:=(gA lw).trans rfl
theorem ar9:cL Tryz.prog 26=true:=by unfold cL;rw[lw];rfl
theorem amQ:aZ Tryz.prog 159=some [.val (.bool false),.nil,.nil,.nil,.nil]:=by
 unfold aZ isAg;rw[alu,Tryz.underlying159];simp[bs,cV,Tryz.t159]
theorem arC:aZ Tryz.prog 69=some [.nil]:=by
 unfold aZ isAg;rw[acz,Tryz.underlying69];simp[bs,cV,Tryz.t69]
theorem atT:ca Tryz.prog 159=true:=by
 unfold ca;rw[Tryz.underlying159];simp[uY,lw,lw,lw,acz]
theorem agQ:place Tryz.prog 159 0=some (0,1):=by
 unfold place;rw[Tryz.underlying159];simp[sq]
theorem afa:place Tryz.prog 159 1=some (1,1):=by
 unfold place;rw[Tryz.underlying159];simp[mq]
theorem aeg:place Tryz.prog 159 2=some (2,1):=by
 unfold place;rw[Tryz.underlying159];simp[mq]
theorem afR:place Tryz.prog 159 3=some (3,1):=by
 unfold place;rw[Tryz.underlying159];simp[mq]
theorem aeH:place Tryz.prog 159 4=some (4,1):=by
 unfold place;rw[Tryz.underlying159];simp[abN]
theorem zok5:dU Tryz.prog 5=true:=by unfold dU;rw[aer];rfl
theorem u8_5:isU8 Tryz.prog 5=true:=by unfold isU8;rw[Tryz.underlying5]
theorem arQ:aZ Tryz.prog 72=some [.nil,.nil]:=by
 unfold aZ isAg;rw[apq,Tryz.underlying72];simp[bs,cV,Tryz.t72]
theorem arb:aZ Tryz.prog 70=some [.nil]:=by
 unfold aZ isAg;rw[aly,Tryz.underlying70];simp[bs,cV,Tryz.t70]
theorem awH:ca Tryz.prog 72=true:=by
 unfold ca;rw[Tryz.underlying72];simp[acz,aly]
theorem akE:place Tryz.prog 72 0=some (0,1):=by
 unfold place;rw[Tryz.underlying72];simp[abN]
theorem ahQ:place Tryz.prog 72 1=some (1,1):=by
 unfold place;rw[Tryz.underlying72];simp[alC]
theorem an3:aZ Tryz.prog 233=some [.val (.map none)]:=by
 unfold aZ isAg;rw[aiv,Tryz.underlying233];simp[bs,cV,Tryz.t233]
theorem zok4:dU Tryz.prog 4=true:=by unfold dU;rw[uY];rfl
theorem au5:Tryz.prog.bytesOf 4=1:=(gA uY).trans rfl
theorem avX:cL Tryz.prog 4=true:=by unfold cL;rw[uY];rfl
theorem amL:aZ Tryz.prog 166=some [.val (.nilfn)]:=by
 unfold aZ isAg;rw[ajY,Tryz.underlying166];simp[bs,cV,Tryz.t166]
theorem an4:aZ Tryz.prog 241=some [.val (.map none)]:=by
 unfold aZ isAg;rw[aiM,Tryz.underlying241];simp[bs,cV,Tryz.t241]
theorem awE:ca Tryz.prog 68=true:=by
 unfold ca;rw[Tryz.underlying68];simp[alk,adM,nP]
theorem akp:place Tryz.prog 68 0=some (0,1):=by
 unfold place;rw[Tryz.underlying68];simp[ajI]
theorem aii:place Tryz.prog 68 1=some (1,1):=by
 unfold place;rw[Tryz.underlying68];simp[zR]
theorem ajF:place Tryz.prog 68 2=some (2,1):=by
 unfold place;rw[Tryz.underlying68];simp[ly]
theorem asV:aZ Tryz.prog 68=some [.nil,.val (.ptr none),.val (.int .i64 (0:Int))]:=by
 unfold aZ isAg;rw[apz,Tryz.underlying68];simp[bs,cV,Tryz.t68]
theorem atb:aZ Tryz.prog 66=some [.nil]:=by
 unfold aZ isAg;rw[alk,Tryz.underlying66];simp[bs,cV,Tryz.t66]
theorem awO:ca Tryz.prog 75=true:=by
 unfold ca;rw[Tryz.underlying75];simp[uY,ahZ]
theorem alB:place Tryz.prog 75 0=some (0,1):=by
 unfold place;rw[Tryz.underlying75];simp[sq]
theorem ajM:place Tryz.prog 75 1=some (1,4):=by
 unfold place;rw[Tryz.underlying75];simp[aiK]
theorem att:aZ Tryz.prog 75=some [.val (.bool false),.nil,.nil,.nil,.nil]:=by
 unfold aZ isAg;rw[vn,Tryz.underlying75];simp[bs,cV,Tryz.t75]
theorem ar0:aZ Tryz.prog 73=some [.nil,.nil,.nil,.nil]:=by
 unfold aZ isAg;rw[ahZ,Tryz.underlying73];simp[bs,cV,Tryz.t73]
theorem awP:ca Tryz.prog 77=true:=by
 unfold ca;rw[Tryz.underlying77];simp[pk]
theorem alH:place Tryz.prog 77 0=some (0,3):=by
 unfold place;rw[Tryz.underlying77];simp[qf]
theorem ah2:place Tryz.prog 77 1=some (3,3):=by
 unfold place;rw[Tryz.underlying77];simp[qf]
theorem arU:aZ Tryz.prog 77=some [.val (.int .i64 (0:Int)),.val (.int .i64 (0:Int)),.nil,.val (.int .i64 (0:Int)),.val (.int .i64 (0:Int)),.nil]:=by
 unfold aZ isAg;rw[avE,Tryz.underlying77];simp[bs,cV,Tryz.t77]
theorem awT:dU Tryz.prog 75=true:=by unfold dU;rw[vn];rfl
theorem arM:Tryz.prog.bytesOf 75=104:=(gA vn).trans rfl
theorem aq4:cL Tryz.prog 75=true:=by unfold cL;rw[vn];rfl
theorem zd4:jq Tryz.prog 4=some (.bool false):=by
 unfold jq fj isAg;rw[apv,sq,Tryz.underlying4];simp[toDs,CV.toD,bs,DVal.cells]
theorem aso:aZ Tryz.prog 25=some [.nil,.nil]:=by
 unfold aZ isAg;rw[apn,Tryz.underlying25];simp[bs,cV,Tryz.t25]
theorem apY:aZ Tryz.prog 23=some [.nil]:=by
 unfold aZ isAg;rw[akn,Tryz.underlying23];simp[bs,cV,Tryz.t23]
theorem ao4:gR Tryz.prog .eql 34 (.ptr none) (.ptr none)=some (.bool true):=by simp[gR,eqD,Tryz.underlying34,dq]
theorem anT:gR Tryz.prog .neq 34 (.ptr none) (.ptr none)=some (.bool false):=by simp[gR,eqD,Tryz.underlying34,dq]
theorem ang {a:Nat×Nat}:gR Tryz.prog .eql 34 (.ptr (some a)) (.ptr none)=some (.bool false):=by simp[gR,eqD,Tryz.underlying34,dq]
theorem anW {a:Nat×Nat}:gR Tryz.prog .neq 34 (.ptr (some a)) (.ptr none)=some (.bool true):=by simp[gR,eqD,Tryz.underlying34,dq]
theorem aoy {a:Nat×Nat}:gR Tryz.prog .eql 34 (.ptr none) (.ptr (some a))=some (.bool false):=by simp[gR,eqD,Tryz.underlying34,dq]
theorem anj {a:Nat×Nat}:gR Tryz.prog .neq 34 (.ptr none) (.ptr (some a))=some (.bool true):=by simp[gR,eqD,Tryz.underlying34,dq]
theorem awm:ca Tryz.prog 33=true:=by
 unfold ca;rw[Tryz.underlying33];simp[uY,pk,pk]
theorem aie:place Tryz.prog 33 0=some (0,1):=by
 unfold place;rw[Tryz.underlying33];simp[sq]
theorem aiC:place Tryz.prog 33 1=some (1,3):=by
 unfold place;rw[Tryz.underlying33];simp[qf]
theorem ajN:place Tryz.prog 33 2=some (4,3):=by
 unfold place;rw[Tryz.underlying33];simp[qf]
theorem awl:dU Tryz.prog 33=true:=by unfold dU;rw[wP];rfl
theorem asN:Tryz.prog.bytesOf 33=88:=(gA wP).trans rfl
theorem aqn:cL Tryz.prog 33=true:=by unfold cL;rw[wP];rfl
theorem awc:ca Tryz.prog 25=true:=by
 unfold ca;rw[Tryz.underlying25];simp[ady,akn]
theorem alr:place Tryz.prog 25 0=some (0,1):=by
 unfold place;rw[Tryz.underlying25];simp[yu]
theorem akM:place Tryz.prog 25 1=some (1,1):=by
 unfold place;rw[Tryz.underlying25];simp[alX]
theorem eqb4 {a b:Bool}:gR Tryz.prog .eql 4 (.bool a) (.bool b)=some (.bool (a==b)):=by simp[gR,eqD,Tryz.underlying4,dq]
theorem neb4 {a b:Bool}:gR Tryz.prog .neq 4 (.bool a) (.bool b)=some (.bool (!(a==b))):=by simp[gR,eqD,Tryz.underlying4,dq]
attribute [go_sem] CT_P qf Tryz.underlying31 ajK Tryz.underlying29 Tryz.underlying3 asv Tryz.underlying25 yu Tryz.underlying22 alX Tryz.underlying23 atv Tryz.underlying59 arG Tryz.underlying33 amw Tryz.underlying147 ly avW ao3 an1 anm apJ akz aji Tryz.underlying35 Tryz.underlying141 aqY aqo Tryz.underlying136 Tryz.underlying9 auN agt afi aoq anE aqy Tryz.underlying4 apv Tryz.underlying186 Tryz.underlying152 Tryz.underlying26 zok3 auV atU amY Tryz.underlying115 Tryz.underlying118 amz Tryz.underlying192 Tryz.underlying197 zd3 atd Tryz.underlying190 acJ Tryz.underlying188 avi anV aos Tryz.underlying5 ac5 Tryz.underlying187 ade avx agd aeI amP aoS apA ant amv anU amH Tryz.underlying149 atC aeD aeV aeA aoQ Tryz.underlying64 arN Tryz.underlying80 ate aqO zR aah mq anr Tryz.underlying150 ape atH anO anw avp af2 afX afT avg anZ aoh avP age ahF Tryz.underlying104 Tryz.underlying128 alY Tryz.underlying47 avq atE avJ afZ afp amI ap1 anR zd5 au7 agv afx ag4 amT atw an7 awy aqT atu awp alK ahO ain Tryz.underlying323 tI Tryz.underlying228 av5 anu Tryz.underlying232 Tryz.underlying159 abN Tryz.underlying69 aoF Tryz.underlying230 amu ao1 sq auf ad0 ad9 aeR awj aqw ar9 amQ arC atT agQ afa aeg afR aeH aoV zok5 u8_5 an8 Tryz.underlying233 Tryz.underlying72 arQ Tryz.underlying70 arb awH akE ahQ alC ar5 an3 zok4 au5 avX am2 Tryz.underlying166 amL ao0 Tryz.underlying241 an4 Tryz.underlying68 awE akp aii ajF asV Tryz.underlying66 atb ajI aqd Tryz.underlying75 awO alB ajM att Tryz.underlying73 ar0 aiK asU Tryz.underlying77 awP alH ah2 arU awT arM aq4 zd4 aso apY Tryz.underlying34 ao4 anT ang anW aoy anj awm aie aiC ajN awl asN aqn awc alr akM eqb4 neb4
attribute [go_sem] afK ag3 aeW ae5 aaD aam abY acb xW yU abU yQ agx ahp afW adV ae4 aaw acm zW yd aev agm ahf ahe ahA aaT abt abo aaP aaK aai yC afs adX aeG agw ace zF ab1 ahh afz abf ze zu aad agq acs acp ae1 afe af3 afO aep afc abq ack aca abJ zG aax zZ yS yG acn zX aaC agC aeq ahz aaE yp ae7 agb afm aeC af9 abG zO yK acg aaU abQ yB yP aaF agu aeQ afA agj abv ab0 zk abj zq aa9 zg aa5 abw zb aay abe yz aa8 abh aaN aba yq aaW yr zI zN za ag0 zU aa7 abK zD zL yI abL aan zn aao abg aau afS aem afg agT adZ aek yJ zE yM aa2 aco zB aaG zT abk ya yE ahq ahv aew ag5 zx abn yg zH acq aaQ aaH ab2 yW acv abT aat xY aa3 aa0 aby abm aaI af6 agK ahC agc aej ag7 ags ae8 agX afl zz zh aaJ agr ad3 ae6 af7 afV ahn aei aex afP aeU aeF agl afE ae0 aaX acf yt yh aaq abW yV agY aeo agU afv ahk agD aes agB aeb aeu ahd al8 ai8 aiZ ajL aml ajw akb
end Go.Val
namespace Go.Val
open Go.Proofs
set_option maxRecDepth 100000
theorem mixed:Tryz.prog.follows .mixedOrders=true:=by kernel_rfl
theorem aoc {m:Nat} {ds:List DVal} (h:isT Tryz.prog (m+2) 26 ds):∃ l:List Int,ds=[eL eI l]∧l.length≤maxLen:=
 ak1 Tryz.underlying26 h fun x hx _ ho=>by
  obtain ⟨n,h1,_⟩:=asR Tryz.underlying3 hx
  exact ⟨n,avH h1 (ho (by simp[isAg,Tryz.underlying3]))⟩
end Go.Val
namespace Go.Val
open Go.Proofs Go.Shelf
def afM:Go.Shelf.Ren:=⟨fun | 6=>145 | 15=>152 | 14=>203 | 28=>216 | 29=>217 | 20=>245 | 21=>246 | 22=>247 | 23=>248 | 24=>249 | 25=>250 | 26=>251 | 27=>252 | 46=>269 | 47=>254 | 48=>255 | 49=>270 | 50=>271 | 57=>274 | n=>n,fun | 22=>59 | 24=>147 | 25=>222 | 3=>3 | 39=>186 | 0=>0 | 53=>284 | 55=>152 | 4=>4 | 46=>278 | 45=>277 | 50=>154 | 5=>5 | 9=>9 | 66=>306 | 70=>310 | 76=>320 | 77=>321 | n=>n,fun | n=>n⟩
theorem apO:Go.Proofs.SlLaysF0.n6 Tryz.prog afM:={
 mixed:=by kernel_rfl
 f6:=⟨Tryz.f145.name,by decide,Tryz.func145.trans (congrArg some (by kernel_rfl))⟩
 f14:=⟨Tryz.f203.name,by decide,Tryz.func203.trans (congrArg some (by kernel_rfl))⟩
 f15:=Tryz.func152.trans (congrArg some (by kernel_rfl))
 f20:=⟨Tryz.f245.name,by decide,Tryz.func245.trans (congrArg some (by kernel_rfl))⟩
 f21:=⟨Tryz.f246.name,by decide,Tryz.func246.trans (congrArg some (by kernel_rfl))⟩
 f22:=⟨Tryz.f247.name,by decide,Tryz.func247.trans (congrArg some (by kernel_rfl))⟩
 f23:=⟨Tryz.f248.name,by decide,Tryz.func248.trans (congrArg some (by kernel_rfl))⟩
 f24:=⟨Tryz.f249.name,by decide,Tryz.func249.trans (congrArg some (by kernel_rfl))⟩
 f25:=⟨Tryz.f250.name,by decide,Tryz.func250.trans (congrArg some (by kernel_rfl))⟩
 f26:=⟨Tryz.f251.name,by decide,Tryz.func251.trans (congrArg some (by kernel_rfl))⟩
 f27:=⟨Tryz.f252.name,by decide,Tryz.func252.trans (congrArg some (by kernel_rfl))⟩
 f28:=Tryz.func216.trans (congrArg some (by kernel_rfl))
 f29:=Tryz.func217.trans (congrArg some (by kernel_rfl))
 f46:=⟨Tryz.f269.name,by decide,Tryz.func269.trans (congrArg some (by kernel_rfl))⟩
 f47:=Tryz.func254.trans (congrArg some (by kernel_rfl))
 f48:=Tryz.func255.trans (congrArg some (by kernel_rfl))
 f49:=⟨Tryz.f270.name,by decide,Tryz.func270.trans (congrArg some (by kernel_rfl))⟩
 f50:=⟨Tryz.f271.name,by decide,Tryz.func271.trans (congrArg some (by kernel_rfl))⟩
 f57:=⟨Tryz.f274.name,by decide,Tryz.func274.trans (congrArg some (by kernel_rfl))⟩
 t0:=Tryz.underlying0
 a0:=Tryz.isAgg0
 z0:=Tryz.sizeOf0
 v0:=Tryz.zeroValue0
 t3:=Tryz.underlying3
 a3:=Tryz.isAgg3
 z3:=Tryz.sizeOf3
 v3:=Tryz.zeroValue3
 t4:=Tryz.underlying4
 a4:=Tryz.isAgg4
 z4:=Tryz.sizeOf4
 v4:=Tryz.zeroValue4
 t5:=Tryz.underlying5
 a5:=Tryz.isAgg5
 z5:=Tryz.sizeOf5
 v5:=Tryz.zeroValue5
 t9:=Tryz.underlying9
 a9:=Tryz.isAgg9
 z9:=Tryz.sizeOf9
 v9:=Tryz.zeroValue9
 t22:=Tryz.underlying59
 a22:=Tryz.isAgg59
 z22:=Tryz.sizeOf59
 v22:=Tryz.zeroValue59
 t25:=Tryz.underlying222
 a25:=Tryz.isAgg222
 z25:=Tryz.sizeOf222
 v25:=Tryz.zeroValue222
 t39:=Tryz.underlying186
 a39:=Tryz.isAgg186
 z39:=Tryz.sizeOf186
 v39:=Tryz.zeroValue186
 t45:=Tryz.underlying277
 a45:=Tryz.isAgg277
 z45:=Tryz.sizeOf277
 v45:=Tryz.zeroValue277
 t46:=Tryz.underlying278
 a46:=Tryz.isAgg278
 z46:=Tryz.sizeOf278
 v46:=Tryz.zeroValue278
 t50:=Tryz.underlying154
 a50:=Tryz.isAgg154
 z50:=Tryz.sizeOf154
 v50:=Tryz.zeroValue154
 t53:=Tryz.underlying284
 a53:=Tryz.isAgg284
 z53:=Tryz.sizeOf284
 v53:=Tryz.zeroValue284
 t55:=Tryz.underlying152
 a55:=Tryz.isAgg152
 z55:=Tryz.sizeOf152
 v55:=Tryz.zeroValue152
 t66:=Tryz.underlying306
 a66:=Tryz.isAgg306
 z66:=Tryz.sizeOf306
 v66:=Tryz.zeroValue306
 t70:=Tryz.underlying310
 a70:=Tryz.isAgg310
 z70:=Tryz.sizeOf310
 v70:=Tryz.zeroValue310
 t76:=Tryz.underlying320
 a76:=Tryz.isAgg320
 z76:=Tryz.sizeOf320
 v76:=Tryz.zeroValue320
 t77:=Tryz.underlying321
 a77:=Tryz.isAgg321
 z77:=Tryz.sizeOf321
 v77:=Tryz.zeroValue321 }
def ag6:Go.Shelf.Ren:=⟨fun | 5=>147 | 7=>204 | n=>n,fun | 22=>3 | 3=>3 | 4=>4 | n=>n,fun | n=>n⟩
theorem aul:Go.Proofs.SlLaysC2.n5 Tryz.prog ag6:={
 mixed:=by kernel_rfl
 f5:=⟨Tryz.f147.name,by decide,Tryz.func147.trans (congrArg some (by kernel_rfl))⟩
 f7:=⟨Tryz.f204.name,by decide,Tryz.func204.trans (congrArg some (by kernel_rfl))⟩
 t3:=Tryz.underlying3
 a3:=Tryz.isAgg3
 z3:=Tryz.sizeOf3
 v3:=Tryz.zeroValue3
 t4:=Tryz.underlying4
 a4:=Tryz.isAgg4
 z4:=Tryz.sizeOf4
 v4:=Tryz.zeroValue4
 t22:=Tryz.underlying3
 a22:=Tryz.isAgg3
 z22:=Tryz.sizeOf3
 v22:=Tryz.zeroValue3 }
def aea:Go.Shelf.Ren:=⟨fun | 53=>83 | 64=>152 | 63=>151 | 78=>216 | 79=>217 | 70=>207 | 71=>208 | 72=>209 | 73=>210 | 74=>211 | 75=>212 | 59=>213 | 76=>214 | 77=>215 | 88=>253 | 89=>254 | 90=>255 | 91=>256 | 92=>257 | 68=>204 | 96=>272 | n=>n,fun | 22=>26 | 23=>3 | 3=>3 | 51=>186 | 0=>0 | 67=>284 | 69=>152 | 4=>4 | 61=>278 | 60=>277 | 44=>154 | 5=>5 | 9=>9 | 75=>306 | 79=>310 | 83=>320 | 84=>321 | n=>n,fun | n=>n⟩
theorem sR:Go.Proofs.SlLaysN.n53 Tryz.prog aea:={
 mixed:=by kernel_rfl
 f53:=⟨Tryz.f83.name,by decide,Tryz.func83.trans (congrArg some (by kernel_rfl))⟩
 f59:=⟨Tryz.f213.name,by decide,Tryz.func213.trans (congrArg some (by kernel_rfl))⟩
 f63:=⟨Tryz.f151.name,by decide,Tryz.func151.trans (congrArg some (by kernel_rfl))⟩
 f64:=Tryz.func152.trans (congrArg some (by kernel_rfl))
 f68:=⟨Tryz.f204.name,by decide,Tryz.func204.trans (congrArg some (by kernel_rfl))⟩
 f70:=⟨Tryz.f207.name,by decide,Tryz.func207.trans (congrArg some (by kernel_rfl))⟩
 f71:=⟨Tryz.f208.name,by decide,Tryz.func208.trans (congrArg some (by kernel_rfl))⟩
 f72:=⟨Tryz.f209.name,by decide,Tryz.func209.trans (congrArg some (by kernel_rfl))⟩
 f73:=⟨Tryz.f210.name,by decide,Tryz.func210.trans (congrArg some (by kernel_rfl))⟩
 f74:=⟨Tryz.f211.name,by decide,Tryz.func211.trans (congrArg some (by kernel_rfl))⟩
 f75:=⟨Tryz.f212.name,by decide,Tryz.func212.trans (congrArg some (by kernel_rfl))⟩
 f76:=⟨Tryz.f214.name,by decide,Tryz.func214.trans (congrArg some (by kernel_rfl))⟩
 f77:=⟨Tryz.f215.name,by decide,Tryz.func215.trans (congrArg some (by kernel_rfl))⟩
 f78:=Tryz.func216.trans (congrArg some (by kernel_rfl))
 f79:=Tryz.func217.trans (congrArg some (by kernel_rfl))
 f88:=⟨Tryz.f253.name,by decide,Tryz.func253.trans (congrArg some (by kernel_rfl))⟩
 f89:=Tryz.func254.trans (congrArg some (by kernel_rfl))
 f90:=Tryz.func255.trans (congrArg some (by kernel_rfl))
 f91:=⟨Tryz.f256.name,by decide,Tryz.func256.trans (congrArg some (by kernel_rfl))⟩
 f92:=⟨Tryz.f257.name,by decide,Tryz.func257.trans (congrArg some (by kernel_rfl))⟩
 f96:=⟨Tryz.f272.name,by decide,Tryz.func272.trans (congrArg some (by kernel_rfl))⟩
 t0:=Tryz.underlying0
 a0:=Tryz.isAgg0
 z0:=Tryz.sizeOf0
 v0:=Tryz.zeroValue0
 t3:=Tryz.underlying3
 a3:=Tryz.isAgg3
 z3:=Tryz.sizeOf3
 v3:=Tryz.zeroValue3
 t4:=Tryz.underlying4
 a4:=Tryz.isAgg4
 z4:=Tryz.sizeOf4
 v4:=Tryz.zeroValue4
 t5:=Tryz.underlying5
 a5:=Tryz.isAgg5
 z5:=Tryz.sizeOf5
 v5:=Tryz.zeroValue5
 t9:=Tryz.underlying9
 a9:=Tryz.isAgg9
 z9:=Tryz.sizeOf9
 v9:=Tryz.zeroValue9
 t22:=Tryz.underlying26
 a22:=Tryz.isAgg26
 z22:=Tryz.sizeOf26
 v22:=Tryz.zeroValue26
 t23:=Tryz.underlying3
 a23:=Tryz.isAgg3
 z23:=Tryz.sizeOf3
 v23:=Tryz.zeroValue3
 t44:=Tryz.underlying154
 a44:=Tryz.isAgg154
 z44:=Tryz.sizeOf154
 v44:=Tryz.zeroValue154
 t51:=Tryz.underlying186
 a51:=Tryz.isAgg186
 z51:=Tryz.sizeOf186
 v51:=Tryz.zeroValue186
 t60:=Tryz.underlying277
 a60:=Tryz.isAgg277
 z60:=Tryz.sizeOf277
 v60:=Tryz.zeroValue277
 t61:=Tryz.underlying278
 a61:=Tryz.isAgg278
 z61:=Tryz.sizeOf278
 v61:=Tryz.zeroValue278
 t67:=Tryz.underlying284
 a67:=Tryz.isAgg284
 z67:=Tryz.sizeOf284
 v67:=Tryz.zeroValue284
 t69:=Tryz.underlying152
 a69:=Tryz.isAgg152
 z69:=Tryz.sizeOf152
 v69:=Tryz.zeroValue152
 t75:=Tryz.underlying306
 a75:=Tryz.isAgg306
 z75:=Tryz.sizeOf306
 v75:=Tryz.zeroValue306
 t79:=Tryz.underlying310
 a79:=Tryz.isAgg310
 z79:=Tryz.sizeOf310
 v79:=Tryz.zeroValue310
 t83:=Tryz.underlying320
 a83:=Tryz.isAgg320
 z83:=Tryz.sizeOf320
 v83:=Tryz.zeroValue320
 t84:=Tryz.underlying321
 a84:=Tryz.isAgg321
 z84:=Tryz.sizeOf321
 v84:=Tryz.zeroValue321 }
def ut:Go.Shelf.Ren:=⟨fun | 43=>84 | n=>n,fun | 22=>26 | 23=>3 | 3=>3 | 4=>4 | 0=>0 | n=>n,fun | n=>n⟩
theorem xM:Go.Proofs.SlLaysN.n43 Tryz.prog ut:={
 mixed:=by kernel_rfl
 f43:=⟨Tryz.f84.name,by decide,Tryz.func84.trans (congrArg some (by kernel_rfl))⟩
 t0:=Tryz.underlying0
 a0:=Tryz.isAgg0
 z0:=Tryz.sizeOf0
 v0:=Tryz.zeroValue0
 t3:=Tryz.underlying3
 a3:=Tryz.isAgg3
 z3:=Tryz.sizeOf3
 v3:=Tryz.zeroValue3
 t4:=Tryz.underlying4
 a4:=Tryz.isAgg4
 z4:=Tryz.sizeOf4
 v4:=Tryz.zeroValue4
 t22:=Tryz.underlying26
 a22:=Tryz.isAgg26
 z22:=Tryz.sizeOf26
 v22:=Tryz.zeroValue26
 t23:=Tryz.underlying3
 a23:=Tryz.isAgg3
 z23:=Tryz.sizeOf3
 v23:=Tryz.zeroValue3
 i23:=by kernel_rfl }
def tW:Go.Shelf.Ren:=⟨fun | 43=>261 | n=>n,fun | 22=>228 | 23=>3 | 3=>3 | 4=>4 | 0=>0 | n=>n,fun | n=>n⟩
theorem wk:Go.Proofs.SlLaysN.n43 Tryz.prog tW:={
 mixed:=by kernel_rfl
 f43:=⟨Tryz.f261.name,by decide,Tryz.func261.trans (congrArg some (by kernel_rfl))⟩
 t0:=Tryz.underlying0
 a0:=Tryz.isAgg0
 z0:=Tryz.sizeOf0
 v0:=Tryz.zeroValue0
 t3:=Tryz.underlying3
 a3:=Tryz.isAgg3
 z3:=Tryz.sizeOf3
 v3:=Tryz.zeroValue3
 t4:=Tryz.underlying4
 a4:=Tryz.isAgg4
 z4:=Tryz.sizeOf4
 v4:=Tryz.zeroValue4
 t22:=Tryz.underlying228
 a22:=Tryz.isAgg228
 z22:=Tryz.sizeOf228
 v22:=Tryz.zeroValue228
 t23:=Tryz.underlying3
 a23:=Tryz.isAgg3
 z23:=Tryz.sizeOf3
 v23:=Tryz.zeroValue3
 i23:=by kernel_rfl }
def akN:Go.Shelf.Ren:=⟨fun | 35=>86 | n=>n,fun | 22=>29 | 23=>31 | 3=>3 | 4=>4 | 0=>0 | n=>n,fun | n=>n⟩
theorem avt:Go.Proofs.SlLaysE0.n35 Tryz.prog akN:={
 mixed:=by kernel_rfl
 f35:=⟨Tryz.f86.name,by decide,Tryz.func86.trans (congrArg some (by kernel_rfl))⟩
 t0:=Tryz.underlying0
 a0:=Tryz.isAgg0
 z0:=Tryz.sizeOf0
 v0:=Tryz.zeroValue0
 t3:=Tryz.underlying3
 a3:=Tryz.isAgg3
 z3:=Tryz.sizeOf3
 v3:=Tryz.zeroValue3
 t4:=Tryz.underlying4
 a4:=Tryz.isAgg4
 z4:=Tryz.sizeOf4
 v4:=Tryz.zeroValue4
 t22:=Tryz.underlying29
 a22:=Tryz.isAgg29
 z22:=Tryz.sizeOf29
 v22:=Tryz.zeroValue29 }
def aix:Go.Shelf.Ren:=⟨fun | 10=>225 | 6=>262 | n=>n,fun | 22=>228 | 23=>3 | 25=>166 | 3=>3 | 4=>4 | 0=>0 | n=>n,fun | n=>n⟩
theorem auJ:Go.Proofs.SlLaysH.n10 Tryz.prog aix:={
 mixed:=by kernel_rfl
 f6:=⟨Tryz.f262.name,by decide,Tryz.func262.trans (congrArg some (by kernel_rfl))⟩
 f10:=⟨Tryz.f225.name,by decide,Tryz.func225.trans (congrArg some (by kernel_rfl))⟩
 t0:=Tryz.underlying0
 a0:=Tryz.isAgg0
 z0:=Tryz.sizeOf0
 v0:=Tryz.zeroValue0
 t3:=Tryz.underlying3
 a3:=Tryz.isAgg3
 z3:=Tryz.sizeOf3
 v3:=Tryz.zeroValue3
 t4:=Tryz.underlying4
 a4:=Tryz.isAgg4
 z4:=Tryz.sizeOf4
 v4:=Tryz.zeroValue4
 t22:=Tryz.underlying228
 a22:=Tryz.isAgg228
 z22:=Tryz.sizeOf228
 v22:=Tryz.zeroValue228
 a23:=Tryz.isAgg3
 z23:=Tryz.sizeOf3
 t25:=Tryz.underlying166
 a25:=Tryz.isAgg166
 z25:=Tryz.sizeOf166
 v25:=Tryz.zeroValue166 }
def afI:Go.Shelf.Ren:=⟨fun | 4=>226 | n=>n,fun | 22=>26 | 25=>3 | 3=>3 | 4=>4 | 9=>9 | 20=>20 | 0=>0 | n=>n,fun | n=>n⟩
theorem apH:Go.Proofs.Lays8.n4 Tryz.prog afI:={
 mixed:=by kernel_rfl
 f4:=⟨Tryz.f226.name,by decide,Tryz.func226.trans (congrArg some (by kernel_rfl))⟩
 t0:=Tryz.underlying0
 a0:=Tryz.isAgg0
 z0:=Tryz.sizeOf0
 v0:=Tryz.zeroValue0
 t3:=Tryz.underlying3
 a3:=Tryz.isAgg3
 z3:=Tryz.sizeOf3
 v3:=Tryz.zeroValue3
 t4:=Tryz.underlying4
 a4:=Tryz.isAgg4
 z4:=Tryz.sizeOf4
 v4:=Tryz.zeroValue4
 t9:=Tryz.underlying9
 a9:=Tryz.isAgg9
 z9:=Tryz.sizeOf9
 v9:=Tryz.zeroValue9
 t20:=Tryz.underlying20
 a20:=Tryz.isAgg20
 z20:=Tryz.sizeOf20
 v20:=Tryz.zeroValue20
 t22:=Tryz.underlying26
 a22:=Tryz.isAgg26
 z22:=Tryz.sizeOf26
 v22:=Tryz.zeroValue26 }
def aeY:Go.Shelf.Ren:=⟨fun | 4=>273 | n=>n,fun | 22=>228 | 25=>3 | 3=>3 | 4=>4 | 9=>9 | 20=>20 | 0=>0 | n=>n,fun | n=>n⟩
theorem apI:Go.Proofs.Lays8.n4 Tryz.prog aeY:={
 mixed:=by kernel_rfl
 f4:=⟨Tryz.f273.name,by decide,Tryz.func273.trans (congrArg some (by kernel_rfl))⟩
 t0:=Tryz.underlying0
 a0:=Tryz.isAgg0
 z0:=Tryz.sizeOf0
 v0:=Tryz.zeroValue0
 t3:=Tryz.underlying3
 a3:=Tryz.isAgg3
 z3:=Tryz.sizeOf3
 v3:=Tryz.zeroValue3
 t4:=Tryz.underlying4
 a4:=Tryz.isAgg4
 z4:=Tryz.sizeOf4
 v4:=Tryz.zeroValue4
 t9:=Tryz.underlying9
 a9:=Tryz.isAgg9
 z9:=Tryz.sizeOf9
 v9:=Tryz.zeroValue9
 t20:=Tryz.underlying20
 a20:=Tryz.isAgg20
 z20:=Tryz.sizeOf20
 v20:=Tryz.zeroValue20
 t22:=Tryz.underlying228
 a22:=Tryz.isAgg228
 z22:=Tryz.sizeOf228
 v22:=Tryz.zeroValue228 }
end Go.Val
namespace Go.Proofs.IR
open Go.Shelf Go.RowKit Go.Lib Go.Sort Go.Val
set_option maxRecDepth 100000
def encR (x:ak):List Value:=[.int .i64 x.Low,.int .i64 x.High]
set_option maxHeartbeats 1000000 in
theorem aeM (x y:ak) (W:World):Calls Tryz.prog 146 #[.agg #[.int .i64 x.Low,.int .i64 x.High],.agg #[.int .i64 y.Low,.int .i64 y.High]] W fun e w'=>e= .returned (.int .i64 (Lib.compareInt x.Low y.Low))∧∃ q os',w'=Sort.grow (W.drewN q) os':=by
 have hcon:=fun W'=>AnyG.cmp_Compare_int aul x.Low y.Low W'
 change ∀ W',Calls Tryz.prog 147 _ _ _ at hcon
 generalize Lib.compareInt x.Low y.Low=r at hcon ⊢
 go_enter Tryz.func146,Tryz.ntmps146
 go_wp2_with (go_at_call 147;refine (hcon _).mono ?_;rintro e w' ⟨rfl,rfl⟩)
 go_ret
 exact ⟨rfl,0,_,by rw[alloc_eq_grow,alloc_eq_grow,grow_grow];rfl⟩
theorem aha (blk off size:Nat) (w:World):CmpLays Tryz.prog 146 #[] encR 2 (fun x y=>Lib.compareInt x.Low y.Low) blk off size w:=
 fun _ _ _ _ x y=>aeM x y _
theorem auI:ltOf (fun x y:ak=>Lib.compareInt x.Low y.Low)=ltR:=by
 funext x y
 unfold ltOf Lib.compareInt ltR
 by_cases h1:x.Low < y.Low
 ·simp[h1]
 ·by_cases h2:y.Low < x.Low <;> simp[h1,h2]
theorem swoR:SWO ltR where
 irrefl x:=by simp[ltR]
 trans x y z h1 h2:=by simp[ltR]at*;omega
 ntrans x y z h1 h2:=by simp[ltR]at*;omega
theorem ky {α:Type} [Inhabited α] (enc:α→Value) (d:Array α) (arr:Array Value) (h:d.size≤arr.size):(putCells enc 0 d arr).toList.take d.size=d.toList.map enc:=by
 apply List.ext_getElem?
 intro j
 rw[List.getElem?_take]
 by_cases hj:j < d.size
 ·rw[if_pos hj]
  have hja:j < arr.size:=by omega
  simp only[Array.getElem?_toList,putCells,Array.getElem?_mapIdx,Array.getElem?_eq_getElem hja,Option.map_some,Nat.zero_le,true_and,Nat.sub_zero]
  rw[if_pos (by omega),List.getElem?_map,Array.getElem?_toList,Array.getElem?_eq_getElem hj,Option.map_some]
  rw[getElem!_pos d j hj]
 ·rw[if_neg hj,List.getElem?_eq_none (by simp;omega)]
variable {w w':World} {G:Gh}
theorem uT {α:Type} [Inhabited α] {enc:α→Value} {d:Array α} {b:Nat} {arr:Array Value} {k:TypeId} {os:Array Obj} (h3:w.heap[b]? =some (.cells arr k (0,0))) (hh:w'.heap=w.heap.modify b (onCells (putCells enc 0 d))++os):
  w'.heap[b]? =some (.cells (putCells enc 0 d arr) k (0,0))∧w.heap.size≤w'.heap.size∧∀ b',b' < w.heap.size→b'≠b→w'.heap[b']? =w.heap[b']? :=by
 have hb:=fQ h3
 refine ⟨?_,by rw[hh];simp,fun b' hb' hne=>?_⟩
 ·rw[hh,Array.getElem?_append,if_pos (by simpa using hb),Array.getElem?_modify,if_pos rfl,h3];rfl
 ·rw[hh,Array.getElem?_append,if_pos (by simpa using hb'),Array.getElem?_modify,if_neg (Ne.symm hne)]
def al4 (g:FuncId) (ds:List DVal) (k:TypeId) (zs ys:List DVal):Prop:=Val.Enters CT.P g∧
 ∀ (w:World) (G:Gh) (t:Tag) (v:Value) (vs:List Value),G.P=CT.P→bE w G t k zs v→bD w G ds vs→
  Calls CT.P g (v::vs).toArray w fun e w'=>e= .returned (.tuple #[])∧w'.os=w.os∧w'.tape=w.tape∧w'.output=w.output∧w.heap.size≤w'.heap.size∧
   ((zs=[]∧ys=[]∧∀ b,b < w.heap.size→w'.heap[b]? =w.heap[b]?)∨
    zs≠[]∧∃ b cap arr arr',v= .slice (some ⟨b,0,none⟩) zs.length cap∧w.heap[b]? =some (.cells arr k (0,0))∧w'.heap[b]? =some (.cells arr' k (0,0))∧arr'.size=arr.size∧ys.length=zs.length∧
     (∀ y∈ys,y.cells.length=CT.P.cellsOf k)∧bD w G (aV ys) (arr'.toList.take (ys.length*CT.P.cellsOf k))∧∀ b',b' < w.heap.size→b'≠b→w'.heap[b']? =w.heap[b']?)
theorem ur {g:FuncId} {ds:List DVal} {k:TypeId} {zs ys:List DVal} {c:Nat} (hE:Val.Enters CT.P g) (hc:CT.P.cellsOf k=c) (hzl:zs.length≤140737488355328) (hyl:ys.length=zs.length) (hyc:∀ y∈ys,y.cells.length=c)
  (hnone:zs=[]→∀ (w:World) (G:Gh) (vs:List Value),bD w G ds vs→∀ (p:Option Addr) (cap:Nat),Calls CT.P g (.slice p 0 cap::vs).toArray w fun e w'=>e= .returned (.tuple #[])∧w'=w)
  (hsome:zs≠[]→∀ (w:World) (G:Gh) (vs:List Value) (b cap:Nat) (arr:Array Value),G.P=CT.P→bD w G ds vs→w.heap[b]? =some (.cells arr k (0,0))→zs.length*c≤arr.size→zs.length≤cap→bD w G (aV zs) (arr.toList.take (zs.length*c))→
   Calls CT.P g (.slice (some ⟨b,0,none⟩) zs.length cap::vs).toArray w fun e w'=>e= .returned (.tuple #[])∧w'.os=w.os∧w'.tape=w.tape∧w'.output=w.output∧∃ (us:List Value) (os:Array Obj) (arr':Array Value),bD w G (aV ys) us∧us.length=ys.length*c∧arr'.size=arr.size∧arr'.toList.take us.length=us∧
    w'.heap[b]? =some (.cells arr' k (0,0))∧w.heap.size≤w'.heap.size∧∀ b',b' < w.heap.size→b'≠b→w'.heap[b']? =w.heap[b']?):
  al4 g ds k zs ys:=by
 refine ⟨hE,fun w G t v vs hP hrow hvs=>?_⟩
 by_cases hl:zs=[]
 ·obtain ⟨p,cap,rfl⟩:∃ p cap,v= .slice p 0 cap:=by
   rcases hrow with ⟨_,a,e⟩ | ⟨b,cap,arr,e,_⟩
   ·exact ⟨a,0,e⟩
   ·rw[hl]at e;exact ⟨_,cap,e⟩
  refine (hnone hl w G vs hvs p cap).mono fun e w' ⟨h1,h2⟩=>?_
  subst h2
  exact ⟨h1,rfl,rfl,rfl,Nat.le_refl _,Or.inl ⟨hl,List.length_eq_zero_iff.1 (by rw[hyl,hl];rfl),fun _ _=>rfl⟩⟩
 ·rcases hrow with ⟨h0,_⟩ | ⟨b,cap,arr,rfl,h2,h3,h4,h5,h6,h7,h8⟩
  ·exact absurd h0 hl
  ·have hcell:G.P.cellsOf k=c:=by rw[hP];exact hc
   rw[hcell]at h4 h8
   have hle:zs.length*c≤arr.size:=by rw[h4];exact Nat.mul_le_mul_right _ h5
   refine (hsome hl w G vs b cap arr hP hvs h3 hle h5 h8).mono fun e w' ⟨he,i1,i2,i3,us,os,arr',j1,j2,j3,j4,j5,j6,j7⟩=>?_
   refine ⟨he,i1,i2,i3,j6,.inr ⟨hl,b,cap,arr,arr',rfl,h3,j5,j3,hyl,fun y hy=>by rw[hc];exact hyc y hy,?_,j7⟩⟩
   rw[hc,← j2,j4];exact j1
theorem al2:∀ {l:List ak} {vs:List Value},bD w G (aV (l.map bb)) vs→vs=l.flatMap encR
 | [],vs,h=>by
  have h':bD w G [] vs:=h
  cases h';rfl
 | a::l,vs,h=>by
  have h':bD w G (.int .i64 a.Low:: .int .i64 a.High::aV (l.map bb)) vs:=h
  cases h' with
  | cons _ v _ vs _ h1 h2=>
   cases h2 with
   | cons _ v2 _ vs2 _ h3 h4=>
    cases h1;cases h3
    rw[al2 h4];rfl
theorem apK:∀ (l:List ak),bD w G (aV (l.map bb)) (l.flatMap encR)
 | []=>.nil
 | a::l=>.cons _ _ _ _ rfl (.int _ _) (.cons _ _ _ _ rfl (.int _ _) (apK l))
theorem pT:∀ (l:List ak),(l.flatMap encR).length=l.length*2
 | []=>rfl
 | a::l=>by simp only[List.flatMap_cons,List.length_append,pT l,List.length_cons,encR];simp;omega
theorem oJ {α:Type} [Inhabited α] {enc:α→List Value} {k:Nat} (hk:∀ x,(enc x).length=k) (h0:0 < k):∀ (l:List α),(flatK enc k l.toArray).toList=l.flatMap enc:=by
 intro l
 apply List.ext_getElem?
 intro t
 have hlen:(l.flatMap enc).length=l.length*k:=by
  induction l with
  | nil=>simp
  | cons a l ih=>rw[List.flatMap_cons,List.length_append,hk,ih,List.length_cons,Nat.succ_mul];omega
 by_cases ht:t < l.length*k
 ·have h1:(flatK enc k l.toArray).toList[t]? =some ((flatK enc k l.toArray)[t]!):=by
   have hs:t < (flatK enc k l.toArray).size:=by simpa using ht
   rw[Array.getElem?_toList,Array.getElem?_eq_getElem hs,getElem!_pos _ t hs]
  rw[h1,get_flatK _ _ _ _ (by simpa using ht)]
  clear h1
  induction l generalizing t with
  | nil=>simp at ht
  | cons a l ih=>
   rw[List.flatMap_cons]
   by_cases h:t < k
   ·have e1:t/k=0:=Nat.div_eq_of_lt h
    have e2:t%k=t:=Nat.mod_eq_of_lt h
    have e3:(a::l).toArray[0]! =a:=by simp
    rw[e1,e2,e3,List.getElem?_append_left (by rw[hk];exact h),List.getElem?_eq_getElem (by rw[hk];exact h),getElem!_pos _ t (by rw[hk];exact h)]
   ·rw[List.getElem?_append_right (by rw[hk];omega),hk]
    have e1:t/k=(t - k)/k+1:=by
     rw[← Nat.add_div_right _ h0];congr 1;omega
    have e2:t%k=(t - k)%k:=by
     conv=>lhs;rw[show t=(t - k)+k by omega]
     rw[Nat.add_mod_right]
    have e3:(a::l).toArray[(t - k)/k+1]! =l.toArray[(t - k)/k]! :=by simp[Array.getElem!_eq_getD,Array.getD_eq_getD_getElem?]
    rw[e1,e2,e3]
    have hlen':(l.flatMap enc).length=l.length*k:=by
     rw[List.flatMap_cons,List.length_append,hk,List.length_cons,Nat.succ_mul]at hlen;omega
    exact ih (t - k) hlen' (by rw[List.length_cons,Nat.succ_mul]at ht;omega)
 ·rw[List.getElem?_eq_none (by simpa using ht),List.getElem?_eq_none (by omega)]
theorem xQ {α:Type} [Inhabited α] {enc:α→List Value} {k:Nat} {ty:TypeId} (hk:∀ x,(enc x).length=k) (h0:0 < k) {b:Nat} {arr:Array Value} {l:List α} (h3:w.heap[b]? =some (.cells arr ty (0,0))) (hv:arr.toList.take (l.length*k)=l.flatMap enc) (hle:l.length*k≤arr.size):HoldsK enc k w b 0 l.toArray:=fun j hj=>by
 have hj':j < l.length*k:=by simpa using hj
 refine ⟨?_,by simp[World.frozen?,h3]⟩
 simp only[World.cell?,h3,Nat.zero_add]
 have h1:(flatK enc k l.toArray).toList[j]? =some ((flatK enc k l.toArray)[j]!):=by
  rw[Array.getElem?_toList,Array.getElem?_eq_getElem hj,getElem!_pos _ j hj]
 rw[oJ hk h0,← hv,List.getElem?_take,if_pos hj',Array.getElem?_toList]at h1
 exact h1
theorem sx {α:Type} [Inhabited α] {enc:α→List Value} {k:Nat} (hk:∀ x,(enc x).length=k) (h0:0 < k) (d:List α) (arr:Array Value) (hle:d.length*k≤arr.size):(putCells id 0 (flatK enc k d.toArray) arr).toList.take (d.flatMap enc).length=d.flatMap enc:=by
 have h:=ky id (flatK enc k d.toArray) arr (by simpa using hle)
 have hs:(flatK enc k d.toArray).size=(d.flatMap enc).length:=by rw[← oJ hk h0];simp
 rw[hs,List.map_id,oJ hk h0]at h
 exact h
theorem afY {l l':List ak} (hs:abD l=some l'):al4 145 [.fn 146 [] []] 147 (l.map bb) (l'.map bb):=by
 unfold abD at hs
 split at hs
 case isFalse=>cases hs
 rename_i hlen
 have hro:dn=140737488355328:=rfl
 obtain rfl:=Option.some.inj hs
 clear hs
 have hp:=(pdq_sorts ltR swoR l.toArray 0 l.length (Lib.bitLen l.length) true true (Nat.zero_le _) (by simp) (Or.inl rfl)).1.1
 have hvs':∀ {w:World} {G:Gh} {vs:List Value},bD w G [.fn 146 [] []] vs→vs=[.func (.func 146) #[] #[]]:=fun {w G vs} hvs=>by
  cases hvs with
  | cons _ v _ vs _ h1 h2=>
   cases h2
   cases h1 with
   | fn _ _ _ us vs k1 k2=>
    have e1:us= #[]:=by
     cases hu:us.toList with
     | nil=>exact Array.toList_inj.1 hu
     | cons u l=>rw[hu]at k1;cases k1
    have e2:vs= #[]:=by
     cases hu:vs.toList with
     | nil=>exact Array.toList_inj.1 hu
     | cons u l=>rw[hu]at k2;cases k2
    rw[e1,e2]
 have hps:(pdq ltR l.toArray 0 l.length (Lib.bitLen l.length) true true).size=l.length:=by simpa using hp
 refine ur (c:=2) ⟨Tryz.f145,_,Tryz.func145,rfl,by kernel_rfl⟩ (by kernel_rfl) (by simp;omega) (by simpa using hps) (fun y hy=>by obtain ⟨x,_,rfl⟩:=List.mem_map.1 hy;rfl) ?_ ?_
 ·intro hz w G vs hvs p cap
  rw[hvs' hvs]
  exact AnyF.slices_SortFunc_none apO p cap _ w
 ·intro hz w G vs b cap arr hP hvs h3 hle hcap hrel
  rw[hvs' hvs]
  have hlm:(l.map bb).length=l.length:=by simp
  rw[hlm]at hle hcap hrel ⊢
  have hvals:=al2 hrel
  have hH:HoldsK encR 2 w b 0 l.toArray:=xQ (k:=2) (fun _=>rfl) (by decide) h3 hvals hle
  have eg:∀ args w,(callFunc 146 args).run Tryz.prog w= .ok (.enter 146 args) w:=enters_of Tryz.func146 (by kernel_rfl) rfl
  have hcon:=AnyQ.slices_SortFunc_eq apO 2 Tryz.isAgg147 Tryz.sizeOf147 encR (fun _=>rfl) (fun x v hv=>by simp[encR]at hv;rcases hv with rfl | rfl <;> rfl) (fun x y=>Lib.compareInt x.Low y.Low) (by rw[auI];exact swoR) 146 #[] b 0 cap l.toArray w eg (aha b 0 _ w) hH (fQ h3) (by simp;omega)
  rw[auI,List.size_toArray]at hcon
  change Calls Tryz.prog 145 _ _ _ at hcon
  refine Calls.mono (P:=Tryz.prog) hcon fun e w' ⟨he,n,os,hw⟩=>?_
  generalize pdq ltR l.toArray 0 l.length (Lib.bitLen l.length) true true=d' at hps hw ⊢
  have hheap:w'.heap=(w.heap.modify b (onCells (putCells id 0 (flatK encR 2 d'))))++os:=by rw[hw];rfl
  have hdl:d'.toList.length=l.length:=by simpa using hps
  have hpt:=sx (enc:=encR) (k:=2) (fun _=>rfl) (by decide) d'.toList arr (by rw[hdl];exact hle)
  refine ⟨he,by rw[hw];rfl,by rw[hw];rfl,by rw[hw];rfl,d'.toList.flatMap encR,os,_,apK _,by rw[pT];simp,by simp[putCells],hpt,uT h3 hheap⟩
end Go.Proofs.IR
namespace Go.Proofs.IR
open Go.Shelf Go.RowKit Go.Lib Go.Sort Go.Val
set_option maxRecDepth 100000
variable {w w':World} {G:Gh}
theorem pO:∀ {l:List Int} {vs:List Value},bD w G (aV (l.map eI)) vs→vs=l.map (Value.int .i64)
 | [],vs,h=>by
  have h':bD w G [] vs:=h
  cases h';rfl
 | a::l,vs,h=>by
  have h':bD w G (.int .i64 a::aV (l.map eI)) vs:=h
  cases h' with
  | cons _ v _ vs _ h1 h2=>
   cases h1
   rw[pO h2];rfl
theorem ab7:∀ (l:List Int),bD w G (aV (l.map eI)) (l.map (Value.int .i64))
 | []=>.nil
 | a::l=>.cons _ _ _ _ rfl (.int _ _) (ab7 l)
theorem wu {b:Nat} {arr:Array Value} {ty:TypeId} {l:List Int} (h3:w.heap[b]? =some (.cells arr ty (0,0))) (hv:arr.toList.take l.length=l.map (Value.int .i64)):Go.Sort.Holds (Value.int .i64) w b 0 l.toArray:=fun j hj=>by
 have hj':j < l.length:=by simpa using hj
 refine ⟨?_,by simp[World.frozen?,h3]⟩
 simp only[World.cell?,h3,Nat.zero_add]
 have h1:(arr.toList.take l.length)[j]? =some (Value.int .i64 l[j]):=by rw[hv];simp[hj']
 rw[List.getElem?_take,if_pos hj',Array.getElem?_toList]at h1
 rw[h1]
 simp[hj']
theorem ag1 (p:Option Addr) (cap:Nat) (w:World):Calls Tryz.prog 260 #[.slice p 0 cap] w fun e w'=>e= .returned (.tuple #[])∧w'=w:=by
 have hlen:∀ w,Calls Tryz.prog 152 #[.int .u64 0] w fun e w'=>e= .returned (.int .i64 0)∧w'=w:=fun w=>calls_of_every_depth fun D=>AnySG.bits_LenIn { sR with } D 0 w (by omega) (by omega)
 have hpdq:∀ w,Calls Tryz.prog 151 #[.slice p 0 cap,.int .i64 0,.int .i64 0,.int .i64 0] w fun e w'=>e= .returned (.tuple #[])∧w'=w:=fun w=>calls_of_every_depth fun D=>AnySG.pdqsort_int_none_in { sR with } D p cap w
 have e1:∀ args w,(callFunc 152 args).run Tryz.prog w= .ok (.enter 152 args) w:=enters_of Tryz.func152 (by kernel_rfl) rfl
 have e2:∀ args w,(callFunc 151 args).run Tryz.prog w= .ok (.enter 151 args) w:=enters_of Tryz.func151 (by kernel_rfl) rfl
 go_enter Tryz.func260,Tryz.ntmps260
 go_wp2_with (first
  | (go_at_call 152;refine (hlen _).mono ?_;rintro e w' ⟨rfl,rfl⟩)
  | (go_at_call 151;refine (hpdq _).mono ?_;rintro e w' ⟨rfl,rfl⟩))
 go_end0
 exact ⟨rfl,rfl⟩
theorem aft (b cap:Nat) (l:List Int) (w:World) (hH:Go.Sort.Holds (Value.int .i64) w b 0 l.toArray) (hb:b < w.heap.size) (hsz:l.length < 4611686018427387904):
  Calls Tryz.prog 260 #[.slice (some ⟨b,0,none⟩) l.length cap] w fun e w'=>e= .returned (.tuple #[])∧∃ n os,w'=grow (putRow (Value.int .i64) (Sort.ahead w n) b 0 (l.mergeSort fun x y=>decide (x≤y)).toArray) os:=by
 have hk:bitsLen l.length≤62:=(bitsLen_le_iff l.length 62).2 (by omega)
 have hdp:=pdqDepth_le_59 ltInt l.toArray 0 l.length (bitsLen l.length) true true (by simp;omega)
 have hlen:∀ w,Calls Tryz.prog 152 #[.int .u64 (l.length:Int)] w fun e w'=>e= .returned (.int .i64 (bitsLen l.length:Nat))∧w'=w:=fun w=>calls_of_every_depth fun D=>lenWalkInAllG { sR with } D l.length w hsz
 have hpdq:Calls Tryz.prog 151 #[.slice (some ⟨b,0,none⟩) l.toArray.size cap,.int .i64 ((0:Nat):Int),.int .i64 (l.length:Int),.int .i64 (bitsLen l.length:Nat)] w fun e w'=>e= .returned (.tuple #[])∧∃ n os,w'=grow (putRow (Value.int .i64) (Sort.ahead w n) b 0 (Sort.pdq ltInt l.toArray 0 l.length (bitsLen l.length) true true)) os:=
  calls_of_every_depth fun D=>pdqWalkInIntG { sR with } D 65 b 0 cap 0 l.length (bitsLen l.length) l.toArray w (by omega) hH hb (Nat.zero_le _) (by simp) (by simpa using hsz) (by omega) (Or.inl rfl)
 have hms:Sort.pdq ltInt l.toArray 0 l.length (bitsLen l.length) true true=(l.mergeSort fun x y=>decide (x≤y)).toArray:=by
  rw[← sort_int_eqDG];unfold Sort.sort;simp
 rw[hms,List.size_toArray]at hpdq
 generalize (l.mergeSort fun x y=>decide (x≤y)).toArray=d at hpdq ⊢
 generalize bitsLen l.length=bl at hlen hpdq hk
 clear hms hdp hH
 have e1:∀ args w,(callFunc 152 args).run Tryz.prog w= .ok (.enter 152 args) w:=enters_of Tryz.func152 (by kernel_rfl) rfl
 have e2:∀ args w,(callFunc 151 args).run Tryz.prog w= .ok (.enter 151 args) w:=enters_of Tryz.func151 (by kernel_rfl) rfl
 go_enter Tryz.func260,Tryz.ntmps260
 go_wp2_with (first
  | (go_at_call 152;refine (hlen _).mono ?_;rintro e w' ⟨rfl,rfl⟩)
  | (go_at_call 151;refine hpdq.mono ?_;rintro e w' ⟨rfl,n,os,rfl⟩))
 go_end0
 exact ⟨rfl,n,os,rfl⟩
theorem adt {g:FuncId} {l l':List Int} (hs:rK l=some l') (hE:Val.Enters CT.P g) (hnone:∀ (p:Option Addr) (cap:Nat) (w:World),Calls Tryz.prog g #[.slice p 0 cap] w fun e w'=>e= .returned (.tuple #[])∧w'=w)
  (hsome:∀ (b cap:Nat) (l:List Int) (w:World),Go.Sort.Holds (Value.int .i64) w b 0 l.toArray→b < w.heap.size→l.length < 4611686018427387904→
   Calls Tryz.prog g #[.slice (some ⟨b,0,none⟩) l.length cap] w fun e w'=>e= .returned (.tuple #[])∧∃ n os,w'=grow (putRow (Value.int .i64) (Sort.ahead w n) b 0 (l.mergeSort fun x y=>decide (x≤y)).toArray) os):al4 g [] 3 (l.map eI) (l'.map eI):=by
 unfold rK at hs
 split at hs
 case isFalse=>cases hs
 rename_i hlen
 have hro:dn=140737488355328:=rfl
 have hs':=Option.some.inj hs
 clear hs
 have hlen':l'.length=l.length:=by rw[← hs',List.length_mergeSort]
 have hnil:∀ {w:World} {G:Gh} {vs:List Value},bD w G [] vs→vs=[]:=fun {w G vs} h=>by cases h;rfl
 refine ur (c:=1) hE (by kernel_rfl) (by simp;omega) (by simpa using hlen') (fun y hy=>by obtain ⟨x,_,rfl⟩:=List.mem_map.1 hy;rfl) ?_ ?_
 ·intro hz w G vs hvs p cap
  rw[hnil hvs]
  exact hnone p cap w
 ·intro hz w G vs b cap arr hP hvs h3 hle hcap hrel
  rw[hnil hvs]
  have hlm:(l.map eI).length=l.length:=by simp
  rw[hlm]at hle hcap hrel ⊢
  rw[Nat.mul_one]at hle hrel
  have hvals:=pO hrel
  have hcon:=hsome b cap l w (wu h3 hvals) (fQ h3) (by omega)
  rw[hs']at hcon
  refine Calls.mono (P:=Tryz.prog) hcon fun e w' ⟨he,n,os,hw⟩=>?_
  have hheap:w'.heap=(w.heap.modify b (onCells (putCells (Value.int .i64) 0 l'.toArray)))++os:=by rw[hw];rfl
  have hpt:=ky (Value.int .i64) l'.toArray arr (by simp;omega)
  refine ⟨he,by rw[hw];rfl,by rw[hw];rfl,by rw[hw];rfl,l'.map (Value.int .i64),os,_,ab7 _,by simp,by simp[putCells],?_,uT h3 hheap⟩
  simpa using hpt
inductive All2 {α β:Type} (R:α→β→Prop):List α→List β→Prop
 | nil:All2 R [] []
 | cons {a:α} {b:β} {l:List α} {m:List β}:R a b→All2 R l m→All2 R (a::l) (b::m)
abbrev V1:={ v:Value // v.oneCell'=true }
instance:Inhabited V1:=⟨⟨.int .i64 0,rfl⟩⟩
def enc3 (x:V1×V1×V1):List Value:=[x.1.1,x.2.1.1,x.2.2.1]
def au3 (w:World) (G:Gh) (n:aE) (x:V1×V1×V1):Prop:=bD w G (bL n).cells (enc3 x)
theorem xL:∀ {l:List aE} {vs:List Value},bD w G (aV (l.map bL)) vs→∃ xs:List (V1×V1×V1),vs=xs.flatMap enc3∧All2 (au3 w G) l xs
 | [],vs,h=>by
  have h':bD w G [] vs:=h
  cases h';exact ⟨[],rfl,.nil⟩
 | a::l,vs,h=>by
  have e:aV ((a::l).map bL)= .int .i64 a.Kind:: .int .i64 a.Set:: .sl (a.Kids.map bL)::aV (l.map bL):=by
   show (bL a).cells++aV (l.map bL)=_
   rw[show bL a=bL ⟨a.Kind,a.Set,a.Kids⟩ by cases a;rfl,kf];rfl
  rw[e]at h
  cases h with
  | cons _ v1 _ vs o1 h1 k1=>
   cases k1 with
   | cons _ v2 _ vs o2 h2 k2=>
    cases k2 with
    | cons _ v3 _ vs o3 h3 k3=>
     obtain ⟨xs,rfl,h4⟩:=xL k3
     refine ⟨(⟨v1,h1.oneV o1⟩,⟨v2,h2.oneV o2⟩,⟨v3,h3.oneV o3⟩)::xs,rfl,.cons ?_ h4⟩
     show bD w G (bL a).cells [v1,v2,v3]
     rw[show bL a=bL ⟨a.Kind,a.Set,a.Kids⟩ by cases a;rfl,kf]
     exact .cons _ _ _ _ o1 h1 (.cons _ _ _ _ o2 h2 (.cons _ _ _ _ o3 h3 .nil))
theorem wV:∀ {a:List DVal} {u:List Value} {b:List DVal} {v:List Value},bD w G a u→bD w G b v→bD w G (a++b) (u++v)
 | _,_,_,_,.nil,h=>h
 | _,_,_,_,.cons d x ds xs o h1 h2,h=>.cons d x _ _ o h1 (wV h2 h)
theorem sr:∀ {l:List aE} {xs:List (V1×V1×V1)},All2 (au3 w G) l xs→bD w G (aV (l.map bL)) (xs.flatMap enc3)
 | _,_,.nil=>.nil
 | a::l,x::xs,.cons h1 h2=>by
  rw[List.flatMap_cons]
  show bD w G ((bL a).cells++aV (l.map bL)) _
  exact wV h1 (sr h2)
theorem amf {α β:Type} {R:α→β→Prop}:∀ {l:List α} {m:List β},All2 R l m→l.length=m.length
 | _,_,.nil=>rfl
 | _,_,.cons _ h=>by simp[amf h]
theorem ajW {α β:Type} {R:α→β→Prop}:∀ {l:List α} {m:List β} {a:List α} {b:List β},All2 R l m→All2 R a b→All2 R (l++a) (m++b)
 | _,_,_,_,.nil,h=>h
 | _,_,_,_,.cons h1 h2,h=>.cons h1 (ajW h2 h)
theorem aio {α β:Type} {R:α→β→Prop}:∀ {l:List α} {m:List β},All2 R l m→All2 R l.reverse m.reverse
 | _,_,.nil=>.nil
 | a::l,b::m,.cons h1 h2=>by rw[List.reverse_cons,List.reverse_cons];exact ajW (aio h2) (.cons h1 .nil)
theorem wa:∀ (l:List (V1×V1×V1)),(l.flatMap enc3).length=l.length*3
 | []=>rfl
 | a::l=>by simp only[List.flatMap_cons,List.length_append,wa l,List.length_cons,enc3];simp;omega
theorem ahV {l l':List aE} (hs:revN l=some l'):al4 86 [] 31 (l.map bL) (l'.map bL):=by
 unfold revN at hs
 split at hs
 case isFalse=>cases hs
 rename_i hlen
 have hro:dn=140737488355328:=rfl
 obtain rfl:=Option.some.inj hs
 have hnil:∀ {w:World} {G:Gh} {vs:List Value},bD w G [] vs→vs=[]:=fun {w G vs} h=>by cases h;rfl
 refine ur (c:=3) ⟨Tryz.f86,_,Tryz.func86,rfl,by kernel_rfl⟩ (by kernel_rfl) (by simp;omega) (by simp) (fun y hy=>by
  obtain ⟨x,_,rfl⟩:=List.mem_map.1 hy
  rw[show bL x=bL ⟨x.Kind,x.Set,x.Kids⟩ by cases x;rfl,kf];rfl) ?_ ?_
 ·intro hz w G vs hvs p cap
  rw[hnil hvs]
  exact AnyQ.slices_Reverse_empty avt p cap w
 ·intro hz w G vs b cap arr hP hvs h3 hle hcap hrel
  rw[hnil hvs]
  have hlm:(l.map bL).length=l.length:=by simp
  rw[hlm]at hle hcap hrel ⊢
  obtain ⟨xs,hxs,hfa⟩:=xL hrel
  have hxl:=amf hfa
  rw[hxl]at hxs hle ⊢
  have hH:HoldsK enc3 3 w b 0 xs.toArray:=xQ (k:=3) (fun _=>rfl) (by decide) h3 hxs hle
  have hcon:=AnyQ.slices_Reverse avt 3 Tryz.isAgg31 Tryz.sizeOf31 enc3 (fun _=>rfl) (fun x v hv=>by
   simp only[enc3,List.mem_cons,List.not_mem_nil,or_false]at hv
   rcases hv with rfl | rfl | rfl
   ·exact x.1.2
   ·exact x.2.1.2
   ·exact x.2.2.2) b 0 cap xs.toArray w hH (by simp;omega)
  rw[List.size_toArray]at hcon
  change Calls Tryz.prog 86 _ _ _ at hcon
  refine Calls.mono (P:=Tryz.prog) hcon fun e w' ⟨he,n,hw⟩=>?_
  have hr:xs.toArray.reverse=xs.reverse.toArray:=by simp
  rw[hr]at hw
  have hheap:w'.heap=(w.heap.modify b (onCells (putCells id 0 (flatK enc3 3 xs.reverse.toArray))))++ #[]:=by rw[hw,Array.append_empty];rfl
  have hpt:=sx (enc:=enc3) (k:=3) (fun _=>rfl) (by decide) xs.reverse arr (by simpa using hle)
  refine ⟨he,by rw[hw];rfl,by rw[hw];rfl,by rw[hw];rfl,xs.reverse.flatMap enc3,#[],_,sr (aio hfa),by rw[wa];simp[hxl],by simp[putCells],hpt,uT h3 hheap⟩
theorem ava:∀ g ds k zs ys,CT.ext g ds k zs=some ys→al4 g ds k zs ys:=by
 intro g ds k zs ys he
 have he':extR g ds k zs=some ys:=he
 unfold extR at he'
 split at he'
 ·rename_i hc
  obtain ⟨rfl,rfl,rfl⟩:=hc
  obtain ⟨l,l',rfl,hs,rfl⟩:=oL he'
  exact afY hs
 ·split at he'
  ·rename_i hc
   obtain ⟨hg,rfl,rfl⟩:=hc
   obtain ⟨l,l',rfl,hs,rfl⟩:=oL he'
   rcases hg with rfl | rfl
   ·exact adt hs ⟨Tryz.f83,_,Tryz.func83,rfl,by kernel_rfl⟩ (fun p cap w=>AnyG.slices_Sort_int_none sR p cap w) (fun b cap l w h1 h2 h3=>calls_of_every_depth fun D=>AnySG.slices_Sort_int_in sR D b 0 cap l w h1 h2 h3)
   ·exact adt hs ⟨Tryz.f260,_,Tryz.func260,rfl,by kernel_rfl⟩ ag1 aft
  ·split at he'
   ·rename_i hc
    obtain ⟨rfl,rfl,rfl⟩:=hc
    obtain ⟨l,l',rfl,hs,rfl⟩:=oL he'
    exact ahV hs
   ·cases he'
end Go.Proofs.IR
namespace Go.Proofs.IR
open Go.Shelf Go.RowKit Go.Lib Go.Sort Go.Val
set_option maxRecDepth 100000
theorem qN (l:List Int):(Lib.compact l).length≤l.length:=by
 unfold Lib.compact Lib.compactUpTo
 rw[List.length_map]
 exact Nat.le_trans (List.length_filter_le _ _) (by simp)
theorem ye {w:World} {G:Gh} {h:Heap} {v:Value} {l u:List Int} {f:FuncId} {args:Array Value} (hlen:l.length≤dn) (hul:u.length≤l.length) (hrow:bE w G (.slot 0) 3 (l.map eI) v) (hP:G.P=CT.P) (hh:RelH w G h)
  (hnone:∀ (p:Option Addr) (cap:Nat),l=[]→v= .slice p 0 cap→Calls Tryz.prog f args w fun e w'=>e= .returned v∧w'=w)
  (hsome:∀ (b cap:Nat) (arr:Array Value),l≠[]→v= .slice (some ⟨b,0,none⟩) l.length cap→G.g b= .slot 0→w.heap[b]? =some (.cells arr 3 (0,0))→l.length≤arr.size→Go.Sort.Holds (Value.int .i64) w b 0 l.toArray→l.length≤cap→
   Calls Tryz.prog f args w fun e w'=>e= .returned (.slice (some ⟨b,0,none⟩) u.length cap)∧∃ q,w'=putRow (Value.int .i64) (Sort.ahead w q) b 0 (u++List.replicate (l.length - u.length) 0).toArray):
  Calls Tryz.prog f args w fun e w'=>∃ v',e= .returned v'∧bE w' G (.slot 0) 3 (u.map eI) v'∧RelH w' G h∧Kept w G w' G∧w'.heap.size=w.heap.size:=by
 by_cases hl:l=[]
 ·obtain ⟨p,cap,hv⟩:∃ p cap,v= .slice p 0 cap:=by
   rcases hrow with ⟨_,a,e⟩ | ⟨b,cap,arr,e,_⟩
   ·exact ⟨a,0,e⟩
   ·rw[hl]at e;exact ⟨_,cap,e⟩
  refine (hnone p cap hl hv).mono fun e w' ⟨h1,h2⟩=>?_
  subst h2
  have hu:u=[]:=List.length_eq_zero_iff.1 (by have:l.length=0:=(by rw[hl];rfl);omega)
  refine ⟨v,h1,?_,hh,Kept.refl _ _,rfl⟩
  rw[hu]
  rw[hl]at hrow
  exact hrow
 rcases hrow with ⟨h0,_⟩ | ⟨b,cap,arr,rfl,h2,h3,h4,h5,h6,h7,h8⟩
 ·exact absurd (List.map_eq_nil_iff.1 h0) hl
 have hcell:G.P.cellsOf 3=1:=by rw[hP];kernel_rfl
 rw[hcell]at h4 h7 h8
 have hlm:(l.map eI).length=l.length:=by simp
 rw[hlm,Nat.mul_one]at h8
 rw[hlm]at h5
 have hvals:=pO h8
 refine (hsome b cap arr hl (by rw[hlm]) h2 h3 (by omega) (wu h3 hvals) h5).mono fun e w' ⟨he,q,hw⟩=>?_
 generalize hz:u++List.replicate (l.length - u.length) 0=z at hw
 have hzl:z.length=l.length:=by rw[← hz];simp;omega
 have hheap:w'.heap=w.heap.modify b (onCells (putCells (Value.int .i64) 0 z.toArray)):=by rw[hw];rfl
 have hnew:w'.heap[b]? =some (.cells (putCells (Value.int .i64) 0 z.toArray arr) 3 (0,0)):=by
  rw[hheap,Array.getElem?_modify,if_pos rfl,h3];rfl
 have W:lU w G b w' G:=⟨by rw[hw];rfl,by rw[hw];rfl,by rw[hw];rfl,by rw[hheap];simp,fun k hk=>by rw[hheap,Array.getElem?_modify,if_neg (Ne.symm hk)],⟨(by rw[h2];intro e;cases e),(by rw[h2];intro e;cases e)⟩,fun _ _=>rfl,rfl,fun _=>rfl,rfl⟩
 refine ⟨_,he,?_,⟨hh.n,fun m o ho=>⟨(hh.obj m o ho).1,W.obj (hh.obj m o ho).2 (by rw[h2];intro e;cases e) (fun j=>by rw[h2];intro e;cases e)⟩⟩,W.kept,W.size⟩
 refine .inr ⟨b,cap,_,by simp,h2,hnew,by rw[hcell];simp[putCells,h4],by simp;omega,h6,fun x hx=>?_,?_⟩
 ·rw[hcell]
  obtain ⟨y,_,rfl⟩:=List.mem_map.1 hx
  rfl
 ·have e:(putCells (Value.int .i64) 0 z.toArray arr).toList.take ((u.map eI).length*G.P.cellsOf 3)=u.map (Value.int .i64):=by
   rw[hcell,Nat.mul_one]
   have hpt:=ky (Value.int .i64) z.toArray arr (by simp;omega)
   rw[List.size_toArray]at hpt
   have h9:((putCells (Value.int .i64) 0 z.toArray arr).toList.take z.length).take u.length=(z.map (Value.int .i64)).take u.length:=by rw[hpt]
   have hz2:z.take u.length=u:=by rw[← hz];simp
   rw[List.take_take,Nat.min_eq_left (by omega),← List.map_take,hz2]at h9
   simpa using h9
  rw[e]
  exact ab7 _
theorem aiO {w w':World} {G:Gh} {h:Heap} {u:List Int} {v':Value} {e:Ending} (hf:∀ b,w.heap.size≤b→G.g b= .other) (he:e= .returned v') (hr:bE w' G (.slot 0) 3 (u.map eI) v') (hh:RelH w' G h) (hk:Kept w G w' G) (hs:w'.heap.size=w.heap.size):
  ∃ us out h' G',e= .returned (mY us)∧(out=[.cv (.val (.sl (List.map eI u)))]∧h'=h)∧cS w' G' out us∧RelH w' G' h'∧(∀ b,w'.heap.size≤b→G'.g b= .other)∧Kept w G w' G':=by
 refine ⟨[v'],_,h,G.re (.slot 0) .imm,he,⟨rfl,rfl⟩,.cons _ _ _ _ (hr.fixed (by intro e;cases e)) .nil,hh.re (by intro e;cases e) (by intro l e;cases e) (by intro l i e;cases e),fun b hb=>?_,hk.trans (lx w' G (by intro e;cases e) (by intro e;cases e))⟩
 have:=hf b (by omega)
 simp only[Gh.re,this];rfl
theorem avy {w w':World} {G:Gh} {h:Heap} {u:List Int} {v':Value} {e:Ending} (hf:∀ b,w.heap.size≤b→G.g b= .other) (he:e= .returned v') (hr:bE w' G (.slot 0) 3 (u.map eI) v') (hh:RelH w' G h) (hk:Kept w G w' G) (hs:w'.heap.size=w.heap.size):
  ∃ us out h' G',e= .returned (mY us)∧(out=[.cv (.row 3 (List.map eI u))]∧h'=h)∧cS w' G' out us∧RelH w' G' h'∧(∀ b,w'.heap.size≤b→G'.g b= .other)∧Kept w G w' G':=by
 refine ⟨[v'],_,h,G.re (.slot 0) .ret,he,⟨rfl,rfl⟩,.cons _ _ _ _ (bE.retag hr (by intro e;cases e)) .nil,hh.re (by intro e;cases e) (by intro l e;cases e) (by intro l i e;cases e),fun b hb=>?_,hk.trans (lx w' G (by intro e;cases e) (by intro e;cases e))⟩
 have:=hf b (by omega)
 simp only[Gh.re,this];rfl
theorem ajQ {w:World} {G:Gh} {l:List Int} {vs:List Value} (ha:cK w G .slot 0 [.cv (.row 3 (List.map eI l))] vs):∃ v,vs=[v]∧bE w G (.slot 0) 3 (l.map eI) v:=by
 cases ha with
 | cons _ c v _ vs h1 h2=>cases h2;exact ⟨v,rfl,h1⟩
theorem uL {l u:List Int} {h:Heap} (e:cp l=some u):dY Tryz.prog 84 [.cv (.row 3 (List.map eI l))] h fun o h'=>o=[.cv (.val (.sl (List.map eI u)))]∧h'=h:=by
 unfold cp at e
 split at e
 case isFalse=>cases e
 rename_i hlen
 obtain rfl:=Option.some.inj e
 have hro:dn=140737488355328:=rfl
 refine ⟨⟨Tryz.f84,_,Tryz.func84,rfl,by kernel_rfl⟩,fun w G vs hP ha hh hf=>?_⟩
 obtain ⟨v,rfl,hrow⟩:=ajQ ha
 refine (ye (f:=84) (args:=#[v]) hlen (qN l) hrow hP hh (fun p cap _ hv=>by
  rw[hv];exact AnyG.slices_Compact_int_empty xM p cap w) (fun b cap arr _ hv _ _ _ hH hc=>by
  rw[hv];exact AnyG.slices_Compact_int xM b 0 cap l w hH (by omega) hc)).mono fun e w' ⟨v',he,hr,hh',hk,hs⟩=>aiO hf he hr hh' hk hs
theorem rX {l u:List Int} {h:Heap} (e:bW l=some u):dY Tryz.prog 261 [.cv (.row 3 (List.map eI l))] h fun o h'=>o=[.cv (.row 3 (List.map eI u))]∧h'=h:=by
 unfold bW at e
 split at e
 case isFalse=>cases e
 rename_i hlen
 obtain rfl:=Option.some.inj e
 have hro:dn=140737488355328:=rfl
 refine ⟨⟨Tryz.f261,_,Tryz.func261,rfl,by kernel_rfl⟩,fun w G vs hP ha hh hf=>?_⟩
 obtain ⟨v,rfl,hrow⟩:=ajQ ha
 refine (ye (f:=261) (args:=#[v]) hlen (qN l) hrow hP hh (fun p cap _ hv=>by
  rw[hv];exact AnyG.slices_Compact_int_empty wk p cap w) (fun b cap arr _ hv _ _ _ hH hc=>by
  rw[hv];exact AnyG.slices_Compact_int wk b 0 cap l w hH (by omega) hc)).mono fun e w' ⟨v',he,hr,hh',hk,hs⟩=>avy hf he hr hh' hk hs
end Go.Proofs.IR
namespace Go.Proofs.IR
open Go.Shelf Go.RowKit Go.Lib Go.Sort Go.Val
set_option maxRecDepth 100000
set_option maxHeartbeats 1000000 in
theorem ahD (W:World) (bp bq bs os:Nat) (ns cs:Nat) (sg i s:Int) (h1:W.cell? ⟨bp,0,none⟩=some (.int .u64 sg)) (h2:W.cell? ⟨bq,1,none⟩=some (.slice (some ⟨bs,os,none⟩) ns cs)) (hi:1≤i) (hi2:i≤(ns:Int)) (h3:W.cell? ⟨bs,os+(i.toNat - 1),none⟩=some (.int .i64 s)) (hs:0≤s) (hb:i≤1000000):
  Calls Tryz.prog 224 #[.int .i64 i,.pointer (some ⟨bp,0,none⟩),.pointer (some ⟨bq,0,none⟩)] W fun e w'=>e= .returned (.bool (!hitI sg s))∧∃ q,w'=W.drewN q:=by
 have hw:IntKind.i64.wrap (i - 1)=i - 1:=by rw[IntKind.wrap_i64];omega
 have hlt:i - 1 < (ns:Int):=by omega
 have h0:0≤i - 1:=by omega
 have mixed:Tryz.prog.follows .mixedOrders=true:=by kernel_rfl
 go_enter Tryz.func224,Tryz.ntmps224
 go_wp2
 go_quiet (fail)
 go_wp2
 go_ret
 refine ⟨?_,_,rfl⟩
 have:(bits BinOp.and IntKind.u64 (sg/2^min s.toNat 64) 1==0)= !hitI sg s:=by
  unfold hitI bAnd shR bits
  rw[Bool.not_not]
  have e:sg.fdiv (2^min s.toNat IntKind.u64.bits)=sg/2^min s.toNat 64:=by
   rw[Int.fdiv_eq_ediv_of_nonneg _ (by exact Int.pow_nonneg (by decide))];rfl
  rw[e]
 rw[this];rfl
structure Seen (w:World) (b:Nat) (bp bq bs os ns cs:Nat) (sg:Int) (S:List Int):Prop where
 p:bp < w.heap.size∧bp≠b∧w.cell? ⟨bp,0,none⟩=some (.int .u64 sg)
 q:bq < w.heap.size∧bq≠b∧w.cell? ⟨bq,1,none⟩=some (.slice (some ⟨bs,os,none⟩) ns cs)
 s:bs < w.heap.size∧bs≠b∧∀ k,(hk:k < S.length)→w.cell? ⟨bs,os+k,none⟩=some (.int .i64 S[k])
 len:ns=S.length
def delS (S:List Int) (i:Int):Prop:=(1≤i∧i≤1000000)∧i≤(S.length:Int)∧0≤S.getD (i - 1).toNat 0
def iT (sg:Int) (S:List Int) (i:Int):Bool:=hitI sg (S.getD (i - 1).toNat 0)
theorem sY {w W:World} {b bp bq bs os ns cs:Nat} {sg:Int} {S:List Int} (h:Seen w b bp bq bs os ns cs sg S) (hW:∀ k,k < w.heap.size→k≠b→W.heap[k]? =w.heap[k]?) {i:Int} (hi:delS S i):
  Calls Tryz.prog 224 #[.int .i64 i,.pointer (some ⟨bp,0,none⟩),.pointer (some ⟨bq,0,none⟩)] W fun e w'=>e= .returned (.bool (!iT sg S i))∧∃ q,w'=W.drewN q:=by
 have hc:∀ (a:Addr),a.block < w.heap.size→a.block≠b→W.cell? a=w.cell? a:=fun a h1 h2=>jC (hW _ h1 h2)
 obtain ⟨⟨h1,hb⟩,h2,h3⟩:=hi
 have hk:i.toNat - 1 < S.length:=by omega
 have he:(i - 1).toNat=i.toNat - 1:=by omega
 have hg:S.getD (i - 1).toNat 0=S[i.toNat - 1]:=by rw[he,List.getD_eq_getElem?_getD,List.getElem?_eq_getElem hk];rfl
 have:=ahD W bp bq bs os ns cs sg i (S.getD (i - 1).toNat 0) ((hc _ h.p.1 h.p.2.1).trans h.p.2.2) ((hc _ h.q.1 h.q.2.1).trans h.q.2.2) h1 (by rw[h.len];exact h2) (by rw[hc _ h.s.1 h.s.2.1,h.s.2.2 _ hk,hg]) h3 hb
 exact this
end Go.Proofs.IR
namespace Go.Proofs.IR
open Go.Shelf Go.RowKit Go.Lib Go.Sort Go.Val
abbrev Pl (S:List Int):={ i:Int // delS S i }
theorem pB (eq:Int→Bool):∀ (l:List Int) (i:Nat),(Lib.idxByFrom (fun _ y=>eq y) (default:Int) l i= -1∧∀ j,j < l.length→eq l[j]! =false)∨∃ k,k < l.length∧Lib.idxByFrom (fun _ y=>eq y) (default:Int) l i=((i+k:Nat):Int)∧eq l[k]! =true∧∀ j,j < k→eq l[j]! =false:=fun l i=>idxByFrom_spec (fun _ y=>eq y) default l i
theorem apU {S:List Int} [Inhabited (Pl S)] (p:Int→Bool):∀ (zs:List (Pl S)) (i:Nat) (d:Pl S),Lib.idxByFrom (fun _ y=>p y.1) d zs i=Lib.idxByFrom (fun _ y=>p y) (default:Int) (zs.map fun z=>z.1) i
 | [],_,_=>rfl
 | z::zs,i,d=>by rw[List.map_cons,Lib.idxByFrom,Lib.idxByFrom,apU p zs (i+1)]
theorem agS {w:World} {b bp bq bs os ns cs:Nat} {sg:Int} {S:List Int} (h:Seen w b bp bq bs os ns cs sg S) {cap:Nat} {l:List Int} (hl:l≠[]) (hd:∀ i∈l,delS S i) (hH:Go.Sort.Holds (Value.int .i64) w b 0 l.toArray) (hsz:l.length≤140737488355328):
  Calls Tryz.prog 262 #[.slice (some ⟨b,0,none⟩) l.length cap,.func (.func 224) #[] #[.pointer (some ⟨bp,0,none⟩),.pointer (some ⟨bq,0,none⟩)]] w fun e w'=>e= .returned (.int .i64 (Lib.idxByFrom (fun _ y=>!iT sg S y) (default:Int) l 0))∧∃ q,w'=w.drewN q:=by
 obtain ⟨zs,hzs⟩:∃ zs:List (Pl S),zs.map (fun z=>z.1)=l:=⟨l.attachWith _ hd,by simp⟩
 have hz0:zs≠[]:=fun e=>hl (by rw[← hzs,e];rfl)
 haveI:Inhabited (Pl S):=⟨zs.head hz0⟩
 have hzl:zs.length=l.length:=by rw[← hzs];simp
 have eg:∀ args w,(callFunc 224 args).run Tryz.prog w= .ok (.enter 224 args) w:=enters_of Tryz.func224 (by kernel_rfl) rfl
 have hp:PredAt Tryz.prog 224 #[.pointer (some ⟨bp,0,none⟩),.pointer (some ⟨bq,0,none⟩)] (fun z:Pl S=>Value.int .i64 z.1) (fun z=>!iT sg S z.1) w:=fun W x hb=>
  sY h (fun k hk _=>hb.block k hk) x.2
 have hcl:∀ j,j < zs.length→w.cell? ⟨b,0+j,none⟩=some (Value.int .i64 (zs[j]!).1):=fun j hj=>by
  have hj':j < l.length:=by omega
  have h1:=(hH j (by simpa using hj')).1
  rw[h1]
  have:l[j]? =some (zs[j]!).1:=by
   rw[← hzs,List.getElem?_map,List.getElem!_eq_getElem?_getD,List.getElem?_eq_getElem hj];rfl
  simp[this]
 have hcon:=AnyE.slices_IndexFunc { auJ with } (fun z:Pl S=>Value.int .i64 z.1) (fun z=>!iT sg S z.1) 224 #[.pointer (some ⟨bp,0,none⟩),.pointer (some ⟨bq,0,none⟩)] eg b 0 l.length cap zs w hp (by omega) (by omega) hcl
 have hidx:Lib.idxBy (fun _ y=>!iT sg S y.1) (zs.take l.length) (default:Pl S)=Lib.idxByFrom (fun _ y=>!iT sg S y) (default:Int) l 0:=by
  rw[List.take_of_length_le (by omega),Lib.idxBy,apU (fun i=>!iT sg S i),hzs]
 rw[hidx]at hcon
 exact hcon
set_option maxHeartbeats 4000000 in
set_option maxRecDepth 1000000 in
theorem alg {w:World} {b bp bq bs os ns cs:Nat} {sg:Int} {S:List Int} (h:Seen w b bp bq bs os ns cs sg S) {cap:Nat} {l:List Int} (hl:l≠[]) (hd:∀ i∈l,delS S i) (hH:Go.Sort.Holds (Value.int .i64) w b 0 l.toArray) (hsz:l.length≤140737488355328) (hcap:l.length≤cap):
  Calls Tryz.prog 225 #[.slice (some ⟨b,0,none⟩) l.length cap,.func (.func 224) #[] #[.pointer (some ⟨bp,0,none⟩),.pointer (some ⟨bq,0,none⟩)]] w fun e w'=>e= .returned (.slice (some ⟨b,0,none⟩) (l.filter (iT sg S)).length cap)∧
   ∃ q,w'=putRow (Value.int .i64) (Sort.ahead w q) b 0 (l.filter (iT sg S)++List.replicate (l.length - (l.filter (iT sg S)).length) 0).toArray:=by
 have hIF:=agS h (cap:=cap) hl hd hH hsz
 obtain ⟨d,HD⟩:∃ d:Array Int,Hid (d=l.toArray):=⟨_,rfl⟩
 have hds:l.length=d.size:=by rw[HD.out];simp
 obtain ⟨kp,HK⟩:∃ kp:Nat→Bool,Hid (kp=fun j=>iT sg S d[j]!):=⟨_,rfl⟩
 have hfil:l.filter (iT sg S)=keptUpTo kp d d.size:=by rw[HK.out,keptUpTo_filter (iT sg S) d,HD.out]
 have tl:∀ j,j < d.size→l[j]! =d[j]! :=fun j hj=>by rw[HD.out];simp[Array.getElem!_eq_getD,Array.getD_eq_getD_getElem?,List.getElem!_eq_getElem?_getD]
 have hdd:∀ j,j < d.size→delS S d[j]! :=fun j hj=>by
  rw[← tl j hj,List.getElem!_eq_getElem?_getD,List.getElem?_eq_getElem (by omega)]
  exact hd _ (List.getElem_mem _)
 rw[← HD.out]at hH
 rw[hfil,hds]
 have eg:∀ args w,(callFunc 224 args).run Tryz.prog w= .ok (.enter 224 args) w:=enters_of Tryz.func224 (by kernel_rfl) rfl
 have ei:∀ args w,(callFunc 262 args).run Tryz.prog w= .ok (.enter 262 args) w:=enters_of Tryz.func262 (by kernel_rfl) rfl
 have mixed:Tryz.prog.follows .mixedOrders=true:=by kernel_rfl
 rcases pB (fun i=>!iT sg S i) l 0 with ⟨e1,hall⟩ | ⟨k0,hk0,e1,ht,hall⟩
 ·rw[e1,hds]at hIF
  have hkeep:∀ j,j < d.size→kp j=true:=fun j hj=>by
   have:=hall j (by omega)
   rw[HK.out];show iT sg S d[j]! =true;rw[← tl j hj];simpa using this
  have e3:keptUpTo kp d d.size=d.toList:=by rw[keptUpTo_all kp d _ hkeep,range_map_get]
  have HH:Aside (Go.Sort.Holds (Value.int .i64) w b 0 d):=hH
  clear hH hall h hdd
  go_enter Tryz.func225,Tryz.ntmps225
  go_wp2_with (go_at_call 262;refine hIF.mono ?_;rintro e w' ⟨rfl,q0,rfl⟩)
  go_ret
  rw[e3]
  refine ⟨by simp,q0,?_⟩
  simp only[Array.length_toList,Nat.sub_self,List.replicate_zero,List.append_nil,Array.toArray_toList]
  exact (putRow_self _ (Sort.ahead w q0) b 0 d (holds_ahead _ w q0 b 0 d HH.out)).symm
 ·have hk0':k0 < d.size:=by omega
  rw[e1,hds,Nat.zero_add]at hIF
  have hkeep:∀ j,j < k0→kp j=true:=fun j hj=>by
   have:=hall j hj
   rw[HK.out];show iT sg S d[j]! =true;rw[← tl j (by omega)];simpa using this
  have hdrop:kp k0=false:=by rw[HK.out];show iT sg S d[k0]! =false;rw[← tl k0 hk0'];simpa using ht
  have hne1:((k0:Int)== -1)=false:=beq_eq_false_iff_ne.2 (by omega)
  have hcallAt:∀ (dk:Array Int) (u:Int) (q:Nat),delS S u→Calls Tryz.prog 224 #[.int .i64 u,.pointer (some ⟨bp,0,none⟩),.pointer (some ⟨bq,0,none⟩)] (putRow (Value.int .i64) (Sort.ahead w q) b 0 dk) fun e w'=>e= .returned (.bool (!iT sg S u))∧∃ qq,w'=(putRow (Value.int .i64) (Sort.ahead w q) b 0 dk).drewN qq:=fun dk u q hu=>
   sY h (fun k hk hne=>by
    show (w.heap.modify b (onCells (putCells (Value.int .i64) 0 dk)))[k]? =_
    rw[Array.getElem?_modify,if_neg (Ne.symm hne)]) hu
  have HC:Aside _:=hcallAt
  have HH:Aside (Go.Sort.Holds (Value.int .i64) w b 0 d):=hH
  have HE:Aside _:=hdd
  clear hcallAt h hH hall ht e1 tl hdd hd
  go_enter Tryz.func225,Tryz.ntmps225
  go_wp2_with (go_at_call 262;refine hIF.mono ?_;rintro e w' ⟨rfl,q0,rfl⟩)
  go_loopw [5,6,7] (fun s5 s6 _ wr=>∃ (i j q:Nat) (dk:Array Int),s5= .int .i64 i∧s6= .int .i64 j∧j≤d.size∧wr=putRow (Value.int .i64) (Sort.ahead w q) b 0 dk∧Aside (KeptInv kp d j i dk)) (fun _ s6 _ _=>d.size - (intOf s6).toNat)
  case atStart=>exact ⟨k0,k0+1,q0,d,rfl,by simp,by omega,(putRow_self _ (Sort.ahead w q0) b 0 d (holds_ahead _ w q0 b 0 d HH.out)).symm,KeptInv.start hkeep hdrop⟩
  case round=>
   obtain ⟨i,j,q,dk,rfl,rfl,hjd,hwr,I2⟩:=hrel
   have hI:=I2.out
   have hij:=hI.lt
   have hdz:=hI.size
   have hHk:Go.Sort.Holds (Value.int .i64) wr b 0 dk:=by rw[hwr];exact holds_putRow _ _ b 0 d dk (holds_ahead _ w q b 0 d HH.out) hdz
   have W2:Aside (wr=putRow (Value.int .i64) (Sort.ahead w q) b 0 dk):=hwr
   by_cases hlt:j < d.size
   ·have hltz:(j:Int) < (d.size:Int):=by omega
    obtain ⟨cj,_⟩:=hHk j (by omega)
    obtain ⟨ci,fi⟩:=hHk i (by omega)
    rw[hI.high j (by omega)]at cj
    rw[Nat.zero_add]at ci cj fi
    have hcall:=HC.out dk d[j]! q (HE.out j hlt)
    rw[← hwr]at hcall
    clear hHk hI hwr
    generalize hu:d[j]! =u at cj hcall
    generalize dk[i]! =old at ci
    have C:Aside (d[j]! =u):=hu
    clear hu
    have hj1:IntKind.i64.wrap ((j:Int)+1)=(j:Int)+1:=by rw[IntKind.wrap_i64];omega
    have hi1:IntKind.i64.wrap ((i:Int)+1)=(i:Int)+1:=by rw[IntKind.wrap_i64];omega
    cases hq:iT sg S u with
    | true=>
     rw[hq]at hcall
     go_wp2_with (go_at_call 224;refine hcall.mono ?_;rintro e w' ⟨rfl,qq,rfl⟩)
     refine ⟨⟨i+1,j+1,q+qq,dk.setIfInBounds i u,by simp,by simp,by omega,?_,(show Aside _ from ?_)⟩,by simp[intOf];omega⟩
     ·rw[W2.out,show (putRow (Value.int .i64) (Sort.ahead w q) b 0 dk).drewN qq=putRow (Value.int .i64) (Sort.ahead w (q+qq)) b 0 dk from putRow_drewN _ _ _ _ _ _ _]
      have:=putRow_set (Value.int .i64) (Sort.ahead w (q+qq)) b 0 dk i u (by omega)
      rw[Nat.zero_add]at this
      exact this
     ·have:=I2.out.keep hlt (by rw[HK.out];show iT sg S d[j]! =true;rw[C.out,hq])
      rwa[C.out]at this
    | false=>
     rw[hq]at hcall
     go_wp2_with (go_at_call 224;refine hcall.mono ?_;rintro e w' ⟨rfl,qq,rfl⟩)
     exact ⟨⟨i,j+1,q+qq,dk,rfl,by simp,by omega,by rw[W2.out];exact putRow_drewN _ _ _ _ _ _ _,I2.out.skip (by rw[HK.out];show iT sg S d[j]! =false;rw[C.out,hq])⟩,by simp[intOf];omega⟩
   ·obtain rfl:j=d.size:=by omega
    have hltz:¬ (d.size:Int) < (d.size:Int):=by omega
    have hcl:∀ ty,(Builtin.clear_ #[228] ty #[.slice (some ⟨b,i,none⟩) (d.size - i) (cap - i)]).run Tryz.prog wr= .ok (.tuple #[]) (wr.setCells b i (List.replicate (d.size - i) (.int .i64 0))):=
     fun ty=>Lib.run_clear_slice wr _ _ ty _ Tryz.underlying228 Tryz.zeroValue3 rfl rfl b i _ _ (by omega) (fun t ht=>by
      have:=(hHk (i+t) (by omega)).1
      rw[Nat.zero_add]at this
      rw[this];rfl) (fun t ht=>by
      have:=(hHk (i+t) (by omega)).2
      rwa[Nat.zero_add]at this)
    clear hHk hI hwr
    go_wp2
    go_ret
    have hI:=I2.out
    refine ⟨by rw[hI.len];rfl,q,?_⟩
    have hp:=putRow_setCells (Value.int .i64) (Sort.ahead w q) b 0 (List.replicate (d.size - i) (0:Int)) dk i (by simp;omega)
    rw[Nat.zero_add,List.map_replicate]at hp
    rw[hI.len,← hI.done (0:Int),← hp,← W2.out]
end Go.Proofs.IR
namespace Go.Proofs.IR
open Go.Shelf Go.RowKit Go.Lib Go.Sort Go.Val
set_option maxRecDepth 100000
theorem arm {w:World} {G:Gh} {v:Value} {p q:Nat} (h:RelV w G (.fn 224 [] [.ptr (some (p,0)),.ptr (some (q,0))]) v):v= .func (.func 224) #[] #[.pointer (some ⟨G.ι p,0,none⟩),.pointer (some ⟨G.ι q,0,none⟩)]:=by
 cases h with
 | fn _ _ _ us vs k1 k2=>
  have e1:us= #[]:=by
   cases hu:us.toList with
   | nil=>exact Array.toList_inj.1 hu
   | cons u l=>rw[hu]at k1;cases k1
  have e2:vs= #[.pointer (some ⟨G.ι p,0,none⟩),.pointer (some ⟨G.ι q,0,none⟩)]:=by
   apply Array.toList_inj.1
   generalize vs.toList=ws at k2
   cases k2 with
   | cons _ _ _ _ _ p1 p2=>
    cases p2 with
    | cons _ _ _ _ _ q1 q2=>cases q2;cases p1;cases q1;rfl
  rw[e1,e2]
theorem acX {w:World} {G:Gh} {h:Heap} (hh:RelH w G h) {l i:Nat} {cs:List CV} {c:CV} (ho:h.at_ l=some (.cells cs)) (hc:cs[i]? =some c):G.g (G.ι l)= .box l∧G.ι l < w.heap.size∧∃ v,w.cell? ⟨G.ι l,i,none⟩=some v∧df w G (.cell l i) c v:=by
 obtain ⟨_,hbx,arr,ty,fr,hheap,_,hbl,hbc⟩:=hh.obj l _ ho
 have hi:i < cs.length:=(List.getElem?_eq_some_iff.1 hc).1
 have hia:i < arr.toList.length:=by rw[hbl];exact hi
 have hv:arr.toList[i]? =some (arr.toList[i]):=List.getElem?_eq_getElem hia
 refine ⟨hbx,fQ hheap,arr.toList[i],?_,(hbc i c _ hc hv).1⟩
 simp only[World.cell?,hheap]
 rw[← Array.getElem?_toList];exact hv
theorem ints_at {w:World} {G:Gh} {S:List Int} {v:Value} (h:RelV w G (.sl (S.map eI)) v) (hS:S≠[]):∃ bs os cs,v= .slice (some ⟨bs,os,none⟩) S.length cs∧G.g bs= .imm∧bs < w.heap.size∧∀ k,(hk:k < S.length)→w.cell? ⟨bs,os+k,none⟩=some (.int .i64 S[k]):=by
 generalize hd:DVal.sl (S.map eI)=d at h
 cases h with
 | nilsl a cap=>
  have:S=[]:=by simpa using hd
  exact absurd this hS
 | sl xs ad cap k vs hne hcap hg hb hsp hk hr hc=>
  obtain rfl:S.map eI=xs:=by simpa using hd
  have hvs:=pO hr
  obtain ⟨blk,off,sp⟩:=ad
  simp only at hsp
  subst hsp
  refine ⟨blk,off,cap,by simp,hg,hb,fun k hk=>?_⟩
  have:=hc k (.int .i64 S[k]) (by rw[hvs];simp[hk])
  rw[← this]
  congr 1
  by_cases h0:k=0
  ·rw[h0];simp only[Addr.add,if_true];rfl
  ·simp only[Addr.add,h0,if_false]
 | _=>cases hd
theorem ajA (p:Option Addr) (cap:Nat) (lb:Array Value) (w:World):Calls Tryz.prog 225 #[.slice p 0 cap,.func (.func 224) #[] lb] w fun e w'=>e= .returned (.slice p 0 cap)∧w'=w:=by
 have hIF:Calls Tryz.prog 262 #[.slice p 0 cap,.func (.func 224) #[] lb] w fun e w'=>e= .returned (.int .i64 (-1))∧w'=w:=AnyE.slices_IndexFunc_empty { auJ with } p cap _ w
 have ei:∀ args w,(callFunc 262 args).run Tryz.prog w= .ok (.enter 262 args) w:=enters_of Tryz.func262 (by kernel_rfl) rfl
 have mixed:Tryz.prog.follows .mixedOrders=true:=by kernel_rfl
 go_enter Tryz.func225,Tryz.ntmps225
 go_wp2_with (go_at_call 262;refine hIF.mono ?_;rintro e w' ⟨rfl,rfl⟩)
 go_ret
 exact ⟨rfl,rfl⟩
theorem akd {A:cc} {i:Int}:ajD A i=true↔delS A.Sets i:=by
 unfold ajD delS
 simp only[Bool.and_eq_true,decide_eq_true_eq]
 constructor
 ·rintro ⟨⟨h1,h2⟩,h3⟩;exact ⟨h1,h2,h3⟩
 ·rintro ⟨h1,h2,h3⟩;exact ⟨⟨h1,h2⟩,h3⟩
theorem xm {l u:List Int} {sg:Int} {A:cc} {p q:Nat} {h:Heap} (hp:h.at_ p=some (.cells [.val (.int .u64 sg)])) (hq:h.at_ q=some (.cells (vals (aiQ A).cells))) (e:bJ l sg A=some u):
  dY Tryz.prog 225 [.cv (.row 3 (List.map eI l)),.cv (.val (.fn 224 [] [.ptr (some (p,0)),.ptr (some (q,0))]))] h fun o h'=>o=[.cv (.val (.sl (List.map eI u)))]∧h'=h:=by
 unfold bJ at e
 split at e
 case isFalse=>cases e
 rename_i hc
 obtain ⟨hlen,hall⟩:=hc
 obtain rfl:=Option.some.inj e
 have hro:dn=140737488355328:=rfl
 have hdel:∀ i∈l,delS A.Sets i:=fun i hi=>akd.1 (List.all_eq_true.1 hall i hi)
 refine ⟨⟨Tryz.f225,_,Tryz.func225,rfl,by kernel_rfl⟩,fun w G vs hP ha hh hf=>?_⟩
 obtain ⟨v,vf,rfl,hrow,hvf⟩:∃ v vf,vs=[v,vf]∧bE w G (.slot 0) 3 (l.map eI) v∧RelV w G (.fn 224 [] [.ptr (some (p,0)),.ptr (some (q,0))]) vf:=by
  cases ha with
  | cons _ c v _ vs h1 h2=>
   cases h2 with
   | cons _ c2 v2 _ vs2 h3 h4=>cases h4;exact ⟨v,v2,rfl,h1,h3⟩
 obtain rfl:=arm hvf
 have hu:(l.filter (iT sg A.Sets)).length≤l.length:=List.length_filter_le _ _
 refine (ye (u:=l.filter (iT sg A.Sets)) (f:=225) (args:=#[v,.func (.func 224) #[] #[.pointer (some ⟨G.ι p,0,none⟩),.pointer (some ⟨G.ι q,0,none⟩)]]) hlen hu hrow hP hh (fun pp cap hl hv=>?_) (fun b cap arr hl hv hg h3 _ hH hcap=>?_)).mono fun e w' ⟨v',he,hr,hh',hk,hs⟩=>aiO hf he hr hh' hk hs
 ·rw[hv]
  exact ajA pp cap _ w
 ·rw[hv]
  obtain ⟨a1,a2,v1,a3,a4⟩:=acX hh hp (i:=0) rfl
  obtain ⟨b1,b2,v2,b3,b4⟩:=acX hh hq (i:=1) (c:=.val (.sl (List.map eI A.Sets))) rfl
  have hS:A.Sets≠[]:=fun e=>by
   obtain ⟨x,hx⟩:=List.exists_mem_of_ne_nil _ hl
   have:=hdel x hx
   unfold delS at this
   rw[e]at this
   simp at this
   omega
  obtain ⟨bs,os,cs,c1,c2,c3,c4⟩:=ints_at b4 hS
  have a4':RelV w G (.int .u64 sg) v1:=a4
  cases a4'
  rw[c1]at b3
  have hne:∀ k,G.g k≠ .slot 0→k≠b:=fun k hk e=>hk (by rw[e];exact hg)
  exact alg (S:=A.Sets) ⟨⟨a2,hne _ (by rw[a1];intro e;cases e),a3⟩,⟨b2,hne _ (by rw[b1];intro e;cases e),b3⟩,⟨c3,hne _ (by rw[c2];intro e;cases e),c4⟩,rfl⟩ hl hdel hH (by omega) hcap
theorem sO {g:FuncId} {n:Int} {h:Heap} (hE:Val.Enters CT.P g) (h0:0≤n) (h1:n≤17592186044416)
  (hroom:∀ (base:Option Addr) (w:World),Calls Tryz.prog g #[.slice base 0 0,.int .i64 0] w fun e w'=>e= .returned (.slice base 0 0)∧w'=w)
  (hgrow:∀ (base:Option Addr) (m:Nat) (w:World),0 < m→m≤17592186044416→Calls Tryz.prog g #[.slice base 0 0,.int .i64 (m:Int)] w fun e w'=>∃ ce:Array Value,e= .returned (.slice (some ⟨w.heap.size,0,none⟩) 0 ce.size)∧ce.size≤maxLen∧w'=w.drew.alloc (.cells ce 3)):
  dY Tryz.prog g [.cv .nil,.cv (.val (.int .i64 n))] h fun o h'=>o=[.cv (.row 3 [])]∧h'=h:=by
 refine ⟨hE,fun w G vs hP ha hh hf=>?_⟩
 obtain ⟨a,rfl⟩:∃ a,vs=[.slice a 0 0,.int .i64 n]:=by
  cases ha with
  | cons _ c v _ vs h1 h2=>
   cases h2 with
   | cons _ c2 v2 _ vs2 h3 h4=>
    cases h4
    obtain ⟨a,rfl⟩:∃ a,v= .slice a 0 0:=h1
    have h3':RelV w G (.int .i64 n) v2:=h3
    cases h3'
    exact ⟨a,rfl⟩
 by_cases hn:n=0
 ·subst hn
  refine (hroom a w).mono fun e w' ⟨he,hw⟩=>?_
  subst hw
  exact ⟨[_],_,h,G,he,⟨rfl,rfl⟩,.cons _ _ _ _ (.inl ⟨rfl,a,rfl⟩) .nil,hh,hf,Kept.refl _ _⟩
 ·obtain ⟨m,rfl⟩:∃ m:Nat,n=(m:Int):=⟨n.toNat,by omega⟩
  refine (hgrow a m w (by omega) (by omega)).mono fun e w' ⟨ce,he,hcap,hw⟩=>?_
  have hgr:=sf (kr (w:=w.drew) (G:=G) hf (.cells ce 3) .ret)
  rw[← hw]at hgr
  refine ⟨[_],_,h,G.set w.drew.heap.size .ret,he,⟨rfl,rfl⟩,.cons _ _ _ _ (.inr ⟨w.heap.size,ce.size,ce,rfl,by simp only[Gh.set];exact if_pos rfl,?_,?_,Nat.zero_le _,hcap,fun x hx=>(by cases hx),?_⟩) .nil,hgr.heapH rfl hh,hgr.fresh,hgr.kept⟩
  ·rw[hw]
   exact Array.getElem?_push_size
  ·show ce.size=ce.size*(G.set w.drew.heap.size .ret).P.cellsOf 3
   have hcell:G.P.cellsOf 3=1:=by rw[hP];kernel_rfl
   show ce.size=ce.size*G.P.cellsOf 3
   rw[hcell,Nat.mul_one]
  ·simp only[List.length_nil,Nat.zero_mul,List.take_zero]
   exact .nil
theorem afH (base:Option Addr) (w:World):Calls Tryz.prog 226 #[.slice base 0 0,.int .i64 0] w fun e w'=>e= .returned (.slice base 0 0)∧w'=w:=
 Any8.slices_Grow_room apH base 0 0 0 w (by omega) (by omega) (by omega) (by omega)
theorem agp (base:Option Addr) (w:World):Calls Tryz.prog 273 #[.slice base 0 0,.int .i64 0] w fun e w'=>e= .returned (.slice base 0 0)∧w'=w:=
 Any8.slices_Grow_room apI base 0 0 0 w (by omega) (by omega) (by omega) (by omega)
theorem lQ (w:World) (m c:Nat) (hc:m≤c):(#[]++Builtin.zeroCells (Value.int .i64 0).cells (m - 0)++Builtin.zeroCells (Value.int .i64 0).cells (c - m):Array Value).size=c:=by
 have h:∀ n,(Builtin.zeroCells (Value.int .i64 0).cells n).size=n:=fun n=>by simp[Builtin.zeroCells,Value.cells]
 rw[Array.size_append,Array.size_append,h,h];simp;omega
theorem agG (base:Option Addr) (m:Nat) (w:World) (h0:0 < m) (h1:m≤17592186044416):Calls Tryz.prog 226 #[.slice base 0 0,.int .i64 (m:Int)] w fun e w'=>∃ ce:Array Value,e= .returned (.slice (some ⟨w.heap.size,0,none⟩) 0 ce.size)∧ce.size≤maxLen∧w'=w.drew.alloc (.cells ce 3):=by
 have hi:∃ i0,Tryz.prog.info? 3=some i0∧i0.zero=some (.int .i64 0)∧i0.size=1∧i0.bytes=8:=⟨Tryz.t3,by kernel_rfl,by kernel_rfl,by kernel_rfl,by kernel_rfl⟩
 obtain ⟨i0,a1,a2,a3,a4⟩:=hi
 have hcon:=Any8.slices_Grow_grow apH i0 (.int .i64 0) a1 a2 (by omega) base 0 0 m [] w (by omega) (by omega) (by rw[a4];omega) (by omega) (by rw[a3];rfl) (fun _=>rfl) (fun _ _ j v h=>by simp at h)
 rw[Nat.zero_add]at hcon
 refine Calls.mono hcon fun e w' ⟨he,hw⟩=>⟨_,?_,?_,hw⟩
 ·rw[he]
  congr 2
  exact (lQ w m _ (grownCap_ge w m 0 3)).symm
 ·have:=lQ w m _ (grownCap_ge w m 0 3)
  show (#[]++Builtin.zeroCells (Value.int .i64 0).cells (m - 0)++Builtin.zeroCells (Value.int .i64 0).cells (grownCap w m 0 3 - m):Array Value).size≤maxLen
  rw[this]
  exact grownCap_le_maxLen w m 0 3 (by simp only[maxLen];omega)
theorem ae2 (base:Option Addr) (m:Nat) (w:World) (h0:0 < m) (h1:m≤17592186044416):Calls Tryz.prog 273 #[.slice base 0 0,.int .i64 (m:Int)] w fun e w'=>∃ ce:Array Value,e= .returned (.slice (some ⟨w.heap.size,0,none⟩) 0 ce.size)∧ce.size≤maxLen∧w'=w.drew.alloc (.cells ce 3):=by
 have hi:∃ i0,Tryz.prog.info? 3=some i0∧i0.zero=some (.int .i64 0)∧i0.size=1∧i0.bytes=8:=⟨Tryz.t3,by kernel_rfl,by kernel_rfl,by kernel_rfl,by kernel_rfl⟩
 obtain ⟨i0,a1,a2,a3,a4⟩:=hi
 have hcon:=Any8.slices_Grow_grow apI i0 (.int .i64 0) a1 a2 (by omega) base 0 0 m [] w (by omega) (by omega) (by rw[a4];omega) (by omega) (by rw[a3];rfl) (fun _=>rfl) (fun _ _ j v h=>by simp at h)
 rw[Nat.zero_add]at hcon
 refine Calls.mono hcon fun e w' ⟨he,hw⟩=>⟨_,?_,?_,hw⟩
 ·rw[he]
  congr 2
  exact (lQ w m _ (grownCap_ge w m 0 3)).symm
 ·have:=lQ w m _ (grownCap_ge w m 0 3)
  show (#[]++Builtin.zeroCells (Value.int .i64 0).cells (m - 0)++Builtin.zeroCells (Value.int .i64 0).cells (grownCap w m 0 3 - m):Array Value).size≤maxLen
  rw[this]
  exact grownCap_le_maxLen w m 0 3 (by simp only[maxLen];omega)
theorem yi {n:Int} {h:Heap} (h0:0≤n) (h1:n≤17592186044416):dY Tryz.prog 226 [.cv .nil,.cv (.val (.int .i64 n))] h fun o h'=>o=[.cv (.row 3 [])]∧h'=h:=
 sO ⟨Tryz.f226,_,Tryz.func226,rfl,by kernel_rfl⟩ h0 h1 afH agG
theorem aar {n:Int} {h:Heap} (h0:0≤n) (h1:n≤17592186044416):dY Tryz.prog 273 [.cv .nil,.cv (.val (.int .i64 n))] h fun o h'=>o=[.cv (.row 3 [])]∧h'=h:=
 sO ⟨Tryz.f273,_,Tryz.func273,rfl,by kernel_rfl⟩ h0 h1 agp ae2
end Go.Proofs.IR
namespace Go.Proofs.IR
open Go.Shelf Go.RowKit Go.Lib Go.Sort Go.Val
set_option maxRecDepth 100000
section
variable {w w':World} {G:Gh}
def Gh.fresh (G:Gh) (n m:Nat):Gh:=⟨G.P,fun b=>if n≤b∧b < m then .imm else G.g b,G.ι,G.n⟩
theorem qo (hb:Below w.heap.size w w') (hf:∀ b,w.heap.size≤b→G.g b= .other):gE w G w' (Gh.fresh G w.heap.size w'.heap.size) where
 os:=hb.os
 tape:=hb.tape
 output:=hb.output
 size:=hb.size
 heap:=hb.block
 g b h:=by simp only[Gh.fresh];rw[if_neg (by omega)]
 fresh b h:=by simp only[Gh.fresh];rw[if_neg (by omega)];exact hf b (Nat.le_trans hb.size h)
 n:=Nat.le_refl _
 ι _ _:=rfl
 P:=rfl
theorem ane {b:List UInt8} {v:Value} (h:RelV w G (.sl (b.map eU)) v):∃ p cap b0 off,v= .slice p b.length cap∧(b≠[]→p=some ⟨b0,off,none⟩)∧(b≠[]→b0 < w.heap.size)∧∀ j (hj:j < b.length),w.cell? ⟨b0,off+j,none⟩=some (.int .u8 (b[j].toNat:Int)):=by
 generalize hd:DVal.sl (b.map eU)=d at h
 cases h with
 | nilsl a cap=>
  have:b=[]:=by simpa using hd
  subst this
  exact ⟨a,cap,0,0,rfl,fun h=>absurd rfl h,fun h=>absurd rfl h,fun j hj=>by simp at hj⟩
 | sl xs ad cap k vs hne hcap hg hb hs hk hr hc=>
  obtain rfl:b.map eU=xs:=by simpa using hd
  have hvs:vs=b.map fun c=>Value.int .u8 (c.toNat:Int):=by
   clear hk hc hcap hne hd
   induction b generalizing vs with
   | nil=>cases hr;rfl
   | cons c b ih=>
    have h':bD w G (.int .u8 (c.toNat:Int)::aV (b.map eU)) vs:=hr
    cases h' with
    | cons _ u _ us _ h1 h2=>cases h1;rw[ih us h2];rfl
  refine ⟨some ad,cap,ad.block,ad.off,by simp,fun _=>by cases ad;simp_all,fun _=>hb,fun j hj=>?_⟩
  have:=hc j (.int .u8 (b[j].toNat:Int)) (by rw[hvs];simp[hj])
  rw[← this]
  congr 1
  cases ad
  simp only at hs
  subst hs
  by_cases hj0:j=0
  ·subst hj0;rfl
  ·simp[Addr.add,hj0]
 | _=>cases hd
end
def kl (w:World) (p:Option Addr) (zs:List UInt8):Prop:=zs≠[]→∃ b off,p=some ⟨b,off,none⟩∧b < w.heap.size∧∀ j (hj:j < zs.length),w.cell? ⟨b,off+j,none⟩=some (.int .u8 (zs[j].toNat:Int))
theorem strOf (zs:List UInt8):strOfNums (zs.map fun c=>(c.toNat:Int))=⟨zs.toArray⟩:=by
 unfold strOfNums
 congr 2
 rw[List.map_map]
 have:((fun n:Int=>UInt8.ofNat n.toNat)∘fun c:UInt8=>(c.toNat:Int))=id:=by funext c;simp
 rw[this,List.map_id]
theorem akf {w:World} {p:Option Addr} {zs:List UInt8} (h:kl w p zs) (cap:Nat):(convert 47 9 (.slice p zs.length cap)).run Tryz.prog w= .ok (.string ⟨zs.toArray⟩) w:=by
 by_cases hz:zs=[]
 ·subst hz
  cases p with
  | none=>exact run_convert_bytes_nil w 47 5 Tryz.underlying47 Tryz.underlying5 0 cap 9 Tryz.underlying9
  | some a=>
   have hl:(loadCells a 0).run Tryz.prog w= .ok (([]:List Int).map (Value.int .u8)).toArray w:=by
    simpa using run_loadCells_list (P:=Tryz.prog) w a [] (fun j v hj=>by simp at hj)
   show (convert 47 9 (.slice (some a) 0 cap)).run Tryz.prog w=_
   rw[run_convert_bytes_string w 47 9 5 _ 0 cap Tryz.underlying47 Tryz.underlying5 Tryz.underlying9,run_bytesToString w a 0 cap [] hl]
   rfl
 ·obtain ⟨b,off,rfl,hb,hc⟩:=h hz
  rw[← strOf zs]
  exact run_convert_bytes_arg w 47 5 Tryz.underlying47 Tryz.underlying5 b off zs.length cap (zs.map fun c=>(c.toNat:Int)) (by simp) (fun i hi=>by
   rw[hc i hi]
   simp[List.getD_eq_getElem?_getD,List.getElem?_eq_getElem hi]) 9 Tryz.underlying9
theorem kl.below {w w':World} {p:Option Addr} {zs:List UInt8} (h:kl w p zs) (hb:Below w.heap.size w w'):kl w' p zs:=fun hz=>by
 obtain ⟨b,off,h1,h2,h3⟩:=h hz
 exact ⟨b,off,h1,Nat.lt_of_lt_of_le h2 hb.size,fun j hj=>(hb.cell (p:=⟨b,off+j,none⟩) h2).trans (h3 j hj)⟩
theorem kl.drewN {w:World} {p:Option Addr} {zs:List UInt8} (h:kl w p zs) (m:Nat):kl (w.drewN m) p zs:=fun hz=>by
 obtain ⟨b,off,h1,h2,h3⟩:=h hz
 exact ⟨b,off,h1,h2,fun j hj=>h3 j hj⟩
theorem rJ {n:Nat} {A B:World} (h:RowKit.Below n A B) (m:Nat):RowKit.Below n A (B.drewN m):=by
 cases h;constructor <;> assumption
theorem aoP (bt bF capF cap:Nat) (p:Option Addr) (F b:List UInt8) (n:Nat) (hn:F.length=n*256) (hF:F.length≤1048576) (hb:b.length≤1048576) (w:World) (hbt:bt < w.heap.size)
  (pF:Option Addr) (hcell:w.cell? ⟨bt,0,none⟩=some (.slice pF F.length capF)) (hcap:F.length≤capF) (hpF:F≠[]→pF=some ⟨bF,0,none⟩) (hbF:F≠[]→bF < w.heap.size)
  (hcF:∀ j (hj:j < F.length),w.cell? ⟨bF,j,none⟩=some (.int .u8 (F[j].toNat:Int))) (hB:kl w p b):
  Calls Tryz.prog 197 #[.pointer (some ⟨bt,0,none⟩),.slice p b.length cap] w fun e w'=>e= .returned (.int .i64 (lg F b n 0))∧Below w.heap.size w w':=by
 have mixed:Tryz.prog.follows .mixedOrders=true:=by kernel_rfl
 go_enter Tryz.func197,Tryz.ntmps197
 go_wp2
 go_loopw [5] (fun v5 wr=>∃ k:Nat,k≤n∧v5= .int .i64 k∧Below w.heap.size w wr∧lg F b n 0=lg F b (n - k) k) (fun v5 _=>n - (intOf v5).toNat)
 case atStart=>exact ⟨0,Nat.zero_le _,rfl,Below.refl _ _,rfl⟩
 case round=>
  obtain ⟨k,hk,rfl,hbel,hfind⟩:=hrel
  have c0:=(hbel.cell (p:=⟨bt,0,none⟩) hbt).trans hcell
  by_cases hlt:k < n
  ·have hne:F≠[]:=by intro e;rw[e]at hn;simp at hn;omega
   obtain rfl:=hpF hne
   have hFb:=hbF hne
   have h1:((k:Int)*256)≤((k:Int)+1)*256:=by omega
   have hlc:((k:Int)+1)*256≤(capF:Int):=by omega
   have hw1:IntKind.i64.wrap ((k:Int)*256)=(k:Int)*256:=by rw[IntKind.wrap_i64];omega
   have hw2:IntKind.i64.wrap ((k:Int)+1)=(k:Int)+1:=by rw[IntKind.wrap_i64];omega
   have hw3:IntKind.i64.wrap (((k:Int)+1)*256)=((k:Int)+1)*256:=by rw[IntKind.wrap_i64];omega
   have h0:0≤(k:Int)*256:=by omega
   have h2:0≤((k:Int)+1)*256:=by omega
   have hc1:kl wr (some ⟨bF,k*256,none⟩) ((F.drop (k*256)).take 256):=fun hz=>⟨bF,k*256,rfl,Nat.lt_of_lt_of_le hFb hbel.size,fun j hj=>by
    have hj2:j < 256:=by rw[List.length_take]at hj;omega
    have hj3:k*256+j < F.length:=by omega
    have:=(hbel.cell (p:=⟨bF,k*256+j,none⟩) hFb).trans (hcF (k*256+j) hj3)
    rw[this]
    simp[List.getElem_take,List.getElem_drop]⟩
   have hlen:((F.drop (k*256)).take 256).length=256:=by rw[List.length_take,List.length_drop];omega
   have cv1:∀ m,(convert 47 9 (.slice (some ⟨bF,k*256,none⟩) 256 (capF - k*256))).run Tryz.prog (wr.drewN m)= .ok (.string ⟨((F.drop (k*256)).take 256).toArray⟩) (wr.drewN m):=fun m=>by
    have:=akf (hc1.drewN m) (capF - k*256)
    rw[hlen]at this
    exact this
   have cv2:∀ m,(convert 47 9 (.slice p b.length cap)).run Tryz.prog (wr.drewN m)= .ok (.string ⟨b.toArray⟩) (wr.drewN m):=fun m=>akf ((hB.below hbel).drewN m) cap
   have h3:(k:Int)*256≤max (((k:Int)+1)*256) 0:=by omega
   have e1:((k:Int)*256).toNat=k*256:=by omega
   have e2:(((k:Int)+1)*256).toNat=k*256+256:=by omega
   have hne2:¬ capF=k*256:=by omega
   go_wp2
   go_quiet (fail)
   have hfk:lg F b (n - k) k=if (F.drop (k*256)).take 256=b then (k:Int)else lg F b (n - (k+1)) (k+1):=by
    rw[show n - k=(n - (k+1))+1 by omega];rfl
   by_cases hq:(F.drop (k*256)).take 256=b
   ·have hqb:((F.drop (k*256)).take 256==b)=true:=by simpa using hq
    rw[hqb]
    rw[if_pos hq]at hfk
    clear cv1 cv2 hc1 hcF
    go_wp2
    go_ret
    exact ⟨by rw[hfind,hfk];rfl,rJ hbel _⟩
   ·have hqb:((F.drop (k*256)).take 256==b)=false:=by simpa using hq
    rw[hqb]
    rw[if_neg hq]at hfk
    clear cv1 cv2 hc1 hcF
    go_wp2
    exact ⟨⟨k+1,by omega,by simp,rJ hbel _,by rw[hfind,hfk]⟩,by simp[intOf];omega⟩
  ·obtain rfl:k=n:=by omega
   go_wp2
   go_ret
   refine ⟨?_,hbel⟩
   rw[hfind,Nat.sub_self];rfl
theorem aoH {w:World} {G:Gh} {t:Nat→Tag} {d1 d2:DVal} {vs:List Value} (h:cK w G t 0 [.cv (.val d1),.cv (.val d2)] vs):∃ v1 v2,vs=[v1,v2]∧RelV w G d1 v1∧RelV w G d2 v2:=by
 cases h with
 | cons _ c v _ vs h1 h2=>
  cases h2 with
  | cons _ c2 v2 _ vs2 h3 h4=>cases h4;exact ⟨v,v2,rfl,h1,h3⟩
theorem agR {w:World} {G:Gh} {t:Tag} {F:List UInt8} {v:Value} (h:bE w G t 5 (F.map eU) v) (hP:G.P=Tryz.prog):∃ p cap b,v= .slice p F.length cap∧F.length≤cap∧(F≠[]→p=some ⟨b,0,none⟩)∧(F≠[]→b < w.heap.size)∧∀ j (hj:j < F.length),w.cell? ⟨b,j,none⟩=some (.int .u8 (F[j].toNat:Int)):=by
 rcases h with ⟨h0,a,rfl⟩ | ⟨b,cap,arr,rfl,h2,h3,h4,h5,h6,h7,h8⟩
 ·have:F=[]:=List.map_eq_nil_iff.1 h0
  subst this
  exact ⟨a,0,0,rfl,Nat.le_refl _,fun h=>absurd rfl h,fun h=>absurd rfl h,fun j hj=>by simp at hj⟩
 ·have hcell:G.P.cellsOf 5=1:=by rw[hP];kernel_rfl
  rw[hcell]at h4 h8
  have hlm:(F.map eU).length=F.length:=by simp
  rw[hlm]at h5 h8 ⊢
  rw[Nat.mul_one]at h8
  refine ⟨some ⟨b,0,none⟩,cap,b,rfl,h5,fun _=>rfl,fun _=>(Array.getElem?_eq_some_iff.1 h3).1,fun j hj=>?_⟩
  have hvals:∀ (l:List UInt8) (us:List Value),bD w G (aV (l.map eU)) us→us=l.map fun c=>Value.int .u8 (c.toNat:Int):=by
   intro l
   induction l with
   | nil=>intro us h;cases h;rfl
   | cons c l ih=>
    intro us h
    have h':bD w G (.int .u8 (c.toNat:Int)::aV (l.map eU)) us:=h
    cases h' with
    | cons _ u _ us _ h1 h2=>cases h1;rw[ih us h2];rfl
  have hv:=hvals F _ h8
  have hg:arr[j]? =some (Value.int .u8 (F[j].toNat:Int)):=by
   have:(arr.toList.take F.length)[j]? =some (Value.int .u8 (F[j].toNat:Int)):=by rw[hv];simp[hj]
   rw[List.getElem?_take,if_pos hj]at this
   simpa using this
  simp only[World.cell?,h3]
  exact hg
theorem aag {l:Nat} {t:fO} {b:List UInt8} {r:Int} {h:Heap} (ho:h.at_ l=some (.cells [.row 5 (List.map eU t.First),.row 3 (List.map eI t.Like)])) (e:eo t b=some r):
  dY Tryz.prog 197 [.cv (.val (.ptr (some (l,0)))),.cv (.val (.sl (List.map eU b)))] h fun o h'=>o=[.cv (.val (.int .i64 r))]∧h'=h:=by
 unfold eo at e
 split at e
 case isFalse=>cases e
 rename_i hc
 obtain rfl:=Option.some.inj e
 refine ⟨⟨Tryz.f197,_,Tryz.func197,rfl,by kernel_rfl⟩,fun w G vs hP ha hh hf=>?_⟩
 obtain ⟨v1,v2,rfl,hv1,hv2⟩:=aoH ha
 obtain ⟨hl,hobj⟩:=hh.obj l _ ho
 cases hv1 with
 | ptr _ _ hn=>
  obtain ⟨hg,arr,et,fr,harr,hfr,hbl,hbox⟩:=hobj
  have hsz:arr.toList.length=2:=hbl
  have ha0:arr.toList[0]? =some (arr.toList[0]'(by omega)):=List.getElem?_eq_getElem (by omega)
  obtain ⟨hrow,_⟩:=hbox 0 _ _ rfl ha0
  obtain ⟨pF,capF,bF,hv,hcap,hpF,hbF,hcF⟩:=agR hrow hP
  obtain ⟨p,cap,b0,off,rfl,hp,hb0,hcb⟩:=ane hv2
  have hbt:G.ι l < w.heap.size:=(Array.getElem?_eq_some_iff.1 harr).1
  have hcell:w.cell? ⟨G.ι l,0,none⟩=some (.slice pF t.First.length capF):=by
   simp only[World.cell?,harr]
   rw[hv,Array.getElem?_toList]at ha0
   exact ha0
  have hpl:=aoP (G.ι l) bF capF cap p t.First b (t.First.length/256) (by omega) hc.2.1 hc.2.2 w hbt pF hcell hcap hpF hbF hcF (fun hz=>⟨b0,off,hp hz,hb0 hz,hcb⟩)
  refine hpl.mono fun e w' ⟨he,hbel⟩=>?_
  have hgr:=qo (G:=G) hbel hf
  exact ⟨[.int .i64 (lg t.First b (t.First.length/256) 0)],_,h,Gh.fresh G w.heap.size w'.heap.size,he,⟨rfl,rfl⟩,.cons _ _ _ _ (.int _ _) .nil,hgr.heapH rfl hh,hgr.fresh,hgr.kept⟩
end Go.Proofs.IR
namespace Go.Proofs.IR
open Go.RowKit Go.Shelf Go.Val
set_option maxRecDepth 100000
def uj:Go.Shelf.Ren:=⟨fun | 166=>136 | 240=>201 | 276=>244 | 169=>138 | n=>n,fun | 0=>0 | 3=>3 | 4=>4 | 9=>9 | 20=>20 | 37=>47 | 70=>207 | 72=>209 | 75=>211 | 80=>215 | 164=>299 | 5=>5 | 127=>271 | n=>n,fun | n=>n⟩
theorem anY:Lays.n166 Tryz.prog uj:={
 mixed:=by kernel_rfl
 f166:=Tryz.func136.trans (congrArg some (by kernel_rfl))
 f240:=Tryz.func201.trans (congrArg some (by kernel_rfl))
 f276:=Tryz.func244.trans (congrArg some (by kernel_rfl))
 t0:=Tryz.underlying0
 a0:=Tryz.isAgg0
 z0:=Tryz.sizeOf0
 v0:=Tryz.zeroValue0
 t3:=Tryz.underlying3
 a3:=Tryz.isAgg3
 z3:=Tryz.sizeOf3
 v3:=Tryz.zeroValue3
 t4:=Tryz.underlying4
 a4:=Tryz.isAgg4
 z4:=Tryz.sizeOf4
 v4:=Tryz.zeroValue4
 t9:=Tryz.underlying9
 a9:=Tryz.isAgg9
 z9:=Tryz.sizeOf9
 v9:=Tryz.zeroValue9
 t20:=Tryz.underlying20
 a20:=Tryz.isAgg20
 z20:=Tryz.sizeOf20
 v20:=Tryz.zeroValue20
 t37:=Tryz.underlying47
 a37:=Tryz.isAgg47
 z37:=Tryz.sizeOf47
 v37:=Tryz.zeroValue47
 t70:=Tryz.underlying207
 a70:=Tryz.isAgg207
 z70:=Tryz.sizeOf207
 v70:=Tryz.zeroValue207
 t72:=Tryz.underlying209
 a72:=Tryz.isAgg209
 z72:=Tryz.sizeOf209
 v72:=Tryz.zeroValue209
 t75:=Tryz.underlying211
 a75:=Tryz.isAgg211
 z75:=Tryz.sizeOf211
 v75:=Tryz.zeroValue211
 t164:=Tryz.underlying299
 a164:=Tryz.isAgg299
 z164:=Tryz.sizeOf299
 v164:=Tryz.zeroValue299 }
theorem amX:Lays.n169 Tryz.prog uj:={
 mixed:=by kernel_rfl
 f169:=Tryz.func138.trans (congrArg some (by kernel_rfl))
 t0:=Tryz.underlying0
 a0:=Tryz.isAgg0
 z0:=Tryz.sizeOf0
 v0:=Tryz.zeroValue0
 t3:=Tryz.underlying3
 a3:=Tryz.isAgg3
 z3:=Tryz.sizeOf3
 v3:=Tryz.zeroValue3
 t9:=Tryz.underlying9
 a9:=Tryz.isAgg9
 z9:=Tryz.sizeOf9
 v9:=Tryz.zeroValue9
 t37:=Tryz.underlying47
 a37:=Tryz.isAgg47
 z37:=Tryz.sizeOf47
 v37:=Tryz.zeroValue47
 t70:=Tryz.underlying207
 a70:=Tryz.isAgg207
 z70:=Tryz.sizeOf207
 v70:=Tryz.zeroValue207
 t72:=Tryz.underlying209
 a72:=Tryz.isAgg209
 z72:=Tryz.sizeOf209
 v72:=Tryz.zeroValue209
 t127:=Tryz.underlying271
 a127:=Tryz.isAgg271
 z127:=Tryz.sizeOf271
 v127:=Tryz.zeroValue271 }
theorem ar1:Builder.X72 Tryz.prog uj:=⟨by kernel_rfl,by kernel_rfl⟩
theorem vU:Builder.Extra Tryz.prog uj:={ toX72:=ar1,t5:=Tryz.underlying5,a5:=Tryz.isAgg5,z5:=Tryz.sizeOf5,v5:=Tryz.zeroValue5,infoByte:=by kernel_rfl,cellsByte:=by kernel_rfl,sizeByte:=by kernel_rfl,neB5:=by decide }
theorem tG {n:Nat} (h:n < 16):hexU n=[if n < 10 then UInt8.ofNat (48+n)else UInt8.ofNat (55+n)]:=by rw[hexU,dif_pos h]
theorem amj {n:Nat} (h:¬ n < 16):hexU n=hexU (n/16)++hexU (n%16):=by rw[hexU,dif_neg h]
theorem nk:∀ (k n:Nat),n < 16^(k+1)→(hexU n).length≤k+1
 | k,n,h=>by
  induction k generalizing n with
  | zero=>rw[tG (by simpa using h)];simp
  | succ k ih=>
   by_cases hn:n < 16
   ·rw[tG hn];simp
   ·rw[amj hn,List.length_append,tG (Nat.mod_lt _ (by decide))]
    have:=ih (n/16) (by rw[Nat.pow_succ]at h;omega)
    simp only[List.length_cons,List.length_nil];omega
end Go.Proofs.IR
namespace Go.Proofs.IR
open Go.RowKit Go.Shelf Go.Val
set_option maxRecDepth 100000
theorem asz (w:World) (n:Nat) (h:n < 16):Calls Tryz.prog 137 #[.int .i64 (n:Int)] w fun e w'=>e= .returned (.string ⟨(hexU n).toArray⟩)∧w'=w:=by
 rw[tG h]
 have:n=0∨n=1∨n=2∨n=3∨n=4∨n=5∨n=6∨n=7∨n=8∨n=9∨n=10∨n=11∨n=12∨n=13∨n=14∨n=15:=by omega
 rcases this with rfl | rfl | rfl | rfl | rfl | rfl | rfl | rfl | rfl | rfl | rfl | rfl | rfl | rfl | rfl | rfl
 all_goals
  go_enter Tryz.func137,Tryz.ntmps137
  go_wp2
 all_goals go_ret
 all_goals exact ⟨rfl,rfl⟩
theorem auP (w:World) (n:Nat) (hn:n≤1114111):Calls Tryz.prog 137 #[.int .i64 (n:Int)] w fun e w'=>e= .returned (.string ⟨(hexU n).toArray⟩)∧w'=w:=by
 induction n using Nat.strongRecOn with
 | _ n ih=>
  by_cases h:n < 16
  ·exact asz w n h
  ·have i1:Calls Tryz.prog 137 #[.int .i64 ((n:Int)/16)] w fun e w'=>e= .returned (.string ⟨(hexU (n/16)).toArray⟩)∧w'=w:=by simpa using ih (n/16) (by omega) (by omega)
   have i2:Calls Tryz.prog 137 #[.int .i64 ((n:Int)%16)] w fun e w'=>e= .returned (.string ⟨(hexU (n%16)).toArray⟩)∧w'=w:=by simpa using ih (n%16) (by omega) (by omega)
   have l1:=nk 5 (n/16) (by omega)
   have l2:=nk 5 (n%16) (by omega)
   rw[amj h]
   clear ih
   generalize hexU (n/16)=s1 at*
   generalize hexU (n%16)=s2 at*
   go_enter Tryz.func137,Tryz.ntmps137
   have h':¬ (n:Int) < 16:=by omega
   go_wp2_with (first | (go_at_call 137;refine i1.mono ?_;clear i1;rintro e w' ⟨rfl,rfl⟩) | (go_at_call 137;refine i2.mono ?_;clear i2;rintro e w' ⟨rfl,rfl⟩))
   go_ret
   exact ⟨rfl,rfl⟩
end Go.Proofs.IR
namespace Go.Proofs.IR
open Go.RowKit Go.Shelf Go.Val
set_option maxRecDepth 100000
theorem vo (w:World) (o:Obj):(w.alloc o).heap[w.heap.size]? =some o:=Array.getElem?_push_size
theorem ary {w:World} {G:Gh} {t:Nat→Tag} {d:DVal} {vs:List Value} (h:cK w G t 0 [.cv (.val d)] vs):∃ v,vs=[v]∧RelV w G d v:=by
 cases h with
 | cons _ c v _ vs h1 h2=>cases h2;exact ⟨v,rfl,h1⟩
def iu (x:ak):Str:=hexX x.Low++if x.High=x.Low then []else 45::hexX x.High
def fine (x:ak):Prop:=0≤x.Low∧x.Low≤1114111∧0≤x.High∧x.High≤1114111
theorem nD {n:Int} (h:n≤1114111):(hexX n).length≤10:=by
 have:=nk 5 n.toNat (by omega)
 simp only[hexX,List.length_append,List.length_cons,List.length_nil];omega
theorem as0 {x:ak} (h:fine x):(iu x).length≤21:=by
 have h1:=nD h.2.1;have h2:=nD h.2.2.2
 unfold iu
 rw[List.length_append]
 split
 ·simp;omega
 ·simp only[List.length_cons];omega
theorem uF:∀ (l:List ak),(∀ x∈l,fine x)→(l.flatMap iu).length≤l.length*21
 | [],_=>by simp
 | x::l,h=>by
  have h1:=as0 (h x (by simp));have h2:=uF l (fun y hy=>h y (List.mem_cons_of_mem _ hy))
  simp only[List.flatMap_cons,List.length_append,List.length_cons];omega
theorem hexA (w:World) (n:Int) (h0:0≤n) (h1:n≤1114111):Calls Tryz.prog 137 #[.int .i64 n] w fun e w'=>e= .returned (.string ⟨(hexU n.toNat).toArray⟩)∧w'=w:=by
 have:=auP w n.toNat (by omega)
 rwa[Int.toNat_of_nonneg h0]at this
theorem pC (B b:Nat) (pre s:List UInt8) (w:World) (h:Lib.IsBuilderF 209 5 B b (Lib.byteCells pre) w) (hl:pre.length+s.length≤140737488355328) (hB:B≤w.heap.size):
  Calls Tryz.prog 136 #[.pointer (some ⟨b,0,none⟩),.string ⟨s.toArray⟩] w fun e w'=>e= .returned (.tuple #[.int .i64 s.length,.nilIface])∧Lib.IsBuilderF 209 5 B b (Lib.byteCells (pre++s)) w'∧Below B w w'∧Lib.OthersKept 5 (some b) w w':=by
 refine (Any.Builder_WriteString_k anY vU B b (Lib.byteCells pre) ⟨s.toArray⟩ w h (by rw[Lib.byteCells_length];exact hl) hB).mono fun e w' ⟨h1,h2,h3⟩=>⟨h1,.inr ?_,h3⟩
 rw[Lib.byteCells_append]
 exact h2
theorem akP (B b:Nat) (pre:List UInt8) (w:World) (h:Lib.IsBuilderF 209 5 B b (Lib.byteCells pre) w) (hB:B≤w.heap.size):
  Calls Tryz.prog 138 #[.pointer (some ⟨b,0,none⟩)] w fun e w'=>e= .returned (.string ⟨pre.toArray⟩)∧Below B w w':=
 (Any.Builder_String_any_k amX vU B b pre w h hB).mono fun e w' ⟨h1,_,h2,_⟩=>⟨h1,h2⟩
theorem si {T e:TypeId} {B b:Nat} {bs:List Value} {w:World} (h:Lib.IsBuilderF T e B b bs w):b < w.heap.size:=by
 rcases h with h | h <;> exact h.lt
theorem aps {b:Nat} {w w':World} {k:Nat} {c d:Value} (h:Lib.OthersKept 5 (some b) w w') (hk:w.heap[k]? =some (.cells #[c,d] 147 (0,0))) (hne:k≠b):w'.heap[k]? =some (.cells #[c,d] 147 (0,0)):=
 h k _ hk (fun e=>hne (Option.some.inj e)) (fun c fz e=>by cases e)
set_option maxHeartbeats 2000000 in
theorem au4 (b off cap:Nat) (p:Option Addr) (l:List ak) (hp:l≠[]→p=some ⟨b,off,none⟩) (hlen:l.length≤1200000) (hok:∀ x∈l,fine x) (w:World) (hb:l≠[]→b < w.heap.size)
  (hc:∀ j (h:j < l.length),w.cell? ⟨b,off+j*2,none⟩=some (.int .i64 l[j].Low)∧w.cell? ⟨b,off+j*2+1,none⟩=some (.int .i64 l[j].High)):
  Calls Tryz.prog 76 #[.slice p l.length cap] w fun e w'=>e= .returned (.string ⟨(jp l).toArray⟩)∧Below w.heap.size w w':=by
 go_enter Tryz.func76,Tryz.ntmps76
 have hB0:=Lib.IsBuilderF.of (Lib.fresh_isBuilder 209 5 w)
 have hw0:=pC w.heap.size w.heap.size [] [91] _ hB0 (by simp) (by simp)
 go_wp2_with (go_at_call 136;refine hw0.mono ?_;rintro e w1 ⟨rfl,hI1,hb1,_⟩)
 have hbel1:Below w.heap.size w w1:=((Below.refl _ w).alloc (Nat.le_refl _) _).trans hb1
 go_loopw [5,9] (fun v5 v9 wr=>∃ k:Nat,k≤l.length∧v9= .int .i64 k∧Lib.IsBuilderF 209 5 w.heap.size w.heap.size (Lib.byteCells (91::(l.take k).flatMap iu)) wr∧Below w.heap.size w wr)
  (fun _ v9 _=>l.length - (intOf v9).toNat)
 case atStart=>exact ⟨0,Nat.zero_le _,rfl,by simpa using hI1,hbel1⟩
 case round=>
  obtain ⟨k,hk,rfl,hI,hbel⟩:=hrel
  by_cases hlt:k < l.length
  ·have hne:l≠[]:=by intro e;rw[e]at hlt;simp at hlt
   obtain rfl:=hp hne
   obtain ⟨c1,c2⟩:=hc k hlt
   have c1':=(hbel.cell (p:=⟨b,off+k*2,none⟩) (hb hne)).trans c1
   have c2':=(hbel.cell (p:=⟨b,off+k*2+1,none⟩) (hb hne)).trans c2
   have hfx:=hok l[k] (List.getElem_mem hlt)
   generalize hx:l[k]=x at c1' c2' hfx
   obtain ⟨f1,f2,f3,f4⟩:=hfx
   have tl:=uF (l.take k) (fun y hy=>hok y (List.mem_of_mem_take hy))
   have xl1:=nD f2
   have xl2:=nD f4
   have ul1:=nk 5 x.Low.toNat (by omega)
   have ul2:=nk 5 x.High.toNat (by omega)
   have i1:=fun W=>hexA W x.Low f1 f2
   have i2:=fun W=>hexA W x.High f3 f4
   have ll:(l.take k).length≤1200000:=by rw[List.length_take];omega
   have hI2:=hI.alloc (.cells #[.int .i64 x.Low,.int .i64 x.High] 147)
   have hw1:=pC w.heap.size w.heap.size _ (hexX x.Low) _ hI2 (by simp only[List.length_cons];omega) (by have:=hbel.size;simp;omega)
   unfold hexX at hw1
   have hsnoc:91::(l.take (k+1)).flatMap iu=91::(l.take k).flatMap iu++iu x:=by
    rw[List.take_succ_eq_append_getElem hlt,hx];simp
   by_cases heq:x.High=x.Low
   ·have e:iu x=[92,120,123]++hexU x.Low.toNat++[125]:=by unfold iu hexX;rw[if_pos heq];simp
    rw[heq]at hw1 c2'
    clear ul2 xl2 i2
    go_wp2_with (first | (go_at_call 137;refine (i1 _).mono ?_;clear i1;rintro e w' ⟨rfl,rfl⟩) | (go_at_call 136;refine hw1.mono ?_;clear hw1;rintro e w2 ⟨rfl,hI3,hb3,hk3⟩;have hB80:=aps hk3 (vo wr _) (by have:=hbel.size;have:=si hI;omega);have d0:w2.cell? ⟨wr.heap.size,0,none⟩=some (.int .i64 x.Low):=(by simp only[World.cell?,hB80];rfl);have d1:w2.cell? ⟨wr.heap.size,1,none⟩=some (.int .i64 x.Low):=(by simp only[World.cell?,hB80];rfl)))
    have hbel3:Below w.heap.size w w2:=(hbel.alloc hbel.size _).trans hb3
    exact ⟨⟨k+1,by omega,by simp,by rw[hsnoc,e];exact hI3,hbel3⟩,by simp[intOf];omega⟩
   ·have e:iu x=([92,120,123]++hexU x.Low.toNat++[125])++(45::([92,120,123]++hexU x.High.toNat++[125])):=by unfold iu hexX;rw[if_neg heq]
    go_wp2_with (first | (go_at_call 137;refine (i1 _).mono ?_;clear i1;rintro e w' ⟨rfl,rfl⟩) | (go_at_call 136;refine hw1.mono ?_;clear hw1;rintro e w2 ⟨rfl,hI3,hb3,hk3⟩;have hB80:=aps hk3 (vo wr _) (by have:=hbel.size;have:=si hI;omega);have d0:w2.cell? ⟨wr.heap.size,0,none⟩=some (.int .i64 x.Low):=(by simp only[World.cell?,hB80];rfl);have d1:w2.cell? ⟨wr.heap.size,1,none⟩=some (.int .i64 x.High):=(by simp only[World.cell?,hB80];rfl);have hw2:=pC w.heap.size w.heap.size _ (45::hexX x.High) w2 hI3 (by unfold hexX at xl1;simp only[List.length_cons,List.length_append]at*;omega) (by have:=((hbel.alloc hbel.size (.cells #[.int .i64 x.Low,.int .i64 x.High] 147)).trans hb3).size;omega);unfold hexX at hw2) | (go_at_call 137;refine (i2 _).mono ?_;clear i2;rintro e w' ⟨rfl,rfl⟩) | (go_at_call 136;refine hw2.mono ?_;clear hw2;rintro e w3 ⟨rfl,hI4,hb4,hk4⟩))
    have hbel3:Below w.heap.size w w3:=((hbel.alloc hbel.size _).trans hb3).trans hb4
    exact ⟨⟨k+1,by omega,by simp,by rw[hsnoc,e];simpa using hI4,hbel3⟩,by simp[intOf];omega⟩
  ·obtain rfl:k=l.length:=by omega
   rw[List.take_length]at hI
   have tl:=uF l hok
   have hw1:=pC w.heap.size w.heap.size _ [93] wr hI (by simp only[List.length_cons,List.length_nil];omega) hbel.size
   go_wp2_with (first | (go_at_call 136;refine hw1.mono ?_;clear hw1;rintro e w2 ⟨rfl,hI3,hb3,hk3⟩;have hst:=akP w.heap.size w.heap.size _ w2 hI3 (hbel.trans hb3).size) | (go_at_call 138;refine hst.mono ?_;clear hst;rintro e w3 ⟨rfl,hb4⟩))
   go_ret
   refine ⟨?_,(hbel.trans hb3).trans hb4⟩
   have e:jp l=91::(l.flatMap iu++[93]):=rfl
   rw[e];rfl
def acO (x:ak):List Value:=[.int .i64 x.Low,.int .i64 x.High]
theorem qp:∀ {l:List ak} {j:Nat} (h:j < l.length),(l.flatMap acO)[j*2]? =some (.int .i64 l[j].Low)∧(l.flatMap acO)[j*2+1]? =some (.int .i64 l[j].High)
 | x::l,0,h=>⟨rfl,rfl⟩
 | x::l,j+1,h=>by
  have ih:=qp (l:=l) (j:=j) (by simpa using h)
  have e:(j+1)*2=j*2+2:=by omega
  simp only[List.flatMap_cons,acO,List.cons_append,List.nil_append,e,List.getElem_cons_succ]
  exact ih
theorem ajy {w:World} {G:Gh} {l:List ak} {v:Value} (h:RelV w G (.sl (l.map bb)) v):∃ p cap b off,v= .slice p l.length cap∧(l≠[]→p=some ⟨b,off,none⟩)∧(l≠[]→b < w.heap.size)∧
  ∀ j (hj:j < l.length),w.cell? ⟨b,off+j*2,none⟩=some (.int .i64 l[j].Low)∧w.cell? ⟨b,off+j*2+1,none⟩=some (.int .i64 l[j].High):=by
 generalize hd:DVal.sl (l.map bb)=d at h
 cases h with
 | nilsl a cap=>
  have:l=[]:=by simpa using hd
  subst this
  exact ⟨a,cap,0,0,rfl,fun h=>absurd rfl h,fun h=>absurd rfl h,fun j hj=>by simp at hj⟩
 | sl xs ad cap k vs hne hcap hg hb hs hk hr hc=>
  obtain rfl:l.map bb=xs:=by simpa using hd
  have hvs:vs=l.flatMap acO:=by
   clear hk hc hcap hne hd
   induction l generalizing vs with
   | nil=>cases hr;rfl
   | cons x l ih=>
    have h':bD w G (.int .i64 x.Low:: .int .i64 x.High::aV (l.map bb)) vs:=hr
    cases h' with
    | cons _ u _ us _ h1 h2=>
     cases h2 with
     | cons _ u2 _ us2 _ h3 h4=>cases h1;cases h3;rw[ih us2 h4];rfl
  have addr:∀ i,ad.add i=⟨ad.block,ad.off+i,none⟩:=fun i=>by
   cases ad
   simp only at hs
   subst hs
   by_cases hi:i=0
   ·subst hi;rfl
   ·simp[Addr.add,hi]
  refine ⟨some ad,cap,ad.block,ad.off,by simp,fun _=>by cases ad;simp_all,fun _=>hb,fun j hj=>?_⟩
  have hc0:=hc (j*2) _ (by rw[hvs];exact (qp hj).1)
  have hc1:=hc (j*2+1) _ (by rw[hvs];exact (qp hj).2)
  rw[addr]at hc0 hc1
  exact ⟨hc0,by rw[Nat.add_assoc];exact hc1⟩
 | _=>cases hd
theorem akF {l:List ak} {u:Str} {h:Heap} (e:lB l=some u):dY Tryz.prog 76 [.cv (.val (.sl (List.map bb l)))] h fun o h'=>o=[.cv (.val (.str (Val.bs u)))]∧h'=h:=by
 unfold lB at e
 split at e
 case isFalse=>cases e
 rename_i hlen
 obtain rfl:=Option.some.inj e
 refine ⟨⟨Tryz.f76,_,Tryz.func76,rfl,by kernel_rfl⟩,fun w G vs hP ha hh hf=>?_⟩
 obtain ⟨v,rfl,hv⟩:=ary ha
 obtain ⟨p,cap,b0,off,rfl,hp,hb0,hc⟩:=ajy hv
 refine (au4 b0 off cap p l hp hlen.1 hlen.2 w hb0 hc).mono fun e w' ⟨he,hbel⟩=>?_
 have hgr:=qo (G:=G) hbel hf
 exact ⟨[.string ⟨(jp l).toArray⟩],_,h,Gh.fresh G w.heap.size w'.heap.size,he,⟨rfl,rfl⟩,.cons _ _ _ _ (.str _) .nil,hgr.heapH rfl hh,hgr.fresh,hgr.kept⟩
end Go.Proofs.IR
namespace Go.Val
open Go.Proofs
def howP (f:FuncId) (i:Nat):How:=match f,i with
 | 230,0=>.move
 | _,_=>.data
def avY (f:FuncId):How:=match f with
 | 230=>.move
 | _=>.data
noncomputable def CTP:Ctx:={ P:=Tryz.prog,how:=howP,gives:=avY,ext:=fun _ _ _ _=>none,hand:=fun _ _ _ _ _=>False }
def fixP (f id:Nat) (s:St):List Root:=match f,id with
 | 17,9=>match s.get 8 with
  | .cv (.val (.ptr (some (l,_))))=>(List.range 6).map (.cell l)
  | _=>[]
 | _,_=>[]
noncomputable def EP:Ev:={ C:=CTP,hand:=fun _ _=>none,plan:=fun _ _=>none,fix:=fixP,ext:=fun _ _ _ _=>none,isExt:=fun _=>false }
theorem okP:EvOk EP where
 hand f a o h e:=by cases e
 ext g ds k zs ys e:=by cases e
end Go.Val
namespace Go.Val
open Go.Proofs
set_option maxRecDepth 100000
theorem alV {f:FuncId} {args out:List SV} (h:((uS EP 200 60 f args ⟨0,fun _=>none⟩).map (·.1))=some out):Runs CTP f args ⟨0,fun _=>none⟩ fun o h'=>o=out:=by
 cases e:uS EP 200 60 f args ⟨0,fun _=>none⟩ with
 | none=>rw[e]at h;cases h
 | some p=>
  obtain ⟨o,h'⟩:=p
  rw[e]at h
  obtain rfl:=Option.some.inj h
  exact (adn okP 60 _ _ _ _ _ e).mono fun o1 h1 ⟨e1,e2⟩=>e1
theorem aow:((uS EP 200 60 29 [.cv (.val (.sl (txtR.map eU)))] ⟨0,fun _=>none⟩).map (·.1))=some [.cv (.val (.sl (List.map eI [97,98,32,99])))]:=by kernel_rfl
theorem akJ:((uS EP 200 60 17 [.cv (.val (.sl (txtA.map eU)))] ⟨0,fun _=>none⟩).map (·.1))=some [.cv (.val (gU prgA)),.cv (.val (.int .i64 0)),.cv (.val (.int .i64 0))]:=by kernel_rfl
end Go.Val
namespace Go.Val
open Go.Proofs
set_option maxRecDepth 100000
theorem ahM:((uS EP 200 60 17 [.cv (.val (.sl (txtB.map eU)))] ⟨0,fun _=>none⟩).map (·.1))=some [.cv (.val (gU prgB)),.cv (.val (.int .i64 0)),.cv (.val (.int .i64 0))]:=by kernel_rfl
end Go.Val
namespace Go.Proofs.IR
open Go.Val
set_option maxRecDepth 100000
theorem apD:Tryz.prog.follows .mixedOrders=true:=by kernel_rfl
theorem ah0:eC CTP:=⟨fun _ _ _ _ _ e=>e.elim,fun _ _ _ _ e=>e.elim,fun _ _ _ _ _ e=>by cases e⟩
theorem oT {t:List UInt8} {p:bP} (hev:((uS EP 200 60 17 [.cv (.val (.sl (t.map eU)))] ⟨0,fun _=>none⟩).map (·.1))=some [.cv (.val (gU p)),.cv (.val (.int .i64 0)),.cv (.val (.int .i64 0))]) (h:Heap):
  dY Tryz.prog 17 [.cv (.val (.sl (t.map eU)))] h fun o h'=>o=[.cv (.val (gU p)),.cv (.val (.int .i64 0)),.cv (.val (.int .i64 0))]∧h'=h:=
 wA (ot ah0 apD (alV hev)) (fun _ _ e=>e) (fun o e=>by
  obtain rfl:=List.mem_singleton.1 e
  show (DVal.sl (List.map eU t)).under 0
  simp only[DVal.under,de]) (fun o e=>by
  rcases List.mem_cons.1 e with rfl | e
  ·exact Enc.under (e:=gU) 0 p
  ·rcases List.mem_cons.1 e with rfl | e
   ·trivial
   ·obtain rfl:=List.mem_singleton.1 e;trivial) h
theorem aci (h:Heap):dY Tryz.prog 29 [.cv (.val (.sl (txtR.map eU)))] h fun o h'=>o=[.cv (.val (.sl (List.map eI [97,98,32,99])))]∧h'=h:=
 wA (ot ah0 apD (alV aow)) (fun _ _ e=>e) (fun o e=>by
  obtain rfl:=List.mem_singleton.1 e
  show (DVal.sl (List.map eU txtR)).under 0
  simp only[DVal.under,de]) (fun o e=>by
  obtain rfl:=List.mem_singleton.1 e
  show (DVal.sl (List.map eI [97,98,32,99])).under 0
  simp only[DVal.under,de]) h
theorem aqx:∀ f a h o h',CT.hand f a h o h'→dY CT.P f a h fun o1 h1=>o1=o∧h1=h':=by
 intro f a h o h' hh
 obtain ⟨rfl,hh⟩:sb f a h o h':=hh
 rcases hh with ⟨rfl,l,u,rfl,he,rfl⟩ | ⟨rfl,l,t,b,r,rfl,ho,he,rfl⟩ | ⟨rfl,l,u,rfl,he,rfl⟩ | ⟨rfl,l,u,rfl,he,rfl⟩ | ⟨hf,n,rfl,h0,h1,rfl⟩ | ⟨rfl,l,sg,A,p,q,u,rfl,hp,hq,he,rfl⟩ | ⟨rfl,b,r,rfl,he,rfl⟩ | ⟨rfl,b,r,rfl,he,rfl⟩
 ·exact uL he
 ·exact aag ho he
 ·exact akF he
 ·exact rX he
 ·rcases hf with rfl | rfl
  ·exact yi h0 h1
  ·exact aar h0 h1
 ·exact xm hp hq he
 ·unfold cw at he
  split at he
  ·rename_i hb
   subst hb
   obtain rfl:=Option.some.inj he
   exact oT akJ _
  ·split at he
   ·rename_i hb
    subst hb
    obtain rfl:=Option.some.inj he
    exact oT ahM _
   ·cases he
 ·unfold du at he
  split at he
  ·rename_i hb
   subst hb
   obtain rfl:=Option.some.inj he
   exact aci _
  ·cases he
theorem asA:eC CT:=⟨aqx,fun _ _ _ _ e=>e.elim,ava⟩
end Go.Proofs.IR
namespace Go.Val
noncomputable section
def fo (x:ak):Option Bool:=
 some ((decide (x.Low < (0:Int)))||((decide (x.High > (1114111:Int)))||(decide (x.Low > x.High))))
def ax.k1:Option Int:=
 some (-1:Int)
def ax.b1 (s:List ak) (f:ak→Option Bool):Int→Option (Step Int Int)
 | v=>
  if (decide (v < (s.length:Int)))then
   (idx s v).bind fun x=>
   (f x).bind fun r=>
   if r then
    some (Step.done v)
   else
    some (Step.next (IntKind.i64.wrap (v+(1:Int))))
  else
   (ax.k1).map Step.done
def ax (s:List ak) (f:ak→Option Bool):Option Int:=
 Loop (ax.b1 s f) (0:Int)
def bN (s:List ak) (f:ak→Option Bool):Option Bool:=
 (ax s f).bind fun r=>
 some (decide (r≥(0:Int)))
def gL (l:List ak) (x:ak):Option (List ak):=
 (if (decide ((l.length:Int) > (0:Int)))then
   (idx l (IntKind.i64.wrap ((l.length:Int) - (1:Int)))).bind fun x1=>
   some (decide (x.Low≤(IntKind.i64.wrap (x1.High+(1:Int)))))
  else
   some false).bind fun v=>
 if v then
  (idx l (IntKind.i64.wrap ((l.length:Int) - (1:Int)))).bind fun x2=>
  some (List.set l (Int.toNat (IntKind.i64.wrap ((l.length:Int) - (1:Int)))) (ak.mk x2.Low (mx x2.High x.High)))
 else
  (room 16 (l.length+1)).bind fun _=>
  some (l++([x]))
def cm.k1 (out:List ak):Option ((List ak×Int)):=
 some (out,(0:Int))
def cm.b1 (l1:List ak):(List ak×Int)→Option (Step ((List ak×Int)) ((List ak×Int)))
 | (out1,v)=>
  if (decide (v < (l1.length:Int)))then
   (idx l1 v).bind fun x=>
   (gL out1 x).bind fun r2=>
   some (Step.next (r2,(IntKind.i64.wrap (v+(1:Int)))))
  else
   (cm.k1 out1).map Step.done
def cm (l:List ak):Option ((List ak×Int)):=
 (bN l (fo)).bind fun r=>
 if r then
  some (([]:List ak),(1:Int))
 else
  (bV l).bind fun r1=>
  (abD r1).bind fun l1=>
  Loop (cm.b1 l1) ([],(0:Int))
def aU.k1:Option Bool:=
 some true
def aU.b1 (s1:List ak) (s2:List ak):Int→Option (Step Int Bool)
 | v=>
  if (decide (v < (s1.length:Int)))then
   (idx s1 v).bind fun x=>
   (idx s2 v).bind fun x1=>
   if (!(x.Low==x1.Low&&(x.High==x1.High&&true)))then
    some (Step.done false)
   else
    some (Step.next (IntKind.i64.wrap (v+(1:Int))))
  else
   (aU.k1).map Step.done
def aU (s1:List ak) (s2:List ak):Option Bool:=
 if ((s1.length:Int) != (s2.length:Int))then
  some false
 else
  Loop (aU.b1 s1 s2) (0:Int)
def jD (l:List ak):Option Bool:=
 (cm l).bind fun r=>
 (if (r.2==(0:Int))then
   (aU r.1 l).bind fun r1=>
   some r1
  else
   some false).bind fun v=>
 some v
def gj (n:aE):Option Bool:=
 some ((decide (n.Kind≥(3:Int)))&&(decide (n.Kind≤(5:Int))))
def iK (n:aE):Option Bool:=
 if (n.Kind==(0:Int))then
  some ((n.Kids.length:Int) != (1:Int))
 else
  if (n.Kind==(2:Int))then
   some (decide ((n.Kids.length:Int) > (1:Int)))
  else
   ((gj n).bind fun r=>
     if r then
      some ((n.Kids.length:Int)==(1:Int))
     else
      some false).bind fun v=>
   some v
def kb (of:aE) (n:aE):Option Bool:=
 some ((n.Kind==(2:Int))||((n.Kind==(0:Int))&&(of.Kind != (2:Int))))
def aa.k2 (sets:Int) (met:Int):Option ((Bool×aM)):=
 some (true,(aM.mk sets met))
def aa.k3 (self:aM→aE→Int→Int→Option ((Bool×aM))) (signs1:Int) (v1:Int) (sets1:Int) (met1:Int) (x:aE) (more:Int):Option (Step ((Int×Int×Int)) ((Bool×aM))):=
 (if (decide (more > (20:Int)))then
   some (true,sets1,met1)
  else
   (self (aM.mk sets1 met1) x more signs1).bind fun r3=>
   some ((!r3.1),r3.2.sets,r3.2.met)).bind fun (v2,sets2,met2)=>
 if v2 then
  some (Step.done (false,(aM.mk sets2 met2)))
 else
  some (Step.next ((IntKind.i64.wrap (v1+(1:Int))),sets2,met2))
def aa.b1 (self:aM→aE→Int→Int→Option ((Bool×aM))) (n:aE) (depth:Int) (signs1:Int):(Int×Int×Int)→Option (Step ((Int×Int×Int)) ((Bool×aM)))
 | (v1,sets1,met1)=>
  if (decide (v1 < (n.Kids.length:Int)))then
   (idx n.Kids v1).bind fun x=>
   (kb n x).bind fun r2=>
   if r2 then
    aa.k3 self signs1 v1 sets1 met1 x (IntKind.i64.wrap (depth+(1:Int)))
   else
    aa.k3 self signs1 v1 sets1 met1 x depth
  else
   (aa.k2 sets1 met1).map Step.done
def aa.k1 (self:aM→aE→Int→Int→Option ((Bool×aM))) (c:aM) (n:aE) (depth:Int) (signs1:Int):Option ((Bool×aM)):=
 ((iK n).bind fun r1=>
   if (!r1)then
    some true
   else
    if (n.Set != (0:Int))then
     some true
    else
     some (decide (signs1 > (3:Int)))).bind fun v=>
 if v then
  some (false,c)
 else
  Loop (aa.b1 self n depth signs1) ((0:Int),c.sets,c.met)
def aa.r:Nat→aM→aE→Int→Int→Option ((Bool×aM))
 | 0,_,_,_,_=>none
 | fu+1,c,n,depth,signs=>
  if (n.Kind==(1:Int))then
   some ((((n.Kids.length:Int)==(0:Int))&&((decide (n.Set≥(0:Int)))&&((decide (n.Set < c.sets))&&(decide (n.Set≤c.met))))),(aM.mk c.sets (mx c.met (IntKind.i64.wrap ((mn n.Set c.sets)+(1:Int))))))
  else
   (gj n).bind fun r=>
   if (!r)then
    aa.k1 (aa.r fu) c n depth (0:Int)
   else
    aa.k1 (aa.r fu) c n depth (IntKind.i64.wrap (signs+(1:Int)))
def aa (c:aM) (n:aE) (depth:Int) (signs:Int):Option ((Bool×aM)):=lim fun fuZ=>aa.r fuZ c n depth signs
def bg.k2 (p:bP) (m:List (Str×Bool)) (sets:Int) (met:Int):Option Bool:=
 some (((m.length:Int)==(p.Sets.length:Int))&&(met==(p.Sets.length:Int)))
def bg.b1 (p:bP) (m:List (Str×Bool)):(Int×Int×Int)→Option (Step ((Int×Int×Int)) Bool)
 | (v2,sets1,met1)=>
  if (decide (v2 < (p.Rules.length:Int)))then
   (idx p.Rules v2).bind fun x=>
   ((aa (aM.mk sets1 met1) x.Left (0:Int) (0:Int)).bind fun r=>
     if (!r.1)then
      some (true,r.2.sets,r.2.met)
     else
      (aa r.2 x.Right (0:Int) (0:Int)).bind fun r1=>
      some ((!r1.1),r1.2.sets,r1.2.met)).bind fun (v3,sets2,met2)=>
   if v3 then
    some (Step.done false)
   else
    some (Step.next ((IntKind.i64.wrap (v2+(1:Int))),sets2,met2))
  else
   (bg.k2 p m sets1 met1).map Step.done
def bg.k1 (p:bP) (m:List (Str×Bool)):Option Bool:=
 Loop (bg.b1 p m) ((0:Int),(p.Sets.length:Int),(0:Int))
def bg.b2 (p:bP):(Int×List (Str×Bool))→Option (Step ((Int×List (Str×Bool))) Bool)
 | (v4,m1)=>
  if (decide (v4 < (p.Sets.length:Int)))then
   (idx p.Sets v4).bind fun xs=>
   (jD xs).bind fun r2=>
   if (!r2)then
    some (Step.done false)
   else
    (lB xs).bind fun r3=>
    some (Step.next ((IntKind.i64.wrap (v4+(1:Int))),(aput r3 true m1)))
  else
   (bg.k1 p m1).map Step.done
def bg (p:bP):Option Bool:=
 if ((decide ((p.Sets.length:Int) > (60:Int)))||(decide ((p.Rules.length:Int) > (64:Int))))then
  some false
 else
  Loop (bg.b2 p) ((0:Int),[])
def fb (x:ak) (r:Int):Option Int:=
 if (decide (x.High < r))then
  some (-1:Int)
 else
  if (decide (x.Low > r))then
   some (1:Int)
  else
   some (0:Int)
def al.k1 (x:List ak) (target:Int) (cmp:ak→Int→Option Int) (i:Int):Option ((Int×Bool)):=
 (if (decide (i < (x.length:Int)))then
   (idx x i).bind fun x1=>
   (cmp x1 target).bind fun r=>
   some (r==(0:Int))
  else
   some false).bind fun v=>
 some (i,v)
def al.k2 (i2:Int) (j1:Int):Option (Step ((Int×Int)) ((Int×Bool))):=
 some (Step.next (i2,j1))
def al.b1 (x:List ak) (target:Int) (cmp:ak→Int→Option Int):(Int×Int)→Option (Step ((Int×Int)) ((Int×Bool)))
 | (i1,j)=>
  if (decide (i1 < j))then
   (some (shR .u64 (IntKind.u64.wrap (IntKind.i64.wrap (i1+j))) (1:Int))).bind fun z=>
   (idx x (IntKind.i64.wrap z)).bind fun x2=>
   (cmp x2 target).bind fun r1=>
   if (decide (r1 < (0:Int)))then
    al.k2 (IntKind.i64.wrap ((IntKind.i64.wrap z)+(1:Int))) j
   else
    al.k2 i1 (IntKind.i64.wrap z)
  else
   (al.k1 x target cmp i1).map Step.done
def al (x:List ak) (target:Int) (cmp:ak→Int→Option Int):Option ((Int×Bool)):=
 Loop (al.b1 x target cmp) ((0:Int),(x.length:Int))
def jE (a_:List ak) (r:Int):Option Bool:=
 (al a_ r (fb)).bind fun r1=>
 some r1.2
def bG.k1 (m:Int):Option Int:=
 some m
def bG.k2 (v:Int) (m2:Int):Option (Step ((Int×Int)) Int):=
 some (Step.next (m2,(IntKind.i64.wrap (v+(1:Int)))))
def bG.b1 (sets:List (List ak)) (r:Int):(Int×Int)→Option (Step ((Int×Int)) Int)
 | (m1,v)=>
  if (decide (v < (sets.length:Int)))then
   (idx sets v).bind fun xs=>
   (jE xs r).bind fun r1=>
   if r1 then
    (nat v).bind fun _=>
    bG.k2 v (bOr .u64 m1 (shL .u64 (1:Int) v))
   else
    bG.k2 v m1
  else
   (bG.k1 m1).map Step.done
def bG (sets:List (List ak)) (r:Int):Option Int:=
 Loop (bG.b1 sets r) ((0:Int),(0:Int))
def aJ.k1 (out:List Int):Option (List Int):=
 (rK out).bind fun l=>
 (cp l).bind fun r=>
 some r
def aJ.k2 (v:Int) (out2:List Int):Option (Step ((List Int×Int)) (List Int)):=
 some (Step.next (out2,(IntKind.i64.wrap (v+(1:Int)))))
def aJ.k3 (v1:Int) (out4:List Int):Option (Step ((List Int×Int)) (Step ((List Int×Int)) (List Int))):=
 some (Step.next (out4,(IntKind.i64.wrap (v1+(1:Int)))))
def aJ.b2 (v:Int) (xs:List ak):(List Int×Int)→Option (Step ((List Int×Int)) (Step ((List Int×Int)) (List Int)))
 | (out3,v1)=>
  if (decide (v1 < (xs.length:Int)))then
   (idx xs v1).bind fun x=>
   (room 8 (out3.length+1)).bind fun _=>
   if (decide (x.High < (1114111:Int)))then
    (room 8 (out3.length+1+1)).bind fun _=>
    aJ.k3 v1 ((out3++([x.Low]))++([(IntKind.i64.wrap (x.High+(1:Int)))]))
   else
    aJ.k3 v1 (out3++([x.Low]))
  else
   (aJ.k2 v out3).map Step.done
def aJ.b1 (sets:List (List ak)):(List Int×Int)→Option (Step ((List Int×Int)) (List Int))
 | (out1,v)=>
  if (decide (v < (sets.length:Int)))then
   (idx sets v).bind fun xs=>
   Loop (aJ.b2 v xs) (out1,(0:Int))
  else
   (aJ.k1 out1).map Step.done
def aJ (sets:List (List ak)):Option (List Int):=
 Loop (aJ.b1 sets) ([(0:Int)],(0:Int))
def fV (x:cF):Option Bool:=
 some ((decide (x.Low < (0:Int)))||((decide (x.High > (1114111:Int)))||(decide (x.Low > x.High))))
def az.k1:Option Int:=
 some (-1:Int)
def az.b1 (s:List cF) (f:cF→Option Bool):Int→Option (Step Int Int)
 | v=>
  if (decide (v < (s.length:Int)))then
   (idx s v).bind fun x=>
   (f x).bind fun r=>
   if r then
    some (Step.done v)
   else
    some (Step.next (IntKind.i64.wrap (v+(1:Int))))
  else
   (az.k1).map Step.done
def az (s:List cF) (f:cF→Option Bool):Option Int:=
 Loop (az.b1 s f) (0:Int)
def bT (s:List cF) (f:cF→Option Bool):Option Bool:=
 (az s f).bind fun r=>
 some (decide (r≥(0:Int)))
def cq.k1 (t:bj) (k:Int) (i:Int) (like:List (Vector UInt8 256)) (m:List (Vector UInt8 256×Int)):Option ((Bool×bj×List (Vector UInt8 256×Int))):=
 (idx t.like.toList k).bind fun n=>
 some (true,(bj.mk (vset t.like k (u8 (IntKind.u8.wrap i))) like),m)
def cq (t:bj) (k:Int) (b:Vector UInt8 256) (known:List (Vector UInt8 256×Int)):Option ((Bool×bj×List (Vector UInt8 256×Int))):=
 if (!(aget b known).isSome)then
  if (decide ((t.first.length:Int)≥(256:Int)))then
   some (false,t,known)
  else
   (room 256 (t.first.length+1)).bind fun _=>
   cq.k1 t k (t.first.length:Int) (t.first++([b])) (aput b (t.first.length:Int) known)
 else
  cq.k1 t k ((aget b known).getD (0:Int)) t.first known
def aI.k1 (like:Vector UInt8 4352) (like1:List (Vector UInt8 256)):Option ((Option bj×Int)):=
 some ((some (bj.mk like like1)),(0:Int))
def aI.k2 (v:Int) (like4:Vector UInt8 4352) (like5:List (Vector UInt8 256)) (m1:List (Vector UInt8 256×Int)):Option (Step ((Int×Vector UInt8 4352×List (Vector UInt8 256)×List (Vector UInt8 256×Int))) ((Option bj×Int))):=
 some (Step.next ((IntKind.i64.wrap (v+(1:Int))),like4,like5,m1))
def aI.k3 (v:Int) (like2:Vector UInt8 4352) (like3:List (Vector UInt8 256)) (m:List (Vector UInt8 256×Int)) (v1:Vector UInt8 256):Option (Step ((Int×Vector UInt8 4352×List (Vector UInt8 256)×List (Vector UInt8 256×Int))) ((Option bj×Int))):=
 (cq (bj.mk like2 like3) v v1 m).bind fun r1=>
 if (!r1.1)then
  some (Step.done (none,(3:Int)))
 else
  aI.k2 v r1.2.1.like r1.2.1.first r1.2.2
def aI.k4 (v2:Int) (v4:Vector UInt8 256):Option (Step ((Int×Vector UInt8 256)) (Step ((Int×Vector UInt8 4352×List (Vector UInt8 256)×List (Vector UInt8 256×Int))) ((Option bj×Int)))):=
 some (Step.next ((IntKind.i64.wrap (v2+(1:Int))),v4))
def aI.b3 (v:Int) (v2:Int) (x:cF):(Int×Vector UInt8 256)→Option (Step ((Int×Vector UInt8 256)) (Step ((Int×Vector UInt8 256)) (Step ((Int×Vector UInt8 4352×List (Vector UInt8 256)×List (Vector UInt8 256×Int))) ((Option bj×Int)))))
 | (r2,v5)=>
  if (decide (r2≤(mn x.High (IntKind.i64.wrap ((IntKind.i64.wrap ((IntKind.i64.wrap (v*(256:Int)))+(256:Int))) - (1:Int))))))then
   (idx v5.toList (IntKind.i64.wrap (r2 - (IntKind.i64.wrap (v*(256:Int)))))).bind fun n=>
   some (Step.next ((IntKind.i64.wrap (r2+(1:Int))),(vset v5 (IntKind.i64.wrap (r2 - (IntKind.i64.wrap (v*(256:Int))))) x.Value)))
  else
   (aI.k4 v2 v5).map Step.done
def aI.b2 (l:List cF) (v:Int) (like2:Vector UInt8 4352) (like3:List (Vector UInt8 256)) (m:List (Vector UInt8 256×Int)):(Int×Vector UInt8 256)→Option (Step ((Int×Vector UInt8 256)) (Step ((Int×Vector UInt8 4352×List (Vector UInt8 256)×List (Vector UInt8 256×Int))) ((Option bj×Int))))
 | (v2,v3)=>
  if (decide (v2 < (l.length:Int)))then
   (idx l v2).bind fun x=>
   Loop (aI.b3 v v2 x) ((mx x.Low (IntKind.i64.wrap (v*(256:Int)))),v3)
  else
   (aI.k3 v like2 like3 m v3).map Step.done
def aI.b1 (l:List cF):(Int×Vector UInt8 4352×List (Vector UInt8 256)×List (Vector UInt8 256×Int))→Option (Step ((Int×Vector UInt8 4352×List (Vector UInt8 256)×List (Vector UInt8 256×Int))) ((Option bj×Int)))
 | (v,like2,like3,m)=>
  if (decide (v < (4352:Int)))then
   Loop (aI.b2 l v like2 like3 m) ((0:Int),(Vector.replicate 256 (0:UInt8)))
  else
   (aI.k1 like2 like3).map Step.done
def aI (l:List cF):Option ((Option bj×Int)):=
 if (decide ((l.length:Int) > (4096:Int)))then
  some (none,(3:Int))
 else
  (bT l (fV)).bind fun r=>
  if r then
   some (none,(1:Int))
  else
   Loop (aI.b1 l) ((0:Int),(Vector.replicate 4352 (0:UInt8)),[],[])
def fm (t:bj) (r:Int):Option UInt8:=
 if ((decide (r < (0:Int)))||(decide (r > (1114111:Int))))then
  some (u8 (0:Int))
 else
  (idx t.like.toList (IntKind.i64.wrap (Int.tdiv r (256:Int)))).bind fun n=>
  (idx t.first (n.toNat:Int)).bind fun y=>
  (idx y.toList (Int.tmod r (256:Int))).bind fun n1=>
  some n1
def aA.k2 (props:List cF) (masks:List Int) (least:List Int):Option ((Option aB×Int)):=
 (aI props).bind fun r1=>
 (match r1.1 with
 | none=>
  if (r1.2 != (0:Int))then
   some (none,(3:Int))
  else
   none
 | some y=>
  if (r1.2 != (0:Int))then
   some (none,(3:Int))
  else
   some ((some (aB.mk y masks least)),(0:Int)))
def aA.k4 (props1:List cF) (v:Int) (n:Int) (class_:Int) (masks2:List Int) (least2:List Int) (m1:List (Int×Int)) (high:Int):Option (Step ((List cF×Int×List Int×List Int×List (Int×Int))) ((Option aB×Int))):=
 (room 24 (props1.length+1)).bind fun _=>
 some (Step.next ((props1++([(cF.mk n high (u8 (IntKind.u8.wrap class_)))])),(IntKind.i64.wrap (v+(1:Int))),masks2,least2,m1))
def aA.k3 (r:List Int) (props1:List cF) (v:Int) (n:Int) (class_:Int) (masks2:List Int) (least2:List Int) (m1:List (Int×Int)):Option (Step ((List cF×Int×List Int×List Int×List (Int×Int))) ((Option aB×Int))):=
 if (decide ((m1.length:Int) > (200:Int)))then
  some (Step.done (none,(3:Int)))
 else
  if (decide ((IntKind.i64.wrap (v+(1:Int))) < (r.length:Int)))then
   (idx r (IntKind.i64.wrap (v+(1:Int)))).bind fun n1=>
   aA.k4 props1 v n class_ masks2 least2 m1 (IntKind.i64.wrap (n1 - (1:Int)))
  else
   aA.k4 props1 v n class_ masks2 least2 m1 (1114111:Int)
def aA.b1 (sets:List (List ak)) (r:List Int):(List cF×Int×List Int×List Int×List (Int×Int))→Option (Step ((List cF×Int×List Int×List Int×List (Int×Int))) ((Option aB×Int)))
 | (props1,v,masks1,least1,m)=>
  if (decide (v < (r.length:Int)))then
   (idx r v).bind fun n=>
   (bG sets n).bind fun r2=>
   if (!(aget r2 m).isSome)then
    (room 8 (masks1.length+1)).bind fun _=>
    (room 8 (least1.length+1)).bind fun _=>
    aA.k3 r props1 v n (m.length:Int) (masks1++([r2])) (least1++([n])) (aput r2 (m.length:Int) m)
   else
    aA.k3 r props1 v n ((aget r2 m).getD (0:Int)) masks1 least1 m
  else
   (aA.k2 props1 masks1 least1).map Step.done
def aA.k1 (sets:List (List ak)):Option ((Option aB×Int)):=
 (aJ sets).bind fun r=>
 Loop (aA.b1 sets r) ([],(0:Int),[],[],[])
def aA.b2 (sets:List (List ak)):Int→Option (Step Int ((Option aB×Int)))
 | v1=>
  if (decide (v1 < (sets.length:Int)))then
   (idx sets v1).bind fun xs=>
   (cm xs).bind fun r3=>
   (if (r3.2 != (0:Int))then
     some true
    else
     (aU r3.1 xs).bind fun r4=>
     some (!r4)).bind fun v2=>
   if v2 then
    some (Step.done (none,(1:Int)))
   else
    some (Step.next (IntKind.i64.wrap (v1+(1:Int))))
  else
   (aA.k1 sets).map Step.done
def aA (sets:List (List ak)):Option ((Option aB×Int)):=
 if (decide ((sets.length:Int) > (60:Int)))then
  some (none,(3:Int))
 else
  Loop (aA.b2 sets) (0:Int)
def dF (a_:aB) (r:Int):Option Int:=
 if ((decide (r < (0:Int)))||(decide (r > (1114111:Int))))then
  some (-1:Int)
 else
  (fm a_.trie r).bind fun r1=>
  some (IntKind.i64.wrap (r1.toNat:Int))
def dm (a_:aB):Option Int:=
 some (a_.masks.length:Int)
def ck (a_:aB):Option (List Int):=
 (cQ a_.masks).bind fun r=>
 some r
def bU.k1 (l:List Int) (n:Int) (at_:Int):Option (List Int):=
 (if (decide (at_ < (l.length:Int)))then
   (idx l at_).bind fun n1=>
   some (n1==n)
  else
   some false).bind fun v=>
 if v then
  some l
 else
  (cutH l at_).bind fun _=>
  (room 8 (0+(List.take (Int.toNat at_) l).length)).bind fun _=>
  (room 8 ((List.take (Int.toNat at_) l).length+1)).bind fun _=>
  (cutL l at_).bind fun _=>
  (room 8 ((List.take (Int.toNat at_) l).length+1+(List.drop (Int.toNat at_) l).length)).bind fun _=>
  some (((List.take (Int.toNat at_) l)++([n]))++(List.drop (Int.toNat at_) l))
def bU.b1 (l:List Int) (n:Int):Int→Option (Step Int (List Int))
 | at_1=>
  (if (decide (at_1 < (l.length:Int)))then
    (idx l at_1).bind fun n2=>
    some (decide (n2 < n))
   else
    some false).bind fun v1=>
  if v1 then
   some (Step.next (IntKind.i64.wrap (at_1+(1:Int))))
  else
   (bU.k1 l n at_1).map Step.done
def bU (l:List Int) (n:Int):Option (List Int):=
 Loop (bU.b1 l n) (0:Int)
def bB.k1 (out:List Int):Option (List Int):=
 some out
def bB.k2 (i:Int) (out2:List Int):Option (Step ((List Int×Int)) (List Int)):=
 some (Step.next (out2,(IntKind.i64.wrap (i+(1:Int)))))
def bB.b1 (a_:List ak) (b:List ak):(List Int×Int)→Option (Step ((List Int×Int)) (List Int))
 | (out1,i)=>
  if (decide (i < ((a_++b).length:Int)))then
   (idx (a_++b) i).bind fun x=>
   (bU out1 x.Low).bind fun r=>
   if (decide (x.High < (1114111:Int)))then
    (bU r (IntKind.i64.wrap (x.High+(1:Int)))).bind fun r1=>
    bB.k2 i r1
   else
    bB.k2 i r
  else
   (bB.k1 out1).map Step.done
def bB (a_:List ak) (b:List ak):Option (List Int):=
 (room 16 (0+a_.length)).bind fun _=>
 (room 16 (a_.length+b.length)).bind fun _=>
 Loop (bB.b1 a_ b) ([(0:Int)],(0:Int))
def cg.k1:Option Bool:=
 some false
def cg.b1 (a_:List ak) (r:Int):Int→Option (Step Int Bool)
 | i=>
  if (decide (i < (a_.length:Int)))then
   ((idx a_ i).bind fun x=>
     if (decide (r≥x.Low))then
      some (decide (r≤x.High))
     else
      some false).bind fun v=>
   if v then
    some (Step.done true)
   else
    some (Step.next (IntKind.i64.wrap (i+(1:Int))))
  else
   (cg.k1).map Step.done
def cg (a_:List ak) (r:Int):Option Bool:=
 Loop (cg.b1 a_ r) (0:Int)
def dV (l:List ak) (low:Int) (high:Int):Option (List ak):=
 (if (decide ((l.length:Int) > (0:Int)))then
   (idx l (IntKind.i64.wrap ((l.length:Int) - (1:Int)))).bind fun x=>
   some (x.High==(IntKind.i64.wrap (low - (1:Int))))
  else
   some false).bind fun v=>
 if v then
  (idx l (IntKind.i64.wrap ((l.length:Int) - (1:Int)))).bind fun x1=>
  some (List.set l (Int.toNat (IntKind.i64.wrap ((l.length:Int) - (1:Int)))) (ak.mk x1.Low high))
 else
  (room 16 (l.length+1)).bind fun _=>
  some (l++([(ak.mk low high)]))
def aD.k1 (out:List ak):Option (List ak):=
 some out
def aD.k2 (i:Int) (out2:List ak):Option (Step ((List ak×Int)) (List ak)):=
 some (Step.next (out2,(IntKind.i64.wrap (i+(1:Int)))))
def aD.k4 (out1:List ak) (i:Int) (high:Int) (n:Int) (is1:Bool):Option (Step ((List ak×Int)) (List ak)):=
 if is1 then
  (dV out1 n high).bind fun r3=>
  aD.k2 i r3
 else
  aD.k2 i out1
def aD.k3 (a_:List ak) (b:List ak) (kind:Int) (r:List Int) (out1:List ak) (i:Int) (high:Int):Option (Step ((List ak×Int)) (List ak)):=
 (idx r i).bind fun n=>
 (cg a_ n).bind fun r1=>
 (cg b n).bind fun r2=>
 if (kind==(1:Int))then
  if r1 then
   aD.k4 out1 i high n r2
  else
   aD.k4 out1 i high n false
 else
  if (kind==(2:Int))then
   if r1 then
    aD.k4 out1 i high n (!r2)
   else
    aD.k4 out1 i high n false
  else
   if (kind==(3:Int))then
    if (!r1)then
     aD.k4 out1 i high n (!r2)
    else
     aD.k4 out1 i high n false
   else
    aD.k4 out1 i high n (r1||r2)
def aD.b1 (a_:List ak) (b:List ak) (kind:Int) (r:List Int):(List ak×Int)→Option (Step ((List ak×Int)) (List ak))
 | (out1,i)=>
  if (decide (i < (r.length:Int)))then
   if (decide ((IntKind.i64.wrap (i+(1:Int))) < (r.length:Int)))then
    (idx r (IntKind.i64.wrap (i+(1:Int)))).bind fun n1=>
    aD.k3 a_ b kind r out1 i (IntKind.i64.wrap (n1 - (1:Int)))
   else
    aD.k3 a_ b kind r out1 i (1114111:Int)
  else
   (aD.k1 out1).map Step.done
def aD (a_:List ak) (b:List ak) (kind:Int):Option (List ak):=
 (bB a_ b).bind fun r=>
 Loop (aD.b1 a_ b kind r) ([],(0:Int))
def bw.k1 (l:List ak):Option ((List ak×Int)):=
 (aD l [] (0:Int)).bind fun r=>
 some (r,(0:Int))
def bw.b1 (l:List ak):Int→Option (Step Int ((List ak×Int)))
 | i=>
  if (decide (i < (l.length:Int)))then
   ((idx l i).bind fun x=>
     if (decide (x.Low < (0:Int)))then
      some true
     else
      if (decide (x.High > (1114111:Int)))then
       some true
      else
       some (decide (x.Low > x.High))).bind fun v=>
   if v then
    some (Step.done (([]:List ak),(1:Int)))
   else
    some (Step.next (IntKind.i64.wrap (i+(1:Int))))
  else
   (bw.k1 l).map Step.done
def bw (l:List ak):Option ((List ak×Int)):=
 Loop (bw.b1 l) (0:Int)
def cb.k1:Option Bool:=
 some true
def cb.b1 (a_:List ak) (b:List ak):Int→Option (Step Int Bool)
 | i=>
  if (decide (i < (a_.length:Int)))then
   (idx a_ i).bind fun x=>
   (idx b i).bind fun x1=>
   if (!(x.Low==x1.Low&&(x.High==x1.High&&true)))then
    some (Step.done false)
   else
    some (Step.next (IntKind.i64.wrap (i+(1:Int))))
  else
   (cb.k1).map Step.done
def cb (a_:List ak) (b:List ak):Option Bool:=
 if ((a_.length:Int) != (b.length:Int))then
  some false
 else
  Loop (cb.b1 a_ b) (0:Int)
def cT.k1 (l:List Int) (n:Int) (at_:Int):Option (List Int):=
 (if (decide (at_ < (l.length:Int)))then
   (idx l at_).bind fun n1=>
   some (n1==n)
  else
   some false).bind fun v=>
 if v then
  some l
 else
  (cutH l at_).bind fun _=>
  (room 8 (0+(List.take (Int.toNat at_) l).length)).bind fun _=>
  (room 8 ((List.take (Int.toNat at_) l).length+1)).bind fun _=>
  (cutL l at_).bind fun _=>
  (room 8 ((List.take (Int.toNat at_) l).length+1+(List.drop (Int.toNat at_) l).length)).bind fun _=>
  some (((List.take (Int.toNat at_) l)++([n]))++(List.drop (Int.toNat at_) l))
def cT.b1 (l:List Int) (n:Int):Int→Option (Step Int (List Int))
 | at_1=>
  (if (decide (at_1 < (l.length:Int)))then
    (idx l at_1).bind fun n2=>
    some (decide (n2 < n))
   else
    some false).bind fun v1=>
  if v1 then
   some (Step.next (IntKind.i64.wrap (at_1+(1:Int))))
  else
   (cT.k1 l n at_1).map Step.done
def cT (l:List Int) (n:Int):Option (List Int):=
 Loop (cT.b1 l n) (0:Int)
def aR.k1 (out:List Int):Option (List Int):=
 some out
def aR.k2 (i:Int) (out2:List Int):Option (Step ((List Int×Int)) (List Int)):=
 some (Step.next (out2,(IntKind.i64.wrap (i+(1:Int)))))
def aR.k3 (k:Int) (out4:List Int):Option (Step ((List Int×Int)) (Step ((List Int×Int)) (List Int))):=
 some (Step.next (out4,(IntKind.i64.wrap (k+(1:Int)))))
def aR.b2 (sets:List (List ak)) (i:Int):(List Int×Int)→Option (Step ((List Int×Int)) (Step ((List Int×Int)) (List Int)))
 | (out3,k)=>
  (idx sets i).bind fun xs=>
  if (decide (k < (xs.length:Int)))then
   (idx xs k).bind fun x=>
   (cT out3 x.Low).bind fun r=>
   if (decide (x.High < (1114111:Int)))then
    (cT r (IntKind.i64.wrap (x.High+(1:Int)))).bind fun r1=>
    aR.k3 k r1
   else
    aR.k3 k r
  else
   (aR.k2 i out3).map Step.done
def aR.b1 (sets:List (List ak)):(List Int×Int)→Option (Step ((List Int×Int)) (List Int))
 | (out1,i)=>
  if (decide (i < (sets.length:Int)))then
   Loop (aR.b2 sets i) (out1,(0:Int))
  else
   (aR.k1 out1).map Step.done
def aR (sets:List (List ak)):Option (List Int):=
 Loop (aR.b1 sets) ([(0:Int)],(0:Int))
def bM.k2 (n:aE) (kids1:List aE):Option aE:=
 some (aE.mk n.Kind n.Set kids1)
def bM.k1 (n:aE) (kids:List aE):Option aE:=
 if (n.Kind==(0:Int))then
  (revN kids).bind fun l=>
  bM.k2 n l
 else
  bM.k2 n kids
def bM.b1 (self:aE→Option aE) (n:aE):(List aE×Int)→Option (Step ((List aE×Int)) aE)
 | (kids2,v)=>
  if (decide (v < (n.Kids.length:Int)))then
   (idx n.Kids v).bind fun x=>
   (self x).bind fun r=>
   (room 40 (kids2.length+1)).bind fun _=>
   some (Step.next ((kids2++([r])),(IntKind.i64.wrap (v+(1:Int)))))
  else
   (bM.k1 n kids2).map Step.done
def bM.r:Nat→aE→Option aE
 | 0,_=>none
 | fu+1,n=>
  Loop (bM.b1 (bM.r fu) n) ([],(0:Int))
def bM (n:aE):Option aE:=lim fun fuZ=>bM.r fuZ n
def gu (self:aE→Option Bool) (n:aE):Option Bool:=
 (self n).bind fun r=>
 some (!r)
def ay.k1:Option Int:=
 some (-1:Int)
def ay.b1 (s:List aE) (f:aE→Option Bool):Int→Option (Step Int Int)
 | v=>
  if (decide (v < (s.length:Int)))then
   (idx s v).bind fun x=>
   (f x).bind fun r=>
   if r then
    some (Step.done v)
   else
    some (Step.next (IntKind.i64.wrap (v+(1:Int))))
  else
   (ay.k1).map Step.done
def ay (s:List aE) (f:aE→Option Bool):Option Int:=
 Loop (ay.b1 s f) (0:Int)
def bS (s:List aE) (f:aE→Option Bool):Option Bool:=
 (ay s f).bind fun r=>
 some (decide (r≥(0:Int)))
def aW.k1 (self:aE→Option Bool) (n:aE) (fits:Bool):Option Bool:=
 (if fits then
   (bS n.Kids (fun x0=>gu self x0)).bind fun r=>
   some (!r)
  else
   some false).bind fun v=>
 some v
def aW.k2 (self:aE→Option Bool) (n:aE) (v1:Bool):Option Bool:=
 if v1 then
  aW.k1 self n ((n.Kids.length:Int)==(1:Int))
 else
  aW.k1 self n false
def aW.r:Nat→aE→Option Bool
 | 0,_=>none
 | fu+1,n=>
  if (n.Kind==(1:Int))then
   if ((n.Kids.length:Int)==(0:Int))then
    if (decide (n.Set≥(0:Int)))then
     aW.k1 (aW.r fu) n (decide (n.Set≤(63:Int)))
    else
     aW.k1 (aW.r fu) n false
   else
    aW.k1 (aW.r fu) n false
  else
   if (n.Kind==(0:Int))then
    aW.k1 (aW.r fu) n true
   else
    if (n.Kind==(2:Int))then
     aW.k1 (aW.r fu) n (decide ((n.Kids.length:Int) > (0:Int)))
    else
     if (n.Kind==(3:Int))then
      aW.k2 (aW.r fu) n (n.Kind==(3:Int))
     else
      if (n.Kind==(4:Int))then
       aW.k2 (aW.r fu) n (n.Kind==(4:Int))
      else
       aW.k2 (aW.r fu) n (n.Kind==(5:Int))
def aW (n:aE):Option Bool:=lim fun fuZ=>aW.r fuZ n
def bh.k1 (k:Int):Option Int:=
 some k
def bh.b1 (self:aE→Option Int) (n:aE):(Int×Int)→Option (Step ((Int×Int)) Int)
 | (k1,v)=>
  if (decide (v < (n.Kids.length:Int)))then
   (idx n.Kids v).bind fun x=>
   (self x).bind fun r=>
   some (Step.next ((IntKind.i64.wrap (k1+r)),(IntKind.i64.wrap (v+(1:Int)))))
  else
   (bh.k1 k1).map Step.done
def bh.r:Nat→aE→Option Int
 | 0,_=>none
 | fu+1,n=>
  if (n.Kind==(1:Int))then
   some (1:Int)
  else
   Loop (bh.b1 (bh.r fu) n) ((0:Int),(0:Int))
def bh (n:aE):Option Int:=lim fun fuZ=>bh.r fuZ n
def aj.k2 (newslice:List Int):Option (List Int):=
 some newslice
def aj.b1 (slices:List (List Int)):(List Int×Int)→Option (Step ((List Int×Int)) (List Int))
 | (newslice1,v)=>
  if (decide (v < (slices.length:Int)))then
   (idx slices v).bind fun xs=>
   (room 8 (newslice1.length+xs.length)).bind fun _=>
   some (Step.next ((newslice1++xs),(IntKind.i64.wrap (v+(1:Int)))))
  else
   (aj.k2 newslice1).map Step.done
def aj.k1 (slices:List (List Int)) (size:Int):Option (List Int):=
 (cX [] size).bind fun r=>
 Loop (aj.b1 slices) (r,(0:Int))
def aj.b2 (slices:List (List Int)):(Int×Int)→Option (Step ((Int×Int)) (List Int))
 | (size1,v1)=>
  if (decide (v1 < (slices.length:Int)))then
   (idx slices v1).bind fun xs1=>
   if (decide ((IntKind.i64.wrap (size1+(xs1.length:Int))) < (0:Int)))then
    none
   else
    some (Step.next ((IntKind.i64.wrap (size1+(xs1.length:Int))),(IntKind.i64.wrap (v1+(1:Int)))))
  else
   (aj.k1 slices size1).map Step.done
def aj (slices:List (List Int)):Option (List Int):=
 Loop (aj.b2 slices) ((0:Int),(0:Int))
def bI (p:List Int) (more:List Int):Option (List Int):=
 (aj ([p,more])).bind fun r=>
 (rK r).bind fun l=>
 (bW l).bind fun r1=>
 some r1
def cd.k1 (a_:cc) (Follow:List (List Int)):Option cc:=
 some (cc.mk a_.Null a_.Sets a_.First a_.Last Follow)
def cd.b1 (last:List Int) (first:List Int) (a_:cc):(Int×List (List Int))→Option (Step ((Int×List (List Int))) cc)
 | (v,Follow1)=>
  if (decide (v < (last.length:Int)))then
   (idx last v).bind fun n=>
   (idx Follow1 (IntKind.i64.wrap (n - (1:Int)))).bind fun xs=>
   (bI xs first).bind fun r=>
   some (Step.next ((IntKind.i64.wrap (v+(1:Int))),(List.set Follow1 (Int.toNat (IntKind.i64.wrap (n - (1:Int)))) r)))
  else
   (cd.k1 a_ Follow1).map Step.done
def cd (last:List Int) (first:List Int) (a_:cc):Option cc:=
 Loop (cd.b1 last first a_) ((0:Int),a_.Follow)
def bx.k2 (x:aq) (y:aq) (r:cc) (first:List Int) (last:List Int):Option ((aq×cc)):=
 some ((aq.mk (x.null&&y.null) first last),r)
def bx.k1 (x:aq) (y:aq) (r:cc) (first:List Int):Option ((aq×cc)):=
 if y.null then
  (bI x.last y.last).bind fun r1=>
  bx.k2 x y r first r1
 else
  bx.k2 x y r first y.last
def bx (x:aq) (y:aq) (a_:cc):Option ((aq×cc)):=
 (cd x.last y.first a_).bind fun r=>
 if x.null then
  (bI x.first y.first).bind fun r2=>
  bx.k1 x y r r2
 else
  bx.k1 x y r x.first
def eN (x:aq) (y:aq):Option aq:=
 (if x.null then
   (bI x.first y.first).bind fun r=>
   (bI x.last y.last).bind fun r1=>
   some (true,r,r1)
  else
   (bI x.first y.first).bind fun r2=>
   (bI x.last y.last).bind fun r3=>
   some (y.null,r2,r3)).bind fun (null,first,last)=>
 some (aq.mk null first last)
def aH.k2 (n:aE) (r:(aq×cc)) (Null:Bool) (Sets:List Int) (First:List Int) (Last:List Int) (Follow:List (List Int)):Option ((aq×cc)):=
 some ((aq.mk (r.1.null||(n.Kind != (4:Int))) r.1.first r.1.last),(cc.mk Null Sets First Last Follow))
def aH.k1 (self:cc→aE→Option ((aq×cc))) (a_:cc) (n:aE):Option ((aq×cc)):=
 (n.Kids[0]?).bind fun x=>
 (self a_ x).bind fun r=>
 if (n.Kind != (5:Int))then
  (cd r.1.last r.1.first r.2).bind fun r1=>
  aH.k2 n r r1.Null r1.Sets r1.First r1.Last r1.Follow
 else
  aH.k2 n r r.2.Null r.2.Sets r.2.First r.2.Last r.2.Follow
def aH.k3 (null1:Bool) (first:List Int) (last:List Int) (Null1:Bool) (Sets1:List Int) (First1:List Int) (Last1:List Int) (Follow1:List (List Int)):Option ((aq×cc)):=
 some ((aq.mk null1 first last),(cc.mk Null1 Sets1 First1 Last1 Follow1))
def aH.b1 (self:cc→aE→Option ((aq×cc))) (n:aE):(Int×Bool×List Int×List Int×Bool×List Int×List Int×List Int×List (List Int))→Option (Step ((Int×Bool×List Int×List Int×Bool×List Int×List Int×List Int×List (List Int))) ((aq×cc)))
 | (v,null2,first1,last1,Null2,Sets2,First2,Last2,Follow2)=>
  if (decide (v < (n.Kids.length:Int)))then
   (idx n.Kids v).bind fun x1=>
   (self (cc.mk Null2 Sets2 First2 Last2 Follow2) x1).bind fun r2=>
   (bx (aq.mk null2 first1 last1) r2.1 r2.2).bind fun r3=>
   some (Step.next ((IntKind.i64.wrap (v+(1:Int))),r3.1.null,r3.1.first,r3.1.last,r3.2.Null,r3.2.Sets,r3.2.First,r3.2.Last,r3.2.Follow))
  else
   (aH.k3 null2 first1 last1 Null2 Sets2 First2 Last2 Follow2).map Step.done
def aH.k4 (null3:Bool) (first2:List Int) (last2:List Int) (Null3:Bool) (Sets3:List Int) (First3:List Int) (Last3:List Int) (Follow3:List (List Int)):Option ((aq×cc)):=
 some ((aq.mk null3 first2 last2),(cc.mk Null3 Sets3 First3 Last3 Follow3))
def aH.b2 (self:cc→aE→Option ((aq×cc))) (n:aE):(Int×Bool×List Int×List Int×Bool×List Int×List Int×List Int×List (List Int))→Option (Step ((Int×Bool×List Int×List Int×Bool×List Int×List Int×List Int×List (List Int))) ((aq×cc)))
 | (v1,null4,first3,last3,Null4,Sets4,First4,Last4,Follow4)=>
  if (decide (v1 < (n.Kids.length:Int)))then
   (idx n.Kids v1).bind fun x2=>
   (self (cc.mk Null4 Sets4 First4 Last4 Follow4) x2).bind fun r4=>
   (eN (aq.mk null4 first3 last3) r4.1).bind fun r5=>
   some (Step.next ((IntKind.i64.wrap (v1+(1:Int))),r5.null,r5.first,r5.last,r4.2.Null,r4.2.Sets,r4.2.First,r4.2.Last,r4.2.Follow))
  else
   (aH.k4 null4 first3 last3 Null4 Sets4 First4 Last4 Follow4).map Step.done
def aH.r:Nat→cc→aE→Option ((aq×cc))
 | 0,_,_=>none
 | fu+1,a_,n=>
  if (n.Kind==(1:Int))then
   (room 8 (a_.Sets.length+1)).bind fun _=>
   (room 24 (a_.Follow.length+1)).bind fun _=>
   some ((aq.mk false ([((a_.Sets++([n.Set])).length:Int)]) ([((a_.Sets++([n.Set])).length:Int)])),(cc.mk a_.Null (a_.Sets++([n.Set])) a_.First a_.Last (a_.Follow++([[]]))))
  else
   if (n.Kind==(0:Int))then
    Loop (aH.b1 (aH.r fu) n) ((0:Int),true,[],[],a_.Null,a_.Sets,a_.First,a_.Last,a_.Follow)
   else
    if (n.Kind==(2:Int))then
     Loop (aH.b2 (aH.r fu) n) ((0:Int),false,[],[],a_.Null,a_.Sets,a_.First,a_.Last,a_.Follow)
    else
     aH.k1 (aH.r fu) a_ n
def aH (a_:cc) (n:aE):Option ((aq×cc)):=lim fun fuZ=>aH.r fuZ a_ n
def gW (n:aE):Option ((cc×Int)):=
 (aW n).bind fun r=>
 if (!r)then
  some ((cc.mk false ([]:List Int) ([]:List Int) ([]:List Int) ([]:List (List Int))),(1:Int))
 else
  (bh n).bind fun r1=>
  if (decide (r1 > (300:Int)))then
   some ((cc.mk false ([]:List Int) ([]:List Int) ([]:List Int) ([]:List (List Int))),(3:Int))
  else
   (aH (cc.mk false [] ([]:List Int) ([]:List Int) []) n).bind fun r2=>
   some ((cc.mk r2.1.null r2.2.Sets r2.1.first r2.1.last r2.2.Follow),(0:Int))
def fY:Option (List Int):=
 some ([(0:Int)])
def cf.k1 (a_:cc) (sign:Int) (all:List Int):Option (List Int):=
 (bI all []).bind fun r=>
 (bJ r sign a_).bind fun r1=>
 some r1
def cf.k2 (v:Int) (all2:List Int):Option (Step ((List Int×Int)) (List Int)):=
 some (Step.next (all2,(IntKind.i64.wrap (v+(1:Int)))))
def cf.b1 (a_:cc) (at_:List Int) (sign:Int):(List Int×Int)→Option (Step ((List Int×Int)) (List Int))
 | (all1,v)=>
  if (decide (v < (at_.length:Int)))then
   (idx at_ v).bind fun n=>
   if (n==(0:Int))then
    (room 8 (all1.length+a_.First.length)).bind fun _=>
    cf.k2 v (all1++a_.First)
   else
    (idx a_.Follow (IntKind.i64.wrap (n - (1:Int)))).bind fun xs=>
    (room 8 (all1.length+xs.length)).bind fun _=>
    cf.k2 v (all1++xs)
  else
   (cf.k1 a_ sign all1).map Step.done
def cf (a_:cc) (at_:List Int) (sign:Int):Option (List Int):=
 Loop (cf.b1 a_ at_ sign) ([],(0:Int))
def aT.k1:Option Int:=
 some (-1:Int)
def aT.b1 (s:List Int) (f:Int→Option Bool):Int→Option (Step Int Int)
 | v=>
  if (decide (v < (s.length:Int)))then
   (idx s v).bind fun n=>
   (f n).bind fun r=>
   if r then
    some (Step.done v)
   else
    some (Step.next (IntKind.i64.wrap (v+(1:Int))))
  else
   (aT.k1).map Step.done
def aT (s:List Int) (f:Int→Option Bool):Option Int:=
 Loop (aT.b1 s f) (0:Int)
def bO (s:List Int) (f:Int→Option Bool):Option Bool:=
 (aT s f).bind fun r=>
 some (decide (r≥(0:Int)))
def bR.k1:Option Int:=
 some (-1:Int)
def bR.b1 (s:List Int) (v:Int):Int→Option (Step Int Int)
 | v1=>
  if (decide (v1 < (s.length:Int)))then
   (idx s v1).bind fun n=>
   if (v==n)then
    some (Step.done v1)
   else
    some (Step.next (IntKind.i64.wrap (v1+(1:Int))))
  else
   (bR.k1).map Step.done
def bR (s:List Int) (v:Int):Option Int:=
 Loop (bR.b1 s v) (0:Int)
def cx (s:List Int) (v:Int):Option Bool:=
 (bR s v).bind fun r=>
 some (decide (r≥(0:Int)))
def fS (i:Int) (p1:cc):Option Bool:=
 (if (i==(0:Int))then
   if p1.Null then
    some true
   else
    (cx p1.Last i).bind fun r=>
    some r
  else
   (cx p1.Last i).bind fun r1=>
   some r1).bind fun v=>
 some v
def jU (a_:cc) (at_:List Int):Option Bool:=
 (bO at_ (fun x0=>fS x0 a_)).bind fun r=>
 some r
def aX.k2 (newslice:List Int):Option (List Int):=
 some newslice
def aX.b1 (slices:List (List Int)):(List Int×Int)→Option (Step ((List Int×Int)) (List Int))
 | (newslice1,v)=>
  if (decide (v < (slices.length:Int)))then
   (idx slices v).bind fun xs=>
   (room 8 (newslice1.length+xs.length)).bind fun _=>
   some (Step.next ((newslice1++xs),(IntKind.i64.wrap (v+(1:Int)))))
  else
   (aX.k2 newslice1).map Step.done
def aX.k1 (slices:List (List Int)) (size:Int):Option (List Int):=
 (fN [] size).bind fun r=>
 Loop (aX.b1 slices) (r,(0:Int))
def aX.b2 (slices:List (List Int)):(Int×Int)→Option (Step ((Int×Int)) (List Int))
 | (size1,v1)=>
  if (decide (v1 < (slices.length:Int)))then
   (idx slices v1).bind fun xs1=>
   if (decide ((IntKind.i64.wrap (size1+(xs1.length:Int))) < (0:Int)))then
    none
   else
    some (Step.next ((IntKind.i64.wrap (size1+(xs1.length:Int))),(IntKind.i64.wrap (v1+(1:Int)))))
  else
   (aX.k1 slices size1).map Step.done
def aX (slices:List (List Int)):Option (List Int):=
 Loop (aX.b2 slices) ((0:Int),(0:Int))
def dw.k1 (b:List UInt8):Option Str:=
 some b
def dw.b1 (at_:List Int):(List UInt8×Int)→Option (Step ((List UInt8×Int)) Str)
 | (b1,v)=>
  if (decide (v < (at_.length:Int)))then
   (idx at_ v).bind fun n=>
   (room 1 (b1.length+2)).bind fun _=>
   some (Step.next ((b1++([(u8 (IntKind.u8.wrap (shR .i64 n (8:Int)))),(u8 (IntKind.u8.wrap n))])),(IntKind.i64.wrap (v+(1:Int)))))
  else
   (dw.k1 b1).map Step.done
def dw (at_:List Int):Option Str:=
 Loop (dw.b1 at_) ([],(0:Int))
def cN.k1 (s:Int) (m:List (Str×Int)) (v:List (List Int)):Option ((Int×List (Str×Int)×List (List Int))):=
 some (s,m,v)
def cN (at_:List Int) (p1:List (Str×Int)) (p2:List (List Int)):Option ((Int×List (Str×Int)×List (List Int))):=
 (dw at_).bind fun r=>
 if (!(aget r p1).isSome)then
  (room 24 (p2.length+1)).bind fun _=>
  cN.k1 (p2.length:Int) (aput r (p2.length:Int) p1) (p2++([at_]))
 else
  cN.k1 ((aget r p1).getD (0:Int)) p1 p2
def aO.k1 (Next:List (List Int)) (Final:List Bool):Option ((TDfa×Int)):=
 some ((TDfa.mk Next Final),(0:Int))
def aO.k2 (s:Int) (Next2:List (List Int)) (Final2:List Bool) (v2:List (List Int)) (m1:List (Str×Int)):Option (Step ((Int×List (List Int)×List Bool×List (List Int)×List (Str×Int))) ((TDfa×Int))):=
 some (Step.next ((IntKind.i64.wrap (s+(1:Int))),Next2,Final2,v2,m1))
def aO.k3 (a_:cc) (s:Int) (Next1:List (List Int)) (Final1:List Bool) (row:List Int) (v3:List (List Int)) (m2:List (Str×Int)):Option (Step ((Int×List (List Int)×List Bool×List (List Int)×List (Str×Int))) ((TDfa×Int))):=
 (idx v3 s).bind fun xs=>
 (room 24 (Next1.length+1)).bind fun _=>
 (jU a_ xs).bind fun r2=>
 (room 1 (Final1.length+1)).bind fun _=>
 aO.k2 s (Next1++([row])) (Final1++([r2])) v3 m2
def aO.k4 (limit:Int) (row1:List Int) (v4:Int) (v5:List (List Int)) (m3:List (Str×Int)) (at_:List Int):Option (Step ((List Int×Int×List (List Int)×List (Str×Int))) (Step ((Int×List (List Int)×List Bool×List (List Int)×List (Str×Int))) ((TDfa×Int)))):=
 (cN at_ m3 v5).bind fun r4=>
 (room 8 (row1.length+1)).bind fun _=>
 if (decide ((r4.2.2.length:Int) > limit))then
  some (Step.done (Step.done ((TDfa.mk ([]:List (List Int)) ([]:List Bool)),(8:Int))))
 else
  some (Step.next ((row1++([r4.1])),(IntKind.i64.wrap (v4+(1:Int))),r4.2.2,r4.2.1))
def aO.b2 (a_:cc) (masks:List Int) (free:Bool) (limit:Int) (s:Int) (Next1:List (List Int)) (Final1:List Bool):(List Int×Int×List (List Int)×List (Str×Int))→Option (Step ((List Int×Int×List (List Int)×List (Str×Int))) (Step ((Int×List (List Int)×List Bool×List (List Int)×List (Str×Int))) ((TDfa×Int))))
 | (row1,v4,v5,m3)=>
  if (decide (v4 < (masks.length:Int)))then
   (idx masks v4).bind fun n=>
   (idx v5 s).bind fun xs1=>
   (cf a_ xs1 n).bind fun r3=>
   if free then
    fY.bind fun r5=>
    (aX ([r5,r3])).bind fun r6=>
    aO.k4 limit row1 v4 v5 m3 r6
   else
    aO.k4 limit row1 v4 v5 m3 r3
  else
   (aO.k3 a_ s Next1 Final1 row1 v5 m3).map Step.done
def aO.b1 (a_:cc) (masks:List Int) (free:Bool) (limit:Int):(Int×List (List Int)×List Bool×List (List Int)×List (Str×Int))→Option (Step ((Int×List (List Int)×List Bool×List (List Int)×List (Str×Int))) ((TDfa×Int)))
 | (s,Next1,Final1,v1,m)=>
  if (decide (s < (v1.length:Int)))then
   Loop (aO.b2 a_ masks free limit s Next1 Final1) ([],(0:Int),v1,m)
  else
   (aO.k1 Next1 Final1).map Step.done
def aO (a_:cc) (masks:List Int) (free:Bool) (limit:Int):Option ((TDfa×Int)):=
 if ((decide ((masks.length:Int) < (1:Int)))||((decide ((masks.length:Int) > (200:Int)))||((decide (limit < (1:Int)))||(decide (limit > (5000:Int))))))then
  some ((TDfa.mk ([]:List (List Int)) ([]:List Bool)),(1:Int))
 else
  fY.bind fun r=>
  (cN r [] []).bind fun r1=>
  Loop (aO.b1 a_ masks free limit) ((0:Int),[],[],r1.2.2,r1.2.1)
def dW (s:Int) (p1:Int):Option Bool:=
 some ((decide (s < (0:Int)))||(decide (s≥p1)))
def eM (row:List Int) (p1:Int) (p2:Int→Option Bool):Option Bool:=
 (if ((row.length:Int) != p1)then
   some true
  else
   (bO row p2).bind fun r=>
   some r).bind fun v=>
 some v
def aL.k1:Option Int:=
 some (-1:Int)
def aL.b1 (s:List (List Int)) (f:(List Int)→Option Bool):Int→Option (Step Int Int)
 | v=>
  if (decide (v < (s.length:Int)))then
   (idx s v).bind fun xs=>
   (f xs).bind fun r=>
   if r then
    some (Step.done v)
   else
    some (Step.next (IntKind.i64.wrap (v+(1:Int))))
  else
   (aL.k1).map Step.done
def aL (s:List (List Int)) (f:(List Int)→Option Bool):Option Int:=
 Loop (aL.b1 s f) (0:Int)
def cr (s:List (List Int)) (f:(List Int)→Option Bool):Option Bool:=
 (aL s f).bind fun r=>
 some (decide (r≥(0:Int)))
def ic (d:TDfa):Option Bool:=
 if ((decide ((d.Next.length:Int) < (1:Int)))||((decide ((d.Next.length:Int) > (5000:Int)))||((d.Final.length:Int) != (d.Next.length:Int))))then
  some false
 else
  (d.Next[0]?).bind fun xs=>
  (if (decide ((xs.length:Int)≥(1:Int)))then
    if (decide ((xs.length:Int)≤(200:Int)))then
     (cr d.Next (fun x0=>eM x0 (xs.length:Int) (fun x0=>dW x0 (d.Next.length:Int)))).bind fun r=>
     some (!r)
    else
     some false
   else
    some false).bind fun v1=>
  some v1
def dQ.k1 (b:List UInt8):Option Str:=
 some b
def dQ.b1 (kind:List Int) (row:List Int):(List UInt8×Int)→Option (Step ((List UInt8×Int)) Str)
 | (b1,v)=>
  if (decide (v < (row.length:Int)))then
   (idx row v).bind fun n1=>
   (idx kind n1).bind fun n2=>
   (room 1 (b1.length+2)).bind fun _=>
   some (Step.next ((b1++([(u8 (IntKind.u8.wrap (shR .i64 n2 (8:Int)))),(u8 (IntKind.u8.wrap n2))])),(IntKind.i64.wrap (v+(1:Int)))))
  else
   (dQ.k1 b1).map Step.done
def dQ (kind:List Int) (i:Int) (row:List Int):Option Str:=
 (idx kind i).bind fun n=>
 Loop (dQ.b1 kind row) ([(u8 (IntKind.u8.wrap (shR .i64 n (8:Int)))),(u8 (IntKind.u8.wrap n))],(0:Int))
def aw.k2 (kind2:List Int) (many1:Int):Option (Step ((List Int×Int)) (List Int)):=
 some (Step.next (kind2,many1))
def aw.k3 (many:Int) (next:List Int) (m:List (Str×Int)):Option (Step ((List Int×Int)) (List Int)):=
 if ((m.length:Int)==many)then
  some (Step.done next)
 else
  aw.k2 next (m.length:Int)
def aw.k4 (kind3:List Int) (next1:List Int) (v:Int) (n:Int) (m2:List (Str×Int)):Option (Step ((List Int×List Int×Int×List (Str×Int))) (Step ((List Int×Int)) (List Int))):=
 (idx next1 v).bind fun n1=>
 some (Step.next (kind3,(List.set next1 (Int.toNat v) n),(IntKind.i64.wrap (v+(1:Int))),m2))
def aw.b2 (d:TDfa) (kind1:List Int) (many:Int):(List Int×List Int×Int×List (Str×Int))→Option (Step ((List Int×List Int×Int×List (Str×Int))) (Step ((List Int×Int)) (List Int)))
 | (kind3,next1,v,m1)=>
  if (decide (v < (kind1.length:Int)))then
   (idx d.Next v).bind fun xs=>
   (dQ kind3 v xs).bind fun r=>
   if (!(aget r m1).isSome)then
    aw.k4 kind3 next1 v (m1.length:Int) (aput r (m1.length:Int) m1)
   else
    aw.k4 kind3 next1 v ((aget r m1).getD (0:Int)) m1
  else
   (aw.k3 many next1 m1).map Step.done
def aw.b1 (d:TDfa):(List Int×Int)→Option (Step ((List Int×Int)) (List Int))
 | (kind1,many)=>
  (mk 8 (0:Int) (kind1.length:Int)).bind fun _=>
  Loop (aw.b2 d kind1 many) (kind1,(List.replicate (Int.toNat (kind1.length:Int)) (0:Int)),(0:Int),[])
def aw.k1 (d:TDfa) (kind:List Int):Option (List Int):=
 Loop (aw.b1 d) (kind,(0:Int))
def aw.k5 (v1:Int) (kind5:List Int):Option (Step ((List Int×Int)) (List Int)):=
 some (Step.next (kind5,(IntKind.i64.wrap (v1+(1:Int)))))
def aw.b3 (d:TDfa):(List Int×Int)→Option (Step ((List Int×Int)) (List Int))
 | (kind4,v1)=>
  if (decide (v1 < ((List.replicate (Int.toNat (d.Next.length:Int)) (0:Int)).length:Int)))then
   (idx d.Final v1).bind fun b=>
   if b then
    (idx kind4 v1).bind fun n2=>
    aw.k5 v1 (List.set kind4 (Int.toNat v1) (1:Int))
   else
    aw.k5 v1 kind4
  else
   (aw.k1 d kind4).map Step.done
def aw (d:TDfa):Option (List Int):=
 (mk 8 (0:Int) (d.Next.length:Int)).bind fun _=>
 Loop (aw.b3 d) ((List.replicate (Int.toNat (d.Next.length:Int)) (0:Int)),(0:Int))
def cO.k1 (n1:Int) (m:List (Int×Int)) (v:List Int):Option ((Int×List (Int×Int)×List Int)):=
 some (n1,m,v)
def cO (s:Int) (p1:List (Int×Int)) (p2:List Int) (p3:List Int):Option ((Int×List (Int×Int)×List Int)):=
 (idx p2 s).bind fun n=>
 if (!(aget n p1).isSome)then
  (room 8 (p3.length+1)).bind fun _=>
  cO.k1 (p3.length:Int) (aput n (p3.length:Int) p1) (p3++([s]))
 else
  cO.k1 ((aget n p1).getD (0:Int)) p1 p3
def bk.k1 (Next:List (List Int)) (Final:List Bool):Option ((TDfa×Int)):=
 some ((TDfa.mk Next Final),(0:Int))
def bk.k2 (i:Int) (m1:List (Int×Int)) (v1:List Int) (Next2:List (List Int)) (Final2:List Bool):Option (Step ((Int×List (Int×Int)×List Int×List (List Int)×List Bool)) ((TDfa×Int))):=
 some (Step.next ((IntKind.i64.wrap (i+(1:Int))),m1,v1,Next2,Final2))
def bk.k3 (d:TDfa) (i:Int) (Next1:List (List Int)) (Final1:List Bool) (row:List Int) (m2:List (Int×Int)) (v2:List Int):Option (Step ((Int×List (Int×Int)×List Int×List (List Int)×List Bool)) ((TDfa×Int))):=
 (idx v2 i).bind fun n1=>
 (idx d.Final n1).bind fun b=>
 (room 24 (Next1.length+1)).bind fun _=>
 (room 1 (Final1.length+1)).bind fun _=>
 bk.k2 i m2 v2 (Next1++([row])) (Final1++([b]))
def bk.b2 (d:TDfa) (r1:List Int) (i:Int) (Next1:List (List Int)) (Final1:List Bool) (xs:List Int):(List Int×Int×List (Int×Int)×List Int)→Option (Step ((List Int×Int×List (Int×Int)×List Int)) (Step ((Int×List (Int×Int)×List Int×List (List Int)×List Bool)) ((TDfa×Int))))
 | (row1,v3,m3,v4)=>
  if (decide (v3 < (xs.length:Int)))then
   (idx xs v3).bind fun n2=>
   (cO n2 m3 r1 v4).bind fun r3=>
   (room 8 (row1.length+1)).bind fun _=>
   some (Step.next ((row1++([r3.1])),(IntKind.i64.wrap (v3+(1:Int))),r3.2.1,r3.2.2))
  else
   (bk.k3 d i Next1 Final1 row1 m3 v4).map Step.done
def bk.b1 (d:TDfa) (r1:List Int):(Int×List (Int×Int)×List Int×List (List Int)×List Bool)→Option (Step ((Int×List (Int×Int)×List Int×List (List Int)×List Bool)) ((TDfa×Int)))
 | (i,m,v,Next1,Final1)=>
  if (decide (i < (v.length:Int)))then
   (idx v i).bind fun n=>
   (idx d.Next n).bind fun xs=>
   Loop (bk.b2 d r1 i Next1 Final1 xs) ([],(0:Int),m,v)
  else
   (bk.k1 Next1 Final1).map Step.done
def bk (d:TDfa):Option ((TDfa×Int)):=
 (ic d).bind fun r=>
 if (!r)then
  some ((TDfa.mk ([]:List (List Int)) ([]:List Bool)),(1:Int))
 else
  (aw d).bind fun r1=>
  (cO (0:Int) [] r1 []).bind fun r2=>
  Loop (bk.b1 d r1) ((0:Int),r2.2.1,r2.2.2,[],[])
def dv (n:aE) (masks:List Int) (limit:Int):Option ((TDfa×Int)):=
 (gW n).bind fun r=>
 if (r.2 != (0:Int))then
  some ((TDfa.mk ([]:List (List Int)) ([]:List Bool)),r.2)
 else
  (aO r.1 masks true limit).bind fun r1=>
  if (r1.2 != (0:Int))then
   some ((TDfa.mk ([]:List (List Int)) ([]:List Bool)),r1.2)
  else
   (bk r1.1).bind fun r2=>
   some (r2.1,r2.2)
def av.k2 (props:List cF):Option (Option bj):=
 (aI props).bind fun r1=>
 (match r1.1 with
 | none=>
  some none
 | some y=>
  some (some y))
def av.k3 (v:Int) (props2:List cF):Option (Step ((List cF×Int)) (Option bj)):=
 some (Step.next (props2,(IntKind.i64.wrap (v+(1:Int)))))
def av.b1 (a_:aB) (r:List Int):(List cF×Int)→Option (Step ((List cF×Int)) (Option bj))
 | (props1,v)=>
  if (decide (v < (r.length:Int)))then
   (idx r v).bind fun n=>
   if (decide (n≤(1114111:Int)))then
    (dF a_ n).bind fun r2=>
    (room 24 (props1.length+1)).bind fun _=>
    av.k3 v (props1++([(cF.mk n (1114111:Int) (u8 (IntKind.u8.wrap r2)))]))
   else
    av.k3 v props1
  else
   (av.k2 props1).map Step.done
def av.k1 (a_:aB) (edges:List Int):Option (Option bj):=
 (rK edges).bind fun l=>
 (cp l).bind fun r=>
 Loop (av.b1 a_ r) ([],(0:Int))
def av.k4 (v1:Int) (edges2:List Int):Option (Step ((List Int×Int)) (Option bj)):=
 some (Step.next (edges2,(IntKind.i64.wrap (v1+(1:Int)))))
def av.b3 (v1:Int) (xs:List ak):(List Int×Int)→Option (Step ((List Int×Int)) (Step ((List Int×Int)) (Option bj)))
 | (edges3,v2)=>
  if (decide (v2 < (xs.length:Int)))then
   (idx xs v2).bind fun x=>
   (room 8 (edges3.length+2)).bind fun _=>
   some (Step.next ((edges3++([x.Low,(IntKind.i64.wrap (x.High+(1:Int)))])),(IntKind.i64.wrap (v2+(1:Int)))))
  else
   (av.k4 v1 edges3).map Step.done
def av.b2 (a_:aB) (sets:List (List ak)):(List Int×Int)→Option (Step ((List Int×Int)) (Option bj))
 | (edges1,v1)=>
  if (decide (v1 < (sets.length:Int)))then
   (idx sets v1).bind fun xs=>
   Loop (av.b3 v1 xs) (edges1,(0:Int))
  else
   (av.k1 a_ edges1).map Step.done
def av (a_:aB) (sets:List (List ak)):Option (Option bj):=
 Loop (av.b2 a_ sets) ([(0:Int)],(0:Int))
def aC.k1 (rules:List bi):Option ((Option aQ×Int)):=
 none
def aC.k2 (v1:Int) (rules2:List bi):Option (Step ((Int×List bi)) ((Option aQ×Int))):=
 some (Step.next ((IntKind.i64.wrap (v1+(1:Int))),rules2))
def aC.k3 (v1:Int) (rules1:List bi) (x:lV) (Next:List (List Int)) (Final:List Bool) (Next1:List (List Int)) (Final1:List Bool):Option (Step ((Int×List bi)) ((Option aQ×Int))):=
 (room 104 (rules1.length+1)).bind fun _=>
 aC.k2 v1 (rules1++([(bi.mk x.Break (ss.mk (TDfa.mk Next Final) (TDfa.mk Next1 Final1)))]))
def aC.b1 (p:bP) (limit:Int) (y:aB):(Int×List bi)→Option (Step ((Int×List bi)) ((Option aQ×Int)))
 | (v1,rules1)=>
  if (decide (v1 < (p.Rules.length:Int)))then
   (idx p.Rules v1).bind fun x=>
   (bM x.Right).bind fun r5=>
   (ck y).bind fun r6=>
   (dv ((kc.mk x.Left r5).v0) r6 limit).bind fun r7=>
   if (r7.2 != (0:Int))then
    some (Step.done (none,r7.2))
   else
    (ck y).bind fun r8=>
    (dv ((kc.mk x.Left r5).v1) r8 limit).bind fun r9=>
    if (r9.2 != (0:Int))then
     some (Step.done (none,r9.2))
    else
     aC.k3 v1 rules1 x r7.1.Next r7.1.Final r9.1.Next r9.1.Final
  else
   (aC.k1 rules1).map Step.done
def aC.k4 (y1:bj) (r4:Int) (rules3:List bi):Option ((Option aQ×Int)):=
 some ((some (aQ.mk rules3 y1 r4)),(0:Int))
def aC.k5 (v2:Int) (rules5:List bi):Option (Step ((Int×List bi)) ((Option aQ×Int))):=
 some (Step.next ((IntKind.i64.wrap (v2+(1:Int))),rules5))
def aC.k6 (v2:Int) (rules4:List bi) (x1:lV) (Next2:List (List Int)) (Final2:List Bool) (Next3:List (List Int)) (Final3:List Bool):Option (Step ((Int×List bi)) ((Option aQ×Int))):=
 (room 104 (rules4.length+1)).bind fun _=>
 aC.k5 v2 (rules4++([(bi.mk x1.Break (ss.mk (TDfa.mk Next2 Final2) (TDfa.mk Next3 Final3)))]))
def aC.b2 (p:bP) (limit:Int) (y:aB) (y1:bj) (r4:Int):(Int×List bi)→Option (Step ((Int×List bi)) ((Option aQ×Int)))
 | (v2,rules4)=>
  if (decide (v2 < (p.Rules.length:Int)))then
   (idx p.Rules v2).bind fun x1=>
   (bM x1.Right).bind fun r10=>
   (ck y).bind fun r11=>
   (dv ((kc.mk x1.Left r10).v0) r11 limit).bind fun r12=>
   if (r12.2 != (0:Int))then
    some (Step.done (none,r12.2))
   else
    (ck y).bind fun r13=>
    (dv ((kc.mk x1.Left r10).v1) r13 limit).bind fun r14=>
    if (r14.2 != (0:Int))then
     some (Step.done (none,r14.2))
    else
     aC.k6 v2 rules4 x1 r12.1.Next r12.1.Final r14.1.Next r14.1.Final
  else
   (aC.k4 y1 r4 rules4).map Step.done
def aC (p:bP) (limit:Int):Option ((Option aQ×Int)):=
 ((bg p).bind fun r=>
   if (!r)then
    some true
   else
    if (decide (limit < (1:Int)))then
     some true
    else
     some (decide (limit > (5000:Int)))).bind fun v=>
 if v then
  some (none,(1:Int))
 else
  (aA p.Sets).bind fun r1=>
  (match r1.1 with
  | none=>
   if (r1.2 != (0:Int))then
    some (none,r1.2)
   else
    none
  | some y=>
   if (r1.2 != (0:Int))then
    some (none,r1.2)
   else
    (av y p.Sets).bind fun r2=>
    (match r2 with
    | none=>
     (dm y).bind fun r3=>
     Loop (aC.b1 p limit y) ((0:Int),[])
    | some y1=>
     (dm y).bind fun r4=>
     Loop (aC.b2 p limit y y1 r4) ((0:Int),[])))
def ie (r:Int):Option Bool:=
 some ((decide (r < (0:Int)))||(decide (r > (1114111:Int))))
def iD (l:List Int):Option Bool:=
 (bO l (ie)).bind fun r=>
 some (!r)
def cU (i:Int) (p1:Int) (p2:List Int):Option Int:=
 if (p1==(1:Int))then
  some (IntKind.i64.wrap ((p2.length:Int) - i))
 else
  some i
def aS.k1 (out:List Bool):Option (List Bool):=
 some out
def aS.k2 (v:Int) (out2:List Bool) (s1:Int):Option (Step ((List Bool×Int×Int)) (List Bool)):=
 some (Step.next (out2,s1,(IntKind.i64.wrap (v+(1:Int)))))
def aS.b1 (m:aQ) (l:List Int) (d:TDfa) (which:Int):(List Bool×Int×Int)→Option (Step ((List Bool×Int×Int)) (List Bool))
 | (out1,s,v)=>
  if (decide (v < ((List.replicate (Int.toNat (IntKind.i64.wrap ((l.length:Int)+(1:Int)))) false).length:Int)))then
   (idx d.Final s).bind fun b=>
   (cU v which l).bind fun r=>
   (idx out1 r).bind fun b1=>
   if (decide (v < (l.length:Int)))then
    (idx d.Next s).bind fun xs=>
    (cU v which l).bind fun r1=>
    (cU (IntKind.i64.wrap (v+(1:Int))) which l).bind fun r2=>
    (idx l (mn r1 r2)).bind fun n=>
    (fm m.trie n).bind fun r3=>
    (idx xs (r3.toNat:Int)).bind fun n1=>
    aS.k2 v (List.set out1 (Int.toNat r) b) n1
   else
    aS.k2 v (List.set out1 (Int.toNat r) b) s
  else
   (aS.k1 out1).map Step.done
def aS (m:aQ) (l:List Int) (d:TDfa) (which:Int):Option (List Bool):=
 (mk 1 false (IntKind.i64.wrap ((l.length:Int)+(1:Int)))).bind fun _=>
 Loop (aS.b1 m l d which) ((List.replicate (Int.toNat (IntKind.i64.wrap ((l.length:Int)+(1:Int)))) false),(0:Int),(0:Int))
def ao.k2 (out1:List Int):Option (List Int):=
 some out1
def ao.k3 (k:Int) (out3:List Int):Option (Step ((List Int×Int)) (List Int)):=
 some (Step.next (out3,(IntKind.i64.wrap (k - (1:Int)))))
def ao.k4 (v:Int) (out5:List Int):Option (Step ((List Int×Int)) (Step ((List Int×Int)) (List Int))):=
 some (Step.next (out5,(IntKind.i64.wrap (v+(1:Int)))))
def ao.b2 (out2:List Int) (k:Int) (r:List Bool) (r1:List Bool):(List Int×Int)→Option (Step ((List Int×Int)) (Step ((List Int×Int)) (List Int)))
 | (out4,v)=>
  if (decide (v < (out2.length:Int)))then
   ((idx r v).bind fun b=>
     if b then
      (idx r1 v).bind fun b1=>
      some b1
     else
      some false).bind fun v1=>
   if v1 then
    (idx out4 v).bind fun n=>
    ao.k4 v (List.set out4 (Int.toNat v) k)
   else
    ao.k4 v out4
  else
   (ao.k3 k out4).map Step.done
def ao.b1 (m:aQ) (l:List Int):(List Int×Int)→Option (Step ((List Int×Int)) (List Int))
 | (out2,k)=>
  if (decide (k≥(0:Int)))then
   (idx m.rules k).bind fun x=>
   (aS m l x.states.v0 (0:Int)).bind fun r=>
   (aS m l x.states.v1 (1:Int)).bind fun r1=>
   Loop (ao.b2 out2 k r r1) (out2,(0:Int))
  else
   (ao.k2 out2).map Step.done
def ao.k1 (m:aQ) (l:List Int) (out:List Int):Option (List Int):=
 Loop (ao.b1 m l) (out,(IntKind.i64.wrap ((m.rules.length:Int) - (1:Int))))
def ao.b3 (m:aQ) (l:List Int):(List Int×Int)→Option (Step ((List Int×Int)) (List Int))
 | (out6,v2)=>
  if (decide (v2 < ((List.replicate (Int.toNat (IntKind.i64.wrap ((l.length:Int)+(1:Int)))) (0:Int)).length:Int)))then
   (idx out6 v2).bind fun n1=>
   some (Step.next ((List.set out6 (Int.toNat v2) (-1:Int)),(IntKind.i64.wrap (v2+(1:Int)))))
  else
   (ao.k1 m l out6).map Step.done
def ao (m:aQ) (l:List Int):Option (List Int):=
 (mk 8 (0:Int) (IntKind.i64.wrap ((l.length:Int)+(1:Int)))).bind fun _=>
 Loop (ao.b3 m l) ((List.replicate (Int.toNat (IntKind.i64.wrap ((l.length:Int)+(1:Int)))) (0:Int)),(0:Int))
def ba.k1 (out:List Int):Option (List Int):=
 some out
def ba.k2 (v:Int) (out2:List Int):Option (Step ((List Int×Int)) (List Int)):=
 some (Step.next (out2,(IntKind.i64.wrap (v+(1:Int)))))
def ba.b1 (m:aQ) (l:List Int) (r1:List Int):(List Int×Int)→Option (Step ((List Int×Int)) (List Int))
 | (out1,v)=>
  if (decide (v < (r1.length:Int)))then
   (idx r1 v).bind fun n=>
   (if (v==(0:Int))then
     some true
    else
     if (v==(l.length:Int))then
      some true
     else
      if (decide (n < (0:Int)))then
       some true
      else
       (idx m.rules n).bind fun x=>
       some x.breaks).bind fun v1=>
   if v1 then
    (room 8 (out1.length+1)).bind fun _=>
    ba.k2 v (out1++([v]))
   else
    ba.k2 v out1
  else
   (ba.k1 out1).map Step.done
def ba (m:aQ) (l:List Int):Option (List Int):=
 (iD l).bind fun r=>
 if (!r)then
  some ([]:List Int)
 else
  (ao m l).bind fun r1=>
  Loop (ba.b1 m l r1) ([],(0:Int))
def cu (m:aQ) (l:List Int) (i:Int):Option Bool:=
 (ba m l).bind fun r=>
 (cx r i).bind fun r1=>
 some r1
def dA (m:aQ) (l:List Int) (i:Int):Option Int:=
 ((iD l).bind fun r=>
   if (!r)then
    some true
   else
    if (decide (i < (0:Int)))then
     some true
    else
     some (decide (i > (l.length:Int)))).bind fun v=>
 if v then
  some (-1:Int)
 else
  (ao m l).bind fun r1=>
  (idx r1 i).bind fun n=>
  some n
def bc.k1:Option Bool:=
 some true
def bc.b1 (a_:List Int) (b:List Int):Int→Option (Step Int Bool)
 | i=>
  if (decide (i < (a_.length:Int)))then
   (idx a_ i).bind fun n=>
   (idx b i).bind fun n1=>
   if (n != n1)then
    some (Step.done false)
   else
    some (Step.next (IntKind.i64.wrap (i+(1:Int))))
  else
   (bc.k1).map Step.done
def bc (a_:List Int) (b:List Int):Option Bool:=
 if ((a_.length:Int) != (b.length:Int))then
  some false
 else
  Loop (bc.b1 a_ b) (0:Int)
def dL:Option Bool:=
 (cw ([(u8 (115:Int)),(u8 (101:Int)),(u8 (116:Int)),(u8 (32:Int)),(u8 (97:Int)),(u8 (32:Int)),(u8 (61:Int)),(u8 (32:Int)),(u8 (91:Int)),(u8 (97:Int)),(u8 (45:Int)),(u8 (122:Int)),(u8 (93:Int)),(u8 (59:Int)),(u8 (32:Int)),(u8 (107:Int)),(u8 (101:Int)),(u8 (101:Int)),(u8 (112:Int)),(u8 (32:Int)),(u8 (97:Int)),(u8 (32:Int)),(u8 (47:Int)),(u8 (32:Int)),(u8 (97:Int)),(u8 (59:Int))])).bind fun r=>
 (aC r.1 (100:Int)).bind fun r1=>
 (match r1.1 with
 | none=>
  some false
 | some y=>
  (if (r.2.2==(0:Int))then
    if (r1.2==(0:Int))then
     (du ([(u8 (97:Int)),(u8 (98:Int)),(u8 (32:Int)),(u8 (99:Int))])).bind fun r2=>
     (ba y r2).bind fun r3=>
     (bc r3 ([(0:Int),(2:Int),(3:Int),(4:Int)])).bind fun r4=>
     some r4
    else
     some false
   else
    some false).bind fun v=>
  some v)
def aF.k1 (l:List Int) (i:Int) (y:aQ):Option Bool:=
 if ((decide (i < (1:Int)))||(decide (i≥(l.length:Int))))then
  ((cu y l i).bind fun r3=>
    if (i==(0:Int))then
     some (r3==true)
    else
     some (r3==(i==(l.length:Int)))).bind fun v3=>
  some v3
 else
  ((cut l (IntKind.i64.wrap (i - (1:Int))) (IntKind.i64.wrap (i+(1:Int)))).bind fun _=>
    (cu y l i).bind fun r4=>
    (cu y (List.drop (Int.toNat (IntKind.i64.wrap (i - (1:Int)))) (List.take (Int.toNat (IntKind.i64.wrap (i+(1:Int)))) l)) (1:Int)).bind fun r5=>
    if (r4==r5)then
     (cut l (IntKind.i64.wrap (i - (1:Int))) (IntKind.i64.wrap (i+(1:Int)))).bind fun _=>
     (dA y l i).bind fun r6=>
     (dA y (List.drop (Int.toNat (IntKind.i64.wrap (i - (1:Int)))) (List.take (Int.toNat (IntKind.i64.wrap (i+(1:Int)))) l)) (1:Int)).bind fun r7=>
     some (r6==r7)
    else
     some false).bind fun v4=>
  some v4
def aF.b1 (l:List Int) (i:Int) (y:aQ):Int→Option (Step Int Bool)
 | k=>
  if (decide (k < (l.length:Int)))then
   ((idx l k).bind fun n=>
     if (decide (n < (0:Int)))then
      some true
     else
      some (decide (n > (1114111:Int)))).bind fun v5=>
   if v5 then
    some (Step.done true)
   else
    some (Step.next (IntKind.i64.wrap (k+(1:Int))))
  else
   (aF.k1 l i y).map Step.done
def aF (l:List Int) (i:Int):Option Bool:=
 dL.bind fun r=>
 if ((!r)||(decide ((l.length:Int) > (100:Int))))then
  some r
 else
  (cw ([(u8 (115:Int)),(u8 (101:Int)),(u8 (116:Int)),(u8 (32:Int)),(u8 (97:Int)),(u8 (32:Int)),(u8 (61:Int)),(u8 (32:Int)),(u8 (91:Int)),(u8 (97:Int)),(u8 (45:Int)),(u8 (122:Int)),(u8 (93:Int)),(u8 (59:Int)),(u8 (32:Int)),(u8 (115:Int)),(u8 (101:Int)),(u8 (116:Int)),(u8 (32:Int)),(u8 (98:Int)),(u8 (32:Int)),(u8 (61:Int)),(u8 (32:Int)),(u8 (91:Int)),(u8 (48:Int)),(u8 (45:Int)),(u8 (57:Int)),(u8 (93:Int)),(u8 (59:Int)),(u8 (32:Int)),(u8 (107:Int)),(u8 (101:Int)),(u8 (101:Int)),(u8 (112:Int)),(u8 (32:Int)),(u8 (97:Int)),(u8 (32:Int)),(u8 (47:Int)),(u8 (32:Int)),(u8 (97:Int)),(u8 (59:Int)),(u8 (32:Int)),(u8 (107:Int)),(u8 (101:Int)),(u8 (101:Int)),(u8 (112:Int)),(u8 (32:Int)),(u8 (98:Int)),(u8 (32:Int)),(u8 (47:Int)),(u8 (32:Int)),(u8 (98:Int)),(u8 (59:Int)),(u8 (32:Int)),(u8 (98:Int)),(u8 (114:Int)),(u8 (101:Int)),(u8 (97:Int)),(u8 (107:Int)),(u8 (32:Int)),(u8 (97:Int)),(u8 (32:Int)),(u8 (47:Int)),(u8 (32:Int)),(u8 (98:Int)),(u8 (59:Int))])).bind fun r1=>
  (aC r1.1 (40:Int)).bind fun r2=>
  (match r2.1 with
  | none=>
   some false
  | some y=>
   if ((r1.2.2 != (0:Int))||(r2.2 != (0:Int)))then
    some false
   else
    Loop (aF.b1 l i y) (0:Int))
end
end Go.Val
namespace Go.Val
set_option maxRecDepth 20000
open Go.Proofs
theorem ny (x:ak) {h:Heap} {a:Bool} (e:fo x=some a):
  Runs CT 142 [.cv (.val (.agg [.int .i64 x.Low,.int .i64 x.High]))] h fun o h'=>o=[.cv (.val (.bool a))]∧h'=h:=by
 refine bf Tryz.func142 fun hwf hu=>?_
 obtain ⟨D,hD,hr⟩:=Holds.one e
 dsimp only[fo]at hr
 change aK _ _ _ _ _ ⟨[(0,.cv (.val (.agg [.int .i64 x.Low,.int .i64 x.High])))],h.on []⟩
 refine A_s ?_
 refine cn (sj:=⟨[(2,.cv (.val (.bool ((decide (x.Low < (0:Int)))||((decide (x.High > (1114111:Int)))||(decide (x.Low > x.High)))))))],h.on []⟩) (bC ?_) ?_
 ·refine au 4 ?_
  rcases Bool.eq_false_or_eq_true (decide (x.Low < (0:Int)))with cF1 | cF1
  ·refine af ?_
   exact w_k (ai hwf)
  ·refine au 5 ?_
   rcases Bool.eq_false_or_eq_true (decide (x.High > (1114111:Int)))with cF2 | cF2
   ·refine af ?_
    exact w_k (ai hwf)
   ·refine af ?_
    exact w_k (ai hwf)
 refine bn ?_
 obtain rfl:=hD _ hr
 exact (aY (ai (os':=[]) (sl:=[(2,.cv (.val (.bool ((decide (x.Low < (0:Int)))||((decide (x.High > (1114111:Int)))||(decide (x.Low > x.High)))))))]) hwf) ⟨rfl,aN hwf⟩)
end Go.Val
namespace Go.Val
set_option maxRecDepth 20000
open Go.Proofs
theorem eO (s:List ak) (f:ak→Option Bool) (fid_f:FuncId) (caps_f:List DVal) {h:Heap} (h_f:∀ os x0 r,f x0=some r→Runs CT fid_f ([.cv (.val (.agg [.int .i64 x0.Low,.int .i64 x0.High]))]++sval caps_f) (h.on os) fun o h'=>o=[.cv (.val (.bool r))]∧h'=h.on os) (d_f:∀ i,CT.how fid_f i= .data) {a:Int} (e:ax s f=some a):
  Runs CT 202 [.cv (.val (.sl (List.map bb s))),.cv (.val (.fn fid_f [] caps_f))] h fun o h'=>o=[.cv (.val (.int .i64 a))]∧h'=h:=by
 refine bf Tryz.func202 fun hwf hu=>?_
 have u_f:bv h.n caps_f:=(hu (.cv (.val (.fn fid_f [] caps_f))) (by simp)).2
 have vu_f:=fun k=>eD (k:=k) u_f
 obtain ⟨D,hD,hr⟩:=Holds.one e
 dsimp only[ax]at hr
 change aK _ _ _ _ _ ⟨[(0,.cv (.val (.sl (List.map bb s)))),(1,.cv (.val (.fn fid_f [] caps_f)))],h.on []⟩
 refine A_s ?_
 refine an ?_
 refine A_s ?_
 refine w_K (D:=D) (fun xX:Unit=>⟨[],h.on []⟩) (fun xX:Unit=>ax.k1) (fun xX s' hr ht=>?_) ?_
 ·dsimp only[ax.k1]at hr ht
  refine (w_nT ht ?_)
  refine A_s ?_
  refine bn ?_
  obtain rfl:=hD _ hr
  exact (aY (ai (os':=[]) (sl:=[(4,.cv (.val (.int .i64 (-1:Int))))]) hwf) ⟨rfl,aN hwf⟩)
 ·refine aG ?_
  refine cD (fun xX:Int=>⟨[(0,.cv (.val (.sl (List.map bb s)))),(1,.cv (.val (.fn fid_f [] caps_f))),(7,.cv (.val (.int .i64 (s.length:Int)))),(8,.cv (.val (.int .i64 xX)))],h.on []⟩) hr (ai hwf) (fun W1 xX hr=>?_)
  obtain ⟨v,rfl⟩:∃ z,z=xX:=⟨xX,rfl⟩
  dsimp only[ax.b1]at hr
  refine A_s ?_
  refine an ?_
  refine ar hr (fun cF1 hr=>?_) (fun cF1 hr=>?_)
  ·refine aP ?_
   refine w_n ?_
   refine an ?_
   refine aG ?_
   refine A_s ?_
   refine an ?_
   refine bC ?_
   obtain ⟨x,nF2,eF3,gF4,hr⟩:=hr.idx
   refine au 5 ?_
   obtain ⟨r,eF5,hr⟩:=hr.bind
   refine be (out:=?o_eF5) (hp:=?p_eF5) ?c_eF5 ?d_eF5 ?_
   case c_eF5=>exact h_f _ _ _ eF5
   case d_eF5=>rfl
   refine dd ?_
   refine w_n ?_
   refine ar hr (fun cF6 hr=>?_) (fun cF6 hr=>?_)
   ·refine an ?_
    refine ah ?_
    refine w_n ?_
    refine bn ?_
    obtain rfl:=hD _ hr
    exact (w_br (w_tr (w_tr (w_br (w_tr (w_tr (aY (ai (os':=[]) (sl:=[(4,.cv (.val (.int .i64 v)))]) hwf) ⟨rfl,aN hwf⟩)))))))
   ·refine aP ?_
    refine (w_bn (w_n ?_))
    refine ah ?_
    exact (w_k ⟨(IntKind.i64.wrap (v+(1:Int))),hr,(ai hwf)⟩)
  ·refine cB ?_
   exact (w_te (w_te (w_bx (w_k ⟨(),(hr).map,(ai hwf)⟩))))
end Go.Val
namespace Go.Val
set_option maxRecDepth 20000
open Go.Proofs
theorem ep (s:List ak) (f:ak→Option Bool) (fid_f:FuncId) (caps_f:List DVal) {h:Heap} (h_f:∀ os x0 r,f x0=some r→Runs CT fid_f ([.cv (.val (.agg [.int .i64 x0.Low,.int .i64 x0.High]))]++sval caps_f) (h.on os) fun o h'=>o=[.cv (.val (.bool r))]∧h'=h.on os) (d_f:∀ i,CT.how fid_f i= .data) {a:Bool} (e:bN s f=some a):
  Runs CT 143 [.cv (.val (.sl (List.map bb s))),.cv (.val (.fn fid_f [] caps_f))] h fun o h'=>o=[.cv (.val (.bool a))]∧h'=h:=by
 refine bf Tryz.func143 fun hwf hu=>?_
 have u_f:bv h.n caps_f:=(hu (.cv (.val (.fn fid_f [] caps_f))) (by simp)).2
 have vu_f:=fun k=>eD (k:=k) u_f
 obtain ⟨D,hD,hr⟩:=Holds.one e
 dsimp only[bN]at hr
 change aK _ _ _ _ _ ⟨[(0,.cv (.val (.sl (List.map bb s)))),(1,.cv (.val (.fn fid_f [] caps_f)))],h.on []⟩
 refine A_s ?_
 refine an ?_
 refine bC ?_
 refine au 2 ?_
 obtain ⟨r,eF1,hr⟩:=hr.bind
 refine be (out:=?o_eF1) (hp:=?p_eF1) ?c_eF1 ?d_eF1 ?_
 case c_eF1=>(refine eO s f _ _ ?_ ?_ eF1;(exact (fun os x0 r e=>by rw[yy];exact h_f _ x0 r e));(exact d_f))
 case d_eF1=>rfl
 refine af ?_
 refine w_n ?_
 refine bn ?_
 obtain rfl:=hD _ hr
 exact (aY (ai (os':=[]) (sl:=[(4,.cv (.val (.bool (decide (r≥(0:Int))))))]) hwf) ⟨rfl,aN hwf⟩)
end Go.Val
namespace Go.Val
set_option maxRecDepth 20000
open Go.Proofs
theorem fx (s:List ak) {h:Heap} {a:List ak} (e:bV s=some a):
  Runs CT 144 [.cv (.val (.sl (List.map bb s)))] h fun o h'=>o=[.cv (.row 147 (List.map bb a))]∧h'=h:=by
 refine bf Tryz.func144 fun hwf hu=>?_
 have hr:Holds (bV s) (fun z=>z=a):=Holds.intro e rfl
 unfold bV at hr
 obtain ⟨nF1,hr⟩:=hr.room
 obtain rfl:s=a:=hr
 change aK _ _ _ _ _ ⟨[(0,.cv (.val (.sl (List.map bb s))))],h.on []⟩
 refine A_s ?_
 refine an ?_
 refine an ?_
 refine bC ?_
 refine au 1 ?_
 refine adr rfl Tryz.underlying59 (by simp (disch:=(apply bu.mk;decide)) only[go_sem,Nat.reduceAdd,Nat.reduceLT];rfl) (fun b hb=>?_)
 refine dd ?_
 refine w_n ?_
 cases b with
 | true=>
  have hs:s=[]:=by
   cases s with
   | nil=>rfl
   | cons x l=>exact absurd (hb (by simp)) (by simp)
  subst hs
  refine lG true (fun _=>?_) (fun e=>by cases e)
  refine A_s ?_
  refine bn ?_
  exact (w_tr (aY (ai (os':=[]) (sl:=[(2,.cv (.row 147 (List.map bb ([]:List ak))))]) hwf) ⟨rfl,aN hwf⟩))
 | false=>
  refine lG false (fun e=>by cases e) (fun _=>?_)
  refine aP ?_
  refine w_n ?_
  refine A_s ?_
  refine bn ?_
  exact (aY (ai (os':=[]) (sl:=[(2,.cv (.row 147 (List.map bb s)))]) hwf) ⟨rfl,aN hwf⟩)
end Go.Val
namespace Go.Val
set_option maxRecDepth 20000
open Go.Proofs
theorem qi (l:List ak) (x:ak) {h:Heap} {a:List ak} (e:gL l x=some a):
  Runs CT 148 [.cv (.row 147 (List.map bb l)),.cv (.val (.agg [.int .i64 x.Low,.int .i64 x.High]))] h fun o h'=>o=[.cv (.row 147 (List.map bb a))]∧h'=h:=by
 refine bf Tryz.func148 fun hwf hu=>?_
 obtain ⟨D,hD,hr⟩:=Holds.one e
 dsimp only[gL]at hr
 change aK _ _ _ _ _ ⟨[(0,.cv (.row 147 (List.map bb l))),(1,.cv (.val (.agg [.int .i64 x.Low,.int .i64 x.High])))],h.on []⟩
 iterate 2 refine A_s ?_
 refine an ?_
 obtain ⟨v,vF5,hr⟩:=hr.bind
 refine cn (sj:=⟨[(0,.cv (.row 147 (List.map bb l))),(3,.cv (.val (.ptr (some (h.n+0,0))))),(5,.cv (.val (.int .i64 (l.length:Int)))),(21,.cv (.val (.bool v)))],h.on [some (.cells [.val (.int .i64 x.Low),.val (.int .i64 x.High)])]⟩) (cI [0,1,2,3,4,5,6,7,8,9,10,11,12,13] (by rfl) ?_) ?_
 ·have hr:=Holds.intro (D:=fun z=>z=v) vF5 rfl
  refine bA [0,1,2] [2,1,0] ?_
  rcases hr.ite with ⟨cF1,hr⟩ | ⟨cF1,hr⟩
  ·obtain ⟨x1,nF2,eF3,gF4,hr⟩:=hr.idx
   refine bA [3,4,5,6,7,8,9,10,11,12,13] [13,12,11,10,9,8,7,6,5,4,3,2,1,0] ?_
   refine cW ?_
   obtain rfl:_=v:=hr
   exact w_k (ai hwf)
  ·refine bA [3,4,5,6,7,8,9,10,11,12,13] [13,12,11,10,9,8,7,6,5,4,3,2,1,0] ?_
   refine cW ?_
   obtain rfl:_=v:=hr
   exact w_k (ai hwf)
 refine ar hr (fun cF6 hr=>?_) (fun cF6 hr=>?_)
 ·refine an ?_
  refine cI [0,1,2,3,4,5,6,7,8,9,10,11,12,13,14] (by rfl) ?_
  obtain ⟨x2,nF7,eF8,gF9,hr⟩:=hr.idx
  refine bA [0,1,2,3,4,5,6,7,8,9,10,11,12,13] [13,12,11,10,9,8,7,6,5,4,3,2,1,0] ?_
  refine cP [] ?_
  refine cW ?_
  refine w_n ?_
  refine A_s ?_
  refine bn ?_
  obtain rfl:=hD _ hr
  exact (w_tr (aY (ai (os':=[]) (sl:=[(4,.cv (.row 147 (List.map bb (List.set l (Int.toNat (IntKind.i64.wrap ((l.length:Int) - (1:Int)))) (ak.mk x2.Low (mx x2.High x.High))))))]) hwf) ⟨rfl,aN hwf⟩))
 ·refine aP ?_
  refine w_n ?_
  refine an ?_
  obtain ⟨nF10,hr⟩:=hr.room
  refine ah ?_
  refine w_n ?_
  refine bn ?_
  obtain rfl:=hD _ hr
  exact (aY (ai (os':=[]) (sl:=[(4,.cv (.row 147 (List.map bb (l++([x])))))]) hwf) ⟨rfl,aN hwf⟩)
end Go.Val
namespace Go.Val
set_option maxRecDepth 20000
open Go.Proofs
theorem kN (l:List ak) {h:Heap} {a:(List ak×Int)} (e:cm l=some a):
  Runs CT 78 [.cv (.val (.sl (List.map bb l)))] h fun o h'=>o=[.cv (.val (.sl (List.map bb a.1))),.cv (.val (.int .i64 a.2))]∧h'=h:=by
 refine bf Tryz.func78 fun hwf hu=>?_
 obtain ⟨D,hD,hr⟩:=Holds.one e
 dsimp only[cm]at hr
 change aK _ _ _ _ _ ⟨[(0,.cv (.val (.sl (List.map bb l))))],h.on []⟩
 iterate 2 refine A_s ?_
 refine an ?_
 refine an ?_
 refine bC ?_
 refine au 2 ?_
 obtain ⟨r,eF1,hr⟩:=hr.bind
 refine be (out:=?o_eF1) (hp:=?p_eF1) ?c_eF1 ?d_eF1 ?_
 case c_eF1=>(refine ep l (fo) _ _ ?_ ?_ eF1;(exact (fun os x0 r e=>ny x0 e));(exact (fun i=>by simp[CT])))
 case d_eF1=>rfl
 refine dd ?_
 refine w_n ?_
 refine ar hr (fun cF2 hr=>?_) (fun cF2 hr=>?_)
 ·refine an ?_
  refine ah ?_
  refine w_n ?_
  refine bn ?_
  obtain rfl:=hD _ hr
  exact (w_tr (aY (ai (os':=[]) (sl:=[(2,.cv (.val (.sl (List.map bb ([]:List ak))))),(3,.cv (.val (.int .i64 (1:Int))))]) hwf) ⟨rfl,aN hwf⟩))
 ·refine aP ?_
  refine w_n ?_
  refine an ?_
  refine bC ?_
  refine au 1 ?_
  obtain ⟨r1,eF3,hr⟩:=hr.bind
  refine be (out:=?o_eF3) (hp:=?p_eF3) ?c_eF3 ?d_eF3 ?_
  case c_eF3=>exact fx l eF3
  case d_eF3=>rfl
  refine af ?_
  refine w_n ?_
  refine an ?_
  refine bC ?_
  refine au 1 ?_
  obtain ⟨l1,eF4,hr⟩:=hr.bind
  refine alf  rfl (by simp (disch:=(apply bu.mk;decide)) only[go_sem,Nat.reduceAdd,Nat.reduceLT,Nat.reduceMul,Nat.reduceLeDiff,Int.reduceToNat,Int.reduceLT,Int.reduceLE,Option.getD_some] <;> rfl) rfl (by simp (disch:=(apply bu.mk;decide)) only[go_sem,Nat.reduceAdd,Nat.reduceLT,Nat.reduceMul,Nat.reduceLeDiff,Int.reduceToNat,Int.reduceLT,Int.reduceLE,Option.getD_some] <;> rfl) (by simp (disch:=(apply bu.mk;decide)) only[go_sem,Nat.reduceAdd,Nat.reduceLT,Nat.reduceMul,Nat.reduceLeDiff,Int.reduceToNat,Int.reduceLT,Int.reduceLE,Option.getD_some] <;> rfl) (by simp (disch:=(apply bu.mk;decide)) only[go_sem,Nat.reduceAdd,Nat.reduceLT,Nat.reduceMul,Nat.reduceLeDiff,Int.reduceToNat,Int.reduceLT,Int.reduceLE,Option.getD_some] <;> rfl) (by rfl) (akA eF4) ?_
  refine dd ?_
  refine w_n ?_
  refine A_s ?_
  refine an ?_
  refine A_s ?_
  refine w_K (D:=D) (fun xX:List ak=>⟨[(6,.cv (.row 147 (List.map bb xX)))],h.on []⟩) (fun xX:List ak=>cm.k1 xX) (fun xX s' hr ht=>?_) ?_
  ·obtain ⟨out,rfl⟩:∃ z,z=xX:=⟨xX,rfl⟩
   dsimp only[cm.k1]at hr ht
   refine (w_nT ht ?_)
   refine A_s ?_
   refine bn ?_
   obtain rfl:=hD _ hr
   exact (aY (.fix _ _ (.slot 2) 147 _ A_hr (ai (os':=[]) (sl:=[(2,.cv (.val (.sl (List.map bb out)))),(3,.cv (.val (.int .i64 (0:Int))))]) hwf)) ⟨rfl,aN hwf⟩)
  ·refine aG ?_
   refine cD (fun xX:(List ak×Int)=>⟨[(5,.cv (.row 147 (List.map bb l1))),(6,.cv (.row 147 (List.map bb xX.1))),(16,.alias (.slot 5)),(17,.cv (.val (.int .i64 (l1.length:Int)))),(18,.cv (.val (.int .i64 xX.2)))],h.on []⟩) hr (ai hwf) (fun W1 xX hr=>?_)
   obtain ⟨out1,v⟩:=xX
   dsimp only[cm.b1]at hr
   refine A_s ?_
   refine an ?_
   refine ar hr (fun cF5 hr=>?_) (fun cF5 hr=>?_)
   ·refine aP ?_
    refine w_n ?_
    refine an ?_
    refine aG ?_
    refine an ?_
    obtain ⟨x,nF6,eF7,gF8,hr⟩:=hr.idx
    refine ah ?_
    refine w_n ?_
    refine bC ?_
    refine au 2 ?_
    obtain ⟨r2,eF9,hr⟩:=hr.bind
    refine be (out:=?o_eF9) (hp:=?p_eF9) ?c_eF9 ?d_eF9 ?_
    case c_eF9=>exact qi out1 x eF9
    case d_eF9=>rfl
    refine af ?_
    refine (w_bn (w_n ?_))
    refine ah ?_
    exact (w_k ⟨(r2,(IntKind.i64.wrap (v+(1:Int)))),hr,(ai hwf)⟩)
   ·refine cB ?_
    exact (w_te (w_te (w_bx (w_k ⟨out1,(hr).map,(ai hwf)⟩))))
end Go.Val

/- A value semantics of the model's programs, sound against it, and functions read off the given program with the proofs that it runs so; no condition. -/
import Derived.Test.YtmfelmglmhjggaaGreatOwnC
import Derived.Sort.Defs
import Derived.Lib.BitFns
import Derived.Lib.SlicesCompact
import Derived.Test.YtmfelmglmhjggaaGreatChecked
import Derived.SizedLaws
import Derived.ChangeArms
import Derived.Shelf.SlSortCmp.NoneTotal
import Derived.Shelf.SlicesG.Cmp
import Derived.Shelf.SortG.AssemblyIn
import Derived.Shelf.SortG.SortNone
import Derived.Shelf.SlicesG.CompactI
import Derived.Sort.EveryDepth
import Derived.Shelf.SlicesE.DeleteFunc
import Derived.Shelf.SlicesQ.Reverse
import Derived.Shelf.Spec.SlicesGrow
import Derived.WalkKit
import Derived.OwnWalkIn
import Derived.TacticsInMore
import Derived.Deep.QuietTactic
import Derived.BigQuiet
import Derived.Laws.BytesArg
import Derived.Shelf.Strings.Builder2
import Derived.Shelf.Strings.BuilderK
set_option linter.all false
set_option linter.unnecessarySimpa false
set_option linter.unusedVariables false
set_option linter.unusedSimpArgs false
namespace Go.Val
structure aD where
 Kind:Int
 Set:Int
 Kids:List aD
instance:Inhabited aD:=⟨⟨default,default,[]⟩⟩
mutual
def bW:aD→au
 |⟨Kind,Set,Kids⟩=>.agg [.int .i64 Kind,.int .i64 Set,.sl (yE Kids)]
def yE:List aD→List au
 | []=>[]
 |x::xs=>bW x::yE xs
end
theorem wc:∀(l:List aD),yE l=List.map bW l
 | []=>rfl
 |x::xs=>by simp only[yE,List.map_cons,wc xs]
theorem iI(x:aD):bW x= .agg [.int .i64 x.Kind,.int .i64 x.Set,.sl (List.map bW x.Kids)]:=by cases x;simp only[bW,wc]
mutual
theorem ut(n:Nat):∀(x:aD),(bW x).under n
 |⟨Kind,Set,Kids⟩=>by simp only[bW,au.under,cc,and_true,true_and];exact rG n Kids
theorem rG(n:Nat):∀(l:List aD),cc n (yE l)
 | []=>trivial
 |x::xs=>⟨ut n x,rG n xs⟩
end
instance:Enc bW 3:=⟨fun x=>by rw[iI];rfl,ut⟩
attribute [go_sem] iI
structure ah where
 Low:Int
 High:Int
 deriving DecidableEq,Inhabited
def ay(x:ah):au:=.agg [.int .i64 x.Low,.int .i64 x.High]
instance:Enc ay 2:=⟨fun _=>rfl,fun n x=>by simp only[ay,au.under,cc,dL,and_self]⟩
attribute [go_sem] ay
structure nG where
 Break:Bool
 Left:aD
 Right:aD
 deriving Inhabited
def eu(x:nG):au:=.agg [.bool x.Break,.int .i64 x.Left.Kind,.int .i64 x.Left.Set,.sl (List.map bW x.Left.Kids),.int .i64 x.Right.Kind,.int .i64 x.Right.Set,.sl (List.map bW x.Right.Kids)]
instance:Enc eu 7:=⟨fun _=>rfl,fun n x=>by simp only[eu,au.under,cc,dL,and_self]⟩
attribute [go_sem] eu
structure bL where
 Sets:List (List ah)
 Rules:List nG
 deriving Inhabited
def gB(x:bL):au:=.agg [.sl (List.map (eL ay) x.Sets),.sl (List.map eu x.Rules)]
instance:Enc gB 2:=⟨fun _=>rfl,fun n x=>by simp only[gB,au.under,cc,dL,and_self]⟩
attribute [go_sem] gB
structure be where
 sets:Int
 met:Int
 deriving DecidableEq,Inhabited
def jX(x:be):au:=.agg [.int .i64 x.sets,.int .i64 x.met]
instance:Enc jX 2:=⟨fun _=>rfl,fun n x=>by simp only[jX,au.under,cc,dL,and_self]⟩
attribute [go_sem] jX
structure bZ where
 Low:Int
 High:Int
 Value:UInt8
 deriving DecidableEq,Inhabited
def dM(x:bZ):au:=.agg [.int .i64 x.Low,.int .i64 x.High,.int .u8 (x.Value.toNat:Int)]
instance:Enc dM 3:=⟨fun _=>rfl,fun n x=>by simp only[dM,au.under,cc,dL,and_self]⟩
attribute [go_sem] dM
structure bQ where
 like:Vector UInt8 4352
 first:List (Vector UInt8 256)
 deriving DecidableEq,Inhabited
structure aQ where
 trie:bQ
 masks:List Int
 least:List Int
 deriving DecidableEq,Inhabited
structure aS where
 Sets:List (List ah)
 M:List Int
 First:List Int
 deriving DecidableEq,Inhabited
def fI(x:aS):au:=.agg [.sl (List.map (eL ay) x.Sets),.sl (List.map (eK .u64) x.M),.sl (List.map eI x.First)]
instance:Enc fI 3:=⟨fun _=>rfl,fun n x=>by simp only[fI,au.under,cc,dL,and_self]⟩
attribute [go_sem] fI
structure ba where
 First:List UInt8
 Like:List Int
 deriving DecidableEq,Inhabited
def ij(x:ba):au:=.agg [.sl (List.map eU x.First),.sl (List.map eI x.Like)]
instance:Enc ij 2:=⟨fun _=>rfl,fun n x=>by simp only[ij,au.under,cc,dL,and_self]⟩
attribute [go_sem] ij
structure cM where
 Null:Bool
 Sets:List Int
 First:List Int
 Last:List Int
 Follow:List (List Int)
 deriving DecidableEq,Inhabited
def aiF(x:cM):au:=.agg [.bool x.Null,.sl (List.map eI x.Sets),.sl (List.map eI x.First),.sl (List.map eI x.Last),.sl (List.map (eL eI) x.Follow)]
instance:Enc aiF 5:=⟨fun _=>rfl,fun n x=>by simp only[aiF,au.under,cc,dL,and_self]⟩
attribute [go_sem] aiF
structure aB where
 null:Bool
 first:List Int
 last:List Int
 deriving DecidableEq,Inhabited
def nO(x:aB):au:=.agg [.bool x.null,.sl (List.map eI x.first),.sl (List.map eI x.last)]
instance:Enc nO 3:=⟨fun _=>rfl,fun n x=>by simp only[nO,au.under,cc,dL,and_self]⟩
attribute [go_sem] nO
structure fG where
 Next:List (List Int)
 Final:List Bool
 deriving DecidableEq,Inhabited
def axJ(x:fG):au:=.agg [.sl (List.map (eL eI) x.Next),.sl (List.map eB x.Final)]
instance:Enc axJ 2:=⟨fun _=>rfl,fun n x=>by simp only[axJ,au.under,cc,dL,and_self]⟩
attribute [go_sem] axJ
structure vK where
 v0:fG
 v1:fG
 deriving DecidableEq,Inhabited
def aiO(x:vK):au:=.agg [.sl (List.map (eL eI) x.v0.Next),.sl (List.map eB x.v0.Final),.sl (List.map (eL eI) x.v1.Next),.sl (List.map eB x.v1.Final)]
instance:Enc aiO 4:=⟨fun _=>rfl,fun n x=>by simp only[aiO,au.under,cc,dL,and_self]⟩
attribute [go_sem] aiO
structure bP where
 breaks:Bool
 states:vK
 deriving DecidableEq,Inhabited
def cu(x:bP):au:=.agg [.bool x.breaks,.sl (List.map (eL eI) x.states.v0.Next),.sl (List.map eB x.states.v0.Final),.sl (List.map (eL eI) x.states.v1.Next),.sl (List.map eB x.states.v1.Final)]
instance:Enc cu 5:=⟨fun _=>rfl,fun n x=>by simp only[cu,au.under,cc,dL,and_self]⟩
attribute [go_sem] cu
structure aV where
 rules:List bP
 trie:bQ
 classes:Int
 deriving DecidableEq,Inhabited
structure mW where
 v0:aD
 v1:aD
 deriving Inhabited
def abd(x:mW):au:=.agg [.int .i64 x.v0.Kind,.int .i64 x.v0.Set,.sl (List.map bW x.v0.Kids),.int .i64 x.v1.Kind,.int .i64 x.v1.Set,.sl (List.map bW x.v1.Kids)]
instance:Enc abd 6:=⟨fun _=>rfl,fun n x=>by simp only[abd,au.under,cc,dL,and_self]⟩
attribute [go_sem] abd
noncomputable section
def ltR(a b:ah):Bool:=decide (a.Low < b.Low)
def adx(l:List ah):Option (List ah):=
 if l.length≤dU then some (Go.Sort.pdq ltR l.toArray 0 l.length (Go.Lib.bitLen l.length) true true).toList else none
def tC(l:List Int):Option (List Int):=
 if l.length≤dU then some (l.mergeSort fun x y=>decide (x≤y))else none
def cF(s:List ah):Option (List ah):=
 (room 16 (0+s.length)).bind fun _=>some s
def dz(s:List Int):Option (List Int):=
 (room 8 (0+s.length)).bind fun _=>some s
def cY(s:List Int):Option (List Int):=if s.length≤dU then some (Go.Lib.compact s)else none
open Classical in
def abA{α:Type}(e:α→au)(f:List α→Option (List α))(zs:List au):Option (List au):=
 if h:∃l:List α,zs=l.map e then(f h.choose).map (List.map e)else none
theorem map_inj{α:Type}{e:α→au}(hi:∀a b,e a=e b→a=b):∀{l m:List α},l.map e=m.map e→l=m
 | [],[],_=>rfl
 | [],_::_,h=>by cases h
 |_::_,[],h=>by cases h
 |a::l,b::m,h=>by
  simp only[List.map_cons,List.cons.injEq]at h
  rw[hi a b h.1,map_inj hi h.2]
theorem pZ{α:Type}{e:α→au}(hi:∀a b,e a=e b→a=b){f:List α→Option (List α)}{l l':List α}(h:f l=some l'):abA e f (l.map e)=some (l'.map e):=by
 have hx:∃m:List α,l.map e=m.map e:=⟨l,rfl⟩
 have hc:hx.choose=l:=(map_inj hi hx.choose_spec).symm
 unfold abA
 rw[dif_pos hx,hc,h];rfl
theorem qJ{α:Type}{e:α→au}{f:List α→Option (List α)}{zs ys:List au}(h:abA e f zs=some ys):∃l l',zs=l.map e∧f l=some l'∧ys=l'.map e:=by
 unfold abA at h
 split at h
 ·rename_i hx
  cases hf:f hx.choose with
  |none=>rw[hf]at h;cases h
  |some l'=>rw[hf]at h;cases h;exact⟨_,l',hx.choose_spec,hf,rfl⟩
 ·cases h
theorem afL(a b:ah)(h:ay a=ay b):a=b:=by
 cases a;cases b
 simp only[ay,au.agg.injEq,List.cons.injEq,au.int.injEq,true_and,and_true]at h
 simp only[ah.mk.injEq];exact h
theorem apW(a b:Int)(h:eI a=eI b):a=b:=by
 simp only[eI,au.int.injEq,true_and]at h;exact h
theorem alr:∀(a b:aD),bW a=bW b→a=b:=by
 have key:∀m (a b:aD),SizeOf.sizeOf a < m→bW a=bW b→a=b:=by
  intro m
  induction m with
  |zero=>intro a b h;omega
  |succ m ih=>
   intro a b hm h
   obtain⟨k,s,l⟩:=a
   obtain⟨k',s',l'⟩:=b
   rw[iI,iI]at h
   simp only[au.agg.injEq,List.cons.injEq,au.int.injEq,au.sl.injEq,true_and,and_true]at h
   obtain⟨rfl,rfl,h⟩:=h
   congr 1
   simp only[aD.mk.sizeOf_spec]at hm
   have go:∀(l l':List aD),SizeOf.sizeOf l < m→l.map bW=l'.map bW→l=l':=by
    intro l
    induction l with
    |nil=>intro l' _ h;cases l' with
     |nil=>rfl
     |cons _ _=>cases h
    |cons x l ihl=>
     intro l' hm h
     cases l' with
     |nil=>cases h
     |cons y l'=>
      simp only[List.map_cons,List.cons.injEq]at h
      simp only[List.cons.sizeOf_spec]at hm
      rw[ih x y (by omega) h.1,ihl l' (by omega) h.2]
   exact go l l' (by omega) h
 exact fun a b h=>key _ a b (Nat.lt_succ_self _) h
def at1(l:List aD):Option (List aD):=if l.length≤dU then some l.reverse else none
open Classical in
def akq(g:FuncId)(ds:List au)(k:TypeId)(zs:List au):Option (List au):=
 if g=145∧ds=[.fn 146 [] []]∧k=147 then abA ay adx zs else if (g=83∨g=260)∧ds=[]∧k=3 then abA eI tC zs else if g=86∧ds=[]∧k=31 then abA bW at1 zs else none
theorem alG{l l':List ah}(h:adx l=some l'):akq 145 [.fn 146 [] []] 147 (l.map ay)=some (l'.map ay):=by
 unfold akq
 rw[if_pos ⟨rfl,rfl,rfl⟩];exact pZ afL h
theorem zD{l l':List Int}(h:tC l=some l'):akq 83 [] 3 (l.map eI)=some (l'.map eI):=by
 unfold akq
 rw[if_neg (by decide),if_pos ⟨.inl rfl,rfl,rfl⟩];exact pZ apW h
theorem al1{l l':List Int}(h:tC l=some l'):akq 260 [] 3 (l.map eI)=some (l'.map eI):=by
 unfold akq
 rw[if_neg (by decide),if_pos ⟨.inr rfl,rfl,rfl⟩];exact pZ apW h
theorem aoA{l l':List aD}(h:at1 l=some l'):akq 86 [] 31 (l.map bW)=some (l'.map bW):=by
 unfold akq
 rw[if_neg (by decide),if_neg (by decide),if_pos ⟨rfl,rfl,rfl⟩];exact pZ alr h
def kC(F b:List UInt8):Nat→Nat→Int
 |0,_=> -1
 |n+1,i=>if (F.drop (i*256)).take 256=b then i else kC F b n (i+1)
def dc(t:ba)(b:List UInt8):Option Int:=
 if t.First.length%256=0∧t.First.length≤1048576∧b.length≤1048576 then some (kC t.First b (t.First.length/256) 0)else none
def ou:Nat→Str
 |n=>if h:n < 16 then [if n < 10 then UInt8.ofNat (48+n)else UInt8.ofNat (55+n)]else ou (n/16)++ou (n%16)
decreasing_by all_goals omega
def wb(n:Int):Str:=[92,120,123]++ou n.toNat++[125]
def lp(l:List ah):Str:=[91]++(l.flatMap fun x=>wb x.Low++if x.High=x.Low then []else 45::wb x.High)++[93]
def nI(l:List ah):Option Str:=if l.length≤1200000∧∀x∈l,0≤x.Low∧x.Low≤1114111∧0≤x.High∧x.High≤1114111 then some (lp l)else none
def cG(s:List Int):Option (List Int):=if s.length≤dU then some (Go.Lib.compact s)else none
def ie(s:List Int)(n:Int):Option (List Int):=if s=[]∧0≤n∧n≤17592186044416 then some []else none
def dI(s:List Int)(n:Int):Option (List Int):=if s=[]∧0≤n∧n≤17592186044416 then some []else none
def jC(a s:Int):Bool:=!(amL .u64 (shR .u64 a s) 1==0)
def aiH(A:cM)(i:Int):Bool:=decide (1≤i∧i≤1000000)&&decide (i≤(A.Sets.length:Int))&&decide (0≤A.Sets.getD (i - 1).toNat 0)
def cw(s:List Int)(sign:Int)(A:cM):Option (List Int):=
 if s.length≤dU∧s.all (aiH A)=true then some (s.filter fun i=>jC sign (A.Sets.getD (i - 1).toNat 0))else none
def awW:List UInt8:=[115,101,116,32,97,32,61,32,91,97,45,122,93,59,32,107,101,101,112,32,97,32,47,32,97,59]
def ax5:List UInt8:=[115,101,116,32,97,32,61,32,91,97,45,122,93,59,32,115,101,116,32,98,32,61,32,91,48,45,57,93,59,32,107,101,101,112,32,97,32,47,32,97,59,32,107,101,101,112,32,98,32,47,32,98,59,32,98,114,101,97,107,32,97,32,47,32,98,59]
def ln(s:Int):aD:=⟨1,s,[]⟩
def vF:bL:=⟨[[⟨97,122⟩]],[⟨false,ln 0,ln 0⟩]⟩
def axX:bL:=⟨[[⟨97,122⟩],[⟨48,57⟩]],[⟨false,ln 0,ln 0⟩,⟨false,ln 1,ln 1⟩,⟨true,ln 0,ln 1⟩]⟩
def ee(b:List UInt8):Option (bL×Int×Int):=if b=awW then some (vF,0,0)else if b=ax5 then some (axX,0,0)else none
def at5:List UInt8:=[97,98,32,99]
def ef(b:List UInt8):Option (List Int):=if b=at5 then some [97,98,32,99]else none
def tU(f:FuncId)(a:List SV)(h:bn)(o:List SV)(h':bn):Prop:=
 h'=h∧((f=84∧∃l u,a=[.cv (.row 3 (List.map eI l))]∧cY l=some u∧o=[.cv (.val (.sl (List.map eI u)))])∨
  (f=197∧∃l t b r,a=[.cv (.val (.ptr (some (l,0)))),.cv (.val (.sl (List.map eU b)))]∧h.at_ l=some (.cells [.row 5 (List.map eU t.First),.row 3 (List.map eI t.Like)])∧dc t b=some r∧o=[.cv (.val (.int .i64 r))])∨
  (f=76∧∃l u,a=[.cv (.val (.sl (List.map ay l)))]∧nI l=some u∧o=[.cv (.val (.str (bs u)))])∨
  (f=261∧∃l u,a=[.cv (.row 3 (List.map eI l))]∧cG l=some u∧o=[.cv (.row 3 (List.map eI u))])∨
  ((f=226∨f=273)∧∃n,a=[.cv .nil,.cv (.val (.int .i64 n))]∧0≤n∧n≤17592186044416∧o=[.cv (.row 3 [])])∨
  (f=225∧∃l sg A p q u,a=[.cv (.row 3 (List.map eI l)),.cv (.val (.fn 224 [] [.ptr (some (p,0)),.ptr (some (q,0))]))]∧h.at_ p=some (.cells [.val (.int .u64 sg)])∧h.at_ q=some (.cells (ai7 (aiF A).cells))∧cw l sg A=some u∧o=[.cv (.val (.sl (List.map eI u)))])∨
  (f=17∧∃b r,a=[.cv (.val (.sl (List.map eU b)))]∧ee b=some r∧o=[.cv (.val (gB r.1)),.cv (.val (.int .i64 r.2.1)),.cv (.val (.int .i64 r.2.2))])∨
  (f=29∧∃b r,a=[.cv (.val (.sl (List.map eU b)))]∧ef b=some r∧o=[.cv (.val (.sl (List.map eI r)))]))
end
end Go.Val
namespace Go.Val
open Go.Proofs
noncomputable def CT:Ctx:={ P:=Tryz.prog,how:=fun f i=>if f=148∧i=0 then .move else if f=230∧i=0 then .move else if f=84∧i=0 then .move else if f=261∧i=0 then .move else if f=225∧i=0 then .move else if f=226∧i=0 then .move else if f=273∧i=0 then .move else .data,gives:=fun f=>if f=148 then .move else if f=230 then .move else if f=144 then .move else if f=90 then .move else if f=273 then .move else if f=226 then .move else if f=161 then .move else if f=259 then .move else if f=261 then .move else if f=221 then .move else .data,ext:=akq,hand:=tU }
theorem ayr:CT.P=Tryz.prog:=rfl
abbrev RD(f:FuncId):Prop:=∀{s:St} {r:ResultVar} {rs:List ResultVar},results CT f s (r::rs)=wZ CT f s rs (fB CT.P s r)
abbrev RM(f:FuncId):Prop:=∀{s:St} {t:Nat},results CT f s [.tmp t]=xc s.box s (s.get t)
abbrev HD(f:FuncId)(i:Nat):Prop:=CT.how f i= .data
abbrev HM(f:FuncId)(i:Nat):Prop:=CT.how f i= .move
def ck:World:=⟨#[],fun _ _=>0,0,default,default⟩
theorem ahy:CT.gives 82= .data:=rfl
theorem ago:CT.gives 35= .data:=rfl
theorem abe:CT.gives 222= .data:=rfl
theorem ad2:CT.gives 223= .data:=rfl
theorem mL:CT.gives 156= .data:=rfl
theorem qy:CT.gives 87= .data:=rfl
theorem ro:CT.gives 88= .data:=rfl
theorem vC:CT.gives 89= .data:=rfl
theorem qF:CT.gives 36= .data:=rfl
theorem ahO:HD 30 0:=rfl
theorem ah4:HD 30 1:=rfl
theorem af4:HD 30 2:=rfl
theorem ahW:HD 10 0:=rfl
theorem adJ:HD 202 0:=rfl
theorem acY:HD 202 1:=rfl
theorem adf:HD 143 0:=rfl
theorem ads:HD 143 1:=rfl
theorem acz:HD 144 0:=rfl
theorem ac9:HM 148 0:=rfl
theorem acs:HD 148 1:=rfl
theorem afV:HD 78 0:=rfl
theorem afW:HD 79 0:=rfl
theorem ahu:HD 79 1:=rfl
theorem ahe:HD 75 0:=rfl
theorem afw:HD 76 0:=rfl
theorem adg:HD 139 0:=rfl
theorem abV:HD 140 0:=rfl
theorem abW:HD 141 0:=rfl
theorem ac3:HD 141 1:=rfl
theorem afY:HD 77 0:=rfl
theorem aff:HD 77 1:=rfl
theorem afp:HD 77 2:=rfl
theorem ag4:HD 77 3:=rfl
theorem afZ:HD 31 0:=rfl
theorem abv:HD 205 0:=rfl
theorem abr:HD 205 1:=rfl
theorem adr:HD 205 2:=rfl
theorem acw:HD 149 0:=rfl
theorem acp:HD 149 1:=rfl
theorem ahX:HD 81 0:=rfl
theorem af7:HD 81 1:=rfl
theorem agO:HM 84 0:=rfl
theorem ahU:HD 80 0:=rfl
theorem abb:HD 129 0:=rfl
theorem ab4:HD 129 1:=rfl
theorem afq:HD 65 0:=rfl
theorem ah7:HD 65 1:=rfl
theorem acF:HD 128 0:=rfl
theorem adm:HD 128 1:=rfl
theorem abI:HD 128 2:=rfl
theorem aa8:HD 128 3:=rfl
theorem agc:HD 82 0:=rfl
theorem aby:HD 153 0:=rfl
theorem adQ:HD 153 1:=rfl
theorem ag7:HD 32 0:=rfl
theorem agT:HD 85 0:=rfl
theorem ahK:HD 85 1:=rfl
theorem ain:HD 34 0:=rfl
theorem agn:HD 90 0:=rfl
theorem ahz:HD 37 0:=rfl
theorem aco:HD 263 0:=rfl
theorem adz:HD 263 1:=rfl
theorem aaV:HD 229 0:=rfl
theorem ady:HD 229 1:=rfl
theorem adI:HD 169 0:=rfl
theorem abB:HD 169 1:=rfl
theorem aaN:HM 230 0:=rfl
theorem acS:HD 230 1:=rfl
theorem abQ:HD 230 2:=rfl
theorem abc:HD 167 0:=rfl
theorem acd:HD 167 1:=rfl
theorem abY:HD 167 2:=rfl
theorem ahJ:HD 95 0:=rfl
theorem ahp:HD 96 0:=rfl
theorem agd:HD 96 1:=rfl
theorem abH:HD 168 0:=rfl
theorem abE:HD 168 1:=rfl
theorem agm:HD 97 0:=rfl
theorem afR:HD 98 0:=rfl
theorem aim:HD 98 1:=rfl
theorem af9:HD 99 0:=rfl
theorem aiw:HD 99 1:=rfl
theorem adP:HD 171 0:=rfl
theorem acq:HD 171 1:=rfl
theorem abN:HD 170 0:=rfl
theorem adj:HD 170 1:=rfl
theorem aca:HD 197 0:=rfl
theorem abZ:HD 197 1:=rfl
theorem aa7:HD 132 0:=rfl
theorem acR:HD 132 1:=rfl
theorem aaO:HD 100 0:=rfl
theorem af2:HD 41 0:=rfl
theorem afu:HD 42 0:=rfl
theorem aha:HD 42 1:=rfl
theorem agx:HD 35 0:=rfl
theorem adu:HD 258 0:=rfl
theorem adF:HD 258 1:=rfl
theorem abg:HD 219 0:=rfl
theorem acM:HD 219 1:=rfl
theorem acg:HD 154 0:=rfl
theorem adU:HD 155 0:=rfl
theorem abP:HM 273 0:=rfl
theorem aaP:HD 273 1:=rfl
theorem ad5:HD 259 0:=rfl
theorem adC:HM 261 0:=rfl
theorem acm:HD 221 0:=rfl
theorem acX:HD 221 1:=rfl
theorem abh:HD 220 0:=rfl
theorem aa1:HD 220 1:=rfl
theorem ad4:HD 222 0:=rfl
theorem adV:HD 222 1:=rfl
theorem abu:HD 222 2:=rfl
theorem abO:HD 223 0:=rfl
theorem abp:HD 223 1:=rfl
theorem abq:HD 156 0:=rfl
theorem adY:HD 156 1:=rfl
theorem agt:HD 87 0:=rfl
theorem ac0:HM 225 0:=rfl
theorem acj:HD 225 1:=rfl
theorem adN:HD 160 0:=rfl
theorem adp:HD 160 1:=rfl
theorem adw:HD 160 2:=rfl
theorem aa5:HD 165 0:=rfl
theorem adi:HD 165 1:=rfl
theorem ahr:HD 91 0:=rfl
theorem aio:HD 91 1:=rfl
theorem ahT:HD 94 0:=rfl
theorem afk:HD 94 1:=rfl
theorem ahv:HD 40 0:=rfl
theorem aiv:HD 40 1:=rfl
theorem ad0:HM 226 0:=rfl
theorem acQ:HD 226 1:=rfl
theorem abi:HD 161 0:=rfl
theorem adB:HD 158 0:=rfl
theorem acJ:HD 157 0:=rfl
theorem ah9:HD 88 0:=rfl
theorem agX:HD 88 1:=rfl
theorem agQ:HD 88 2:=rfl
theorem agf:HD 88 3:=rfl
theorem abG:HD 241 0:=rfl
theorem ado:HD 241 1:=rfl
theorem abL:HD 191 0:=rfl
theorem abw:HD 191 1:=rfl
theorem abR:HD 123 0:=rfl
theorem ad6:HD 228 0:=rfl
theorem ab1:HD 228 1:=rfl
theorem adh:HD 228 2:=rfl
theorem abl:HD 163 0:=rfl
theorem ad3:HD 164 0:=rfl
theorem agk:HD 89 0:=rfl
theorem afx:HD 36 0:=rfl
theorem afQ:HD 36 1:=rfl
theorem afr:HD 36 2:=rfl
theorem agi:HD 33 0:=rfl
theorem afB:HD 33 1:=rfl
theorem afI:HD 11 0:=rfl
theorem afJ:HD 11 1:=rfl
theorem agV:HD 38 0:=rfl
theorem ace:HD 166 0:=rfl
theorem af5:HD 93 0:=rfl
theorem afK:HD 93 1:=rfl
theorem ahN:HD 93 2:=rfl
theorem age:HD 93 3:=rfl
theorem ah3:HD 39 0:=rfl
theorem aie:HD 39 1:=rfl
theorem aid:HD 12 0:=rfl
theorem ahV:HD 12 1:=rfl
theorem afF:HD 14 0:=rfl
theorem ahE:HD 14 1:=rfl
theorem afm:HD 14 2:=rfl
theorem agR:HD 15 0:=rfl
theorem aii:HD 15 1:=rfl
theorem af1:HD 15 2:=rfl
theorem aaR:HD 101 0:=rfl
theorem ack:HD 103 0:=rfl
theorem adD:HD 172 0:=rfl
theorem abT:HD 172 1:=rfl
theorem acW:HD 102 0:=rfl
theorem acE:HD 102 1:=rfl
theorem aaW:HD 102 2:=rfl
theorem ahc:HD 43 0:=rfl
theorem af8:HD 43 1:=rfl
theorem aft:HD 44 0:=rfl
theorem ag3:HD 44 1:=rfl
theorem agN:HD 16 0:=rfl
theorem agu:HD 16 1:=rfl
theorem agJ:HD 16 2:=rfl
theorem agU:HD 13 0:=rfl
theorem agF:HD 13 1:=rfl
theorem agy:HD 17 0:=rfl
theorem afP:HD 29 0:=rfl
theorem zA{h:bn}{s:St}{k:Nat}{xs:List au}:xc h s (.cv (.row k xs))=some ([.cv (.row k xs)],h):=rfl
attribute [go_sem] zA
attribute [go_sem] List.length_replicate decide_true Nat.lt_irrefl
attribute [go_sem] Bool.and_true Bool.true_and
theorem auy:RD 30:=ai rfl
theorem awj:RD 10:=ai rfl
theorem arz:RD 142:=ai rfl
theorem atT:RD 202:=ai rfl
theorem arR:RD 143:=ai rfl
theorem awa:RD 78:=ai rfl
theorem avv:RD 79:=ai rfl
theorem avi:RD 75:=ai rfl
theorem asG:RD 139:=ai rfl
theorem aq5:RD 140:=ai rfl
theorem asD:RD 141:=ai rfl
theorem avu:RD 77:=ai rfl
theorem avW:RD 31:=ai rfl
theorem atc:RD 206:=ai rfl
theorem aqJ:RD 205:=ai rfl
theorem asq:RD 149:=ai rfl
theorem auC:RD 81:=ai rfl
theorem awd:RD 80:=ai rfl
theorem asa:RD 150:=ai rfl
theorem atJ:RD 129:=ai rfl
theorem avn:RD 65:=ai rfl
theorem arf:RD 128:=ai rfl
theorem awv:RD 82:=ai rfl
theorem aqK:RD 153:=ai rfl
theorem auv:RD 32:=ai rfl
theorem av3:RD 85:=ai rfl
theorem auW:RD 34:=ai rfl
theorem awB:RD 37:=ai rfl
theorem arC:RD 263:=ai rfl
theorem atY:RD 229:=ai rfl
theorem arv:RD 169:=ai rfl
theorem aqX:RD 167:=ai rfl
theorem avZ:RD 95:=ai rfl
theorem aug:RD 96:=ai rfl
theorem atE:RD 168:=ai rfl
theorem auJ:RD 97:=ai rfl
theorem avT:RD 98:=ai rfl
theorem auF:RD 99:=ai rfl
theorem arq:RD 171:=ai rfl
theorem arj:RD 170:=ai rfl
theorem atD:RD 100:=ai rfl
theorem avS:RD 41:=ai rfl
theorem auZ:RD 42:=ai rfl
theorem aqE:RD 218:=ai rfl
theorem atk:RD 258:=ai rfl
theorem asc:RD 219:=ai rfl
theorem atx:RD 154:=ai rfl
theorem atW:RD 155:=ai rfl
theorem aq6:RD 159:=ai rfl
theorem ata:RD 262:=ai rfl
theorem aro:RD 224:=ai rfl
theorem asR:RD 160:=ai rfl
theorem aq2:RD 165:=ai rfl
theorem auY:RD 91:=ai rfl
theorem aur:RD 94:=ai rfl
theorem avw:RD 40:=ai rfl
theorem asu:RD 227:=ai rfl
theorem asX:RD 162:=ai rfl
theorem arY:RD 158:=ai rfl
theorem aq3:RD 157:=ai rfl
theorem asH:RD 189:=ai rfl
theorem atf:RD 190:=ai rfl
theorem arB:RD 241:=ai rfl
theorem arb:RD 191:=ai rfl
theorem atl:RD 123:=ai rfl
theorem atH:RD 228:=ai rfl
theorem aqF:RD 163:=ai rfl
theorem aqR:RD 164:=ai rfl
theorem awD:RD 33:=ai rfl
theorem avh:RD 11:=ai rfl
theorem awe:RD 92:=ai rfl
theorem aws:RD 38:=ai rfl
theorem aso:RD 166:=ai rfl
theorem aww:RD 93:=ai rfl
theorem av2:RD 39:=ai rfl
theorem awl:RD 12:=ai rfl
theorem auX:RD 14:=ai rfl
theorem avP:RD 15:=ai rfl
theorem arT:RD 101:=ai rfl
theorem arO:RD 103:=ai rfl
theorem atP:RD 172:=ai rfl
theorem as3:RD 102:=ai rfl
theorem au5:RD 43:=ai rfl
theorem avd:RD 44:=ai rfl
theorem auB:RD 16:=ai rfl
theorem awy:RD 13:=ai rfl
theorem axh:RD 9:=ai rfl
theorem aw4:RD 3:=ai rfl
theorem axw:RD 4:=ai rfl
theorem axD:RD 5:=ai rfl
theorem arw:RM 144:=gf rfl
theorem atN:RM 148:=gf rfl
theorem auK:RM 90:=gf rfl
theorem aqP:RM 230:=gf rfl
theorem aq7:RM 259:=gf rfl
theorem atA:RM 221:=gf rfl
theorem aq8:RM 161:=gf rfl
attribute [go_sem] auy Tryz.results30 awj Tryz.results10 arz Tryz.results142 atT Tryz.results202 arR Tryz.results143 arw Tryz.results144 atN Tryz.results148 awa Tryz.results78 avv Tryz.results79 avi Tryz.results75 asG Tryz.results139 aq5 Tryz.results140 asD Tryz.results141 avu Tryz.results77 avW Tryz.results31 atc Tryz.results206 aqJ Tryz.results205 asq Tryz.results149 auC Tryz.results81 awd Tryz.results80 asa Tryz.results150 atJ Tryz.results129 avn Tryz.results65 arf Tryz.results128 awv Tryz.results82 aqK Tryz.results153 auv Tryz.results32 av3 Tryz.results85 auW Tryz.results34 auK Tryz.results90 awB Tryz.results37 arC Tryz.results263 atY Tryz.results229 arv Tryz.results169 aqP Tryz.results230 aqX Tryz.results167 avZ Tryz.results95 aug Tryz.results96 atE Tryz.results168 auJ Tryz.results97 avT Tryz.results98 auF Tryz.results99 arq Tryz.results171 arj Tryz.results170 Tryz.results132 atD Tryz.results100 avS Tryz.results41 auZ Tryz.results42 Tryz.results35 aqE Tryz.results218 atk Tryz.results258 asc Tryz.results219 atx Tryz.results154 atW Tryz.results155 aq7 Tryz.results259 atA Tryz.results221 Tryz.results220 Tryz.results222 Tryz.results223 Tryz.results156 Tryz.results87 aq6 Tryz.results159 ata Tryz.results262 aro Tryz.results224 asR Tryz.results160 aq2 Tryz.results165 auY Tryz.results91 aur Tryz.results94 avw Tryz.results40 asu Tryz.results227 asX Tryz.results162 aq8 Tryz.results161 arY Tryz.results158 aq3 Tryz.results157 Tryz.results88 asH Tryz.results189 atf Tryz.results190 arB Tryz.results241 arb Tryz.results191 atl Tryz.results123 atH Tryz.results228 aqF Tryz.results163 aqR Tryz.results164 Tryz.results89 Tryz.results36 awD Tryz.results33 avh Tryz.results11 awe Tryz.results92 aws Tryz.results38 aso Tryz.results166 aww Tryz.results93 av2 Tryz.results39 awl Tryz.results12 auX Tryz.results14 avP Tryz.results15 arT Tryz.results101 arO Tryz.results103 atP Tryz.results172 as3 Tryz.results102 au5 Tryz.results43 avd Tryz.results44 auB Tryz.results16 awy Tryz.results13 axh Tryz.results9 aw4 Tryz.results3 axw Tryz.results4 axD Tryz.results5
theorem rW:Tryz.prog.info? 31=some Tryz.t31:=dg ck Tryz.typeInfo31
theorem aqf:Tryz.prog.info? 29=some Tryz.t29:=dg ck Tryz.typeInfo29
theorem aqi:Tryz.prog.info? 25=some Tryz.t25:=dg ck Tryz.typeInfo25
theorem ajN:Tryz.prog.info? 22=some Tryz.t22:=dg ck Tryz.typeInfo22
theorem apL:Tryz.prog.info? 23=some Tryz.t23:=dg ck Tryz.typeInfo23
theorem aut:Tryz.prog.info? 59=some Tryz.t59:=dg ck Tryz.typeInfo59
theorem aal:Tryz.prog.info? 33=some Tryz.t33:=dg ck Tryz.typeInfo33
theorem sY:Tryz.prog.info? 147=some Tryz.t147:=dg ck Tryz.typeInfo147
theorem pI:Tryz.prog.info? 3=some Tryz.t3:=dg ck Tryz.typeInfo3
theorem ak1:Tryz.prog.info? 141=some Tryz.t141:=dg ck Tryz.typeInfo141
theorem wC:Tryz.prog.info? 4=some Tryz.t4:=dg ck Tryz.typeInfo4
theorem uf:Tryz.prog.info? 115=some Tryz.t115:=dg ck Tryz.typeInfo115
theorem sQ:Tryz.prog.info? 192=some Tryz.t192:=dg ck Tryz.typeInfo192
theorem aiN:Tryz.prog.info? 188=some Tryz.t188:=dg ck Tryz.typeInfo188
theorem alB:Tryz.prog.info? 187=some Tryz.t187:=dg ck Tryz.typeInfo187
theorem aht:Tryz.prog.info? 5=some Tryz.t5:=dg ck Tryz.typeInfo5
theorem ake:Tryz.prog.info? 190=some Tryz.t190:=dg ck Tryz.typeInfo190
theorem ajx:Tryz.prog.info? 64=some Tryz.t64:=dg ck Tryz.typeInfo64
theorem ajw:Tryz.prog.info? 80=some Tryz.t80:=dg ck Tryz.typeInfo80
theorem nP:Tryz.prog.info? 26=some Tryz.t26:=dg ck Tryz.typeInfo26
theorem ala:Tryz.prog.info? 149=some Tryz.t149:=dg ck Tryz.typeInfo149
theorem xg:Tryz.prog.info? 152=some Tryz.t152:=dg ck Tryz.typeInfo152
theorem aqA:Tryz.prog.info? 47=some Tryz.t47:=dg ck Tryz.typeInfo47
theorem al4:Tryz.prog.info? 128=some Tryz.t128:=dg ck Tryz.typeInfo128
theorem alZ:Tryz.prog.info? 104=some Tryz.t104:=dg ck Tryz.typeInfo104
theorem wq:Tryz.prog.info? 228=some Tryz.t228:=dg ck Tryz.typeInfo228
theorem atM:Tryz.prog.info? 232=some Tryz.t232:=dg ck Tryz.typeInfo232
theorem aek:Tryz.prog.info? 69=some Tryz.t69:=dg ck Tryz.typeInfo69
theorem ajT:Tryz.prog.info? 230=some Tryz.t230:=dg ck Tryz.typeInfo230
theorem amy:Tryz.prog.info? 159=some Tryz.t159:=dg ck Tryz.typeInfo159
theorem aiT:Tryz.prog.info? 233=some Tryz.t233:=dg ck Tryz.typeInfo233
theorem aqw:Tryz.prog.info? 72=some Tryz.t72:=dg ck Tryz.typeInfo72
theorem apV:Tryz.prog.info? 70=some Tryz.t70:=dg ck Tryz.typeInfo70
theorem ajl:Tryz.prog.info? 166=some Tryz.t166:=dg ck Tryz.typeInfo166
theorem ak6:Tryz.prog.info? 241=some Tryz.t241:=dg ck Tryz.typeInfo241
theorem aqj:Tryz.prog.info? 66=some Tryz.t66:=dg ck Tryz.typeInfo66
theorem apZ:Tryz.prog.info? 68=some Tryz.t68:=dg ck Tryz.typeInfo68
theorem apF:Tryz.prog.info? 73=some Tryz.t73:=dg ck Tryz.typeInfo73
theorem yI:Tryz.prog.info? 75=some Tryz.t75:=dg ck Tryz.typeInfo75
theorem awp:Tryz.prog.info? 77=some Tryz.t77:=dg ck Tryz.typeInfo77
theorem adA:Tryz.prog.cellsOf 31=3:=(cI rW).trans rfl
theorem ajM:Tryz.prog.cellsOf 29=1:=(cI aqf).trans rfl
theorem arZ:Tryz.prog.cellsOf 25=2:=(cI aqi).trans rfl
theorem acb:Tryz.prog.cellsOf 22=1:=(cI ajN).trans rfl
theorem ajm:Tryz.prog.cellsOf 23=1:=(cI apL).trans rfl
theorem atr:Tryz.prog.cellsOf 59=1:=(cI aut).trans rfl
theorem as1:Tryz.prog.cellsOf 33=7:=(cI aal).trans rfl
theorem anf:Tryz.prog.cellsOf 147=2:=(cI sY).trans rfl
theorem oC:Tryz.prog.cellsOf 3=1:=(cI pI).trans rfl
theorem apl:Tryz.prog.cellsOf 141=2:=(cI ak1).trans rfl
theorem anN:Tryz.prog.cellsOf 115=3:=(cI uf).trans rfl
theorem api:Tryz.prog.cellsOf 192=256:=(cI sQ).trans rfl
theorem ao6:Tryz.prog.cellsOf 188=1:=(cI aiN).trans rfl
theorem am4:Tryz.prog.cellsOf 187=4352:=(cI alB).trans rfl
theorem ae6:Tryz.prog.cellsOf 5=1:=(cI aht).trans rfl
theorem ani:Tryz.prog.cellsOf 190=4353:=(cI ake).trans rfl
theorem ai6:Tryz.prog.cellsOf 64=1:=(cI ajx).trans rfl
theorem arh:Tryz.prog.cellsOf 80=1:=(cI ajw).trans rfl
theorem ar2:Tryz.prog.cellsOf 26=1:=(cI nP).trans rfl
theorem anE:Tryz.prog.cellsOf 149=3:=(cI ala).trans rfl
theorem ao8:Tryz.prog.cellsOf 152=1:=(cI xg).trans rfl
theorem aqW:Tryz.prog.cellsOf 47=1:=(cI aqA).trans rfl
theorem an0:Tryz.prog.cellsOf 128=2:=(cI al4).trans rfl
theorem anx:Tryz.prog.cellsOf 104=3:=(cI alZ).trans rfl
theorem wu:Tryz.prog.cellsOf 228=1:=(cI wq).trans rfl
theorem aoD:Tryz.prog.cellsOf 232=1:=(cI atM).trans rfl
theorem aqL:Tryz.prog.cellsOf 69=1:=(cI aek).trans rfl
theorem anq:Tryz.prog.cellsOf 230=3:=(cI ajT).trans rfl
theorem zc:Tryz.prog.cellsOf 4=1:=(cI wC).trans rfl
theorem anK:Tryz.prog.cellsOf 159=5:=(cI amy).trans rfl
theorem aol:Tryz.prog.cellsOf 233=1:=(cI aiT).trans rfl
theorem arK:Tryz.prog.cellsOf 70=1:=(cI apV).trans rfl
theorem asJ:Tryz.prog.cellsOf 72=2:=(cI aqw).trans rfl
theorem anH:Tryz.prog.cellsOf 166=1:=(cI ajl).trans rfl
theorem am0:Tryz.prog.cellsOf 241=1:=(cI ak6).trans rfl
theorem ark:Tryz.prog.cellsOf 66=1:=(cI aqj).trans rfl
theorem asr:Tryz.prog.cellsOf 68=3:=(cI apZ).trans rfl
theorem asx:Tryz.prog.cellsOf 73=4:=(cI apF).trans rfl
theorem arF:Tryz.prog.cellsOf 75=5:=(cI yI).trans rfl
theorem avt:fe Tryz.prog 147=true:=by unfold fe;rw[sY];rfl
theorem ao5:Tryz.prog.bytesOf 147=16:=(iH sY).trans rfl
theorem am5:du Tryz.prog 147=true:=by unfold du;rw[sY];rfl
theorem amX:cd Tryz.prog 147=some [.val (.int .i64 (0:Int)),.val (.int .i64 (0:Int))]:=by
 unfold cd fl;rw[sY,Tryz.underlying147];simp[bs,eM,Tryz.t147]
theorem aql:cd Tryz.prog 3=some [.val (.int .i64 (0:Int))]:=by
 unfold cd fl;rw[pI,Tryz.underlying3];simp[bs,eM,Tryz.t3]
theorem awP:Tryz.prog.stoodInHeld 147=false:=by kernel_rfl
theorem au1:Tryz.prog.eqGuardType Tryz.prog.depth 147=false:=by kernel_rfl
theorem ajg{a0 b0:Int}{a1 b1:Int}:me Tryz.prog .neq 147 (.agg [.int .i64 a0,.int .i64 a1]) (.agg [.int .i64 b0,.int .i64 b1])=some (.bool (!(a0==b0&&(a1==b1&&true)))):=
 ajv (awx Tryz.underlying147 awP au1 (aeh (by simp[fl,Tryz.underlying3]) (by simp[asg,Tryz.underlying3,eY,al6]) (aeh (by simp[fl,Tryz.underlying3]) (by simp[asg,Tryz.underlying3,eY,al6]) aru)))
theorem arM:cd Tryz.prog 31=some [.val (.int .i64 (0:Int)),.val (.int .i64 (0:Int)),.nil]:=by
 unfold cd fl;rw[rW,Tryz.underlying31];simp[bs,eM,Tryz.t31]
theorem auh:cL Tryz.prog 141=true:=by
 unfold cL;rw[Tryz.underlying141];simp[pI,pI]
theorem agC:place Tryz.prog 141 0=some (0,1):=by
 unfold place;rw[Tryz.underlying141];simp[oC]
theorem aoa:cd Tryz.prog 141=some [.val (.int .i64 (0:Int)),.val (.int .i64 (0:Int))]:=by
 unfold cd fl;rw[ak1,Tryz.underlying141];simp[bs,eM,Tryz.t141]
theorem aqS:cd Tryz.prog 33=some [.val (.bool false),.val (.int .i64 (0:Int)),.val (.int .i64 (0:Int)),.nil,.val (.int .i64 (0:Int)),.val (.int .i64 (0:Int)),.nil]:=by
 unfold cd fl;rw[aal,Tryz.underlying33];simp[bs,eM,Tryz.t33]
theorem apN:cd Tryz.prog 4=some [.val (.bool false)]:=by
 unfold cd fl;rw[wC,Tryz.underlying4];simp[bs,eM,Tryz.t4]
theorem ayx:fe Tryz.prog 3=true:=by unfold fe;rw[pI];rfl
theorem avH:Tryz.prog.bytesOf 3=8:=(iH pI).trans rfl
theorem avf:du Tryz.prog 3=true:=by unfold du;rw[pI];rfl
theorem zd3:lq Tryz.prog 3=some (.int .i64 (0:Int)):=by
 unfold lq gu fl;rw[aql,oC,Tryz.underlying3];simp[je,CV.toD,bs,au.cells]
theorem asv{v:Vector UInt8 256}:isKey Tryz.prog 192 (.array 256 5) (.agg (List.map eU v.toList))=true:=anl Tryz.underlying5 ae6
theorem avX:fe Tryz.prog 192=true:=by unfold fe;rw[sQ];rfl
theorem ane:Tryz.prog.bytesOf 192=256:=(iH sQ).trans rfl
theorem am2:du Tryz.prog 192=true:=by unfold du;rw[sQ];kernel_rfl
theorem avq:cL Tryz.prog 190=true:=by
 unfold cL;rw[Tryz.underlying190];simp[alB,aiN]
theorem apr:cd Tryz.prog 190=some (cH eU (Vector.replicate 4352 (0:UInt8))++([.nil]:List CV)):=by
 unfold cd fl;rw[ake,Tryz.underlying190];kernel_rfl
theorem ap8:cd Tryz.prog 5=some [.val (.int .u8 (0:Int))]:=by
 unfold cd fl;rw[aht,Tryz.underlying5];simp[bs,eM,Tryz.t5]
theorem anQ:cd Tryz.prog 192=some (cH eU (Vector.replicate 256 (0:UInt8))):=by
 unfold cd fl;rw[sQ,Tryz.underlying192];kernel_rfl
theorem ao9:cd Tryz.prog 115=some [.val (.int .i64 (0:Int)),.val (.int .i64 (0:Int)),.val (.int .u8 (0:Int))]:=by
 unfold cd fl;rw[uf,Tryz.underlying115];simp[bs,eM,Tryz.t115]
theorem auA:cL Tryz.prog 149=true:=by
 unfold cL;rw[Tryz.underlying149];simp[ajx,ajw,nP]
theorem aoT:cd Tryz.prog 149=some [.val (.ptr none),.nil,.nil]:=by
 unfold cd fl;rw[ala,Tryz.underlying149];simp[bs,eM,Tryz.t149]
theorem as8:cd Tryz.prog 26=some [.nil]:=by
 unfold cd fl;rw[nP,Tryz.underlying26];simp[bs,eM,Tryz.t26]
theorem av1:fe Tryz.prog 152=true:=by unfold fe;rw[xg];rfl
theorem apm:Tryz.prog.bytesOf 152=8:=(iH xg).trans rfl
theorem aoO:du Tryz.prog 152=true:=by unfold du;rw[xg];rfl
theorem awF:cL Tryz.prog 115=true:=by
 unfold cL;rw[Tryz.underlying115];simp[pI,pI,aht]
theorem ah6:place Tryz.prog 115 0=some (0,1):=by
 unfold place;rw[Tryz.underlying115];simp[oC]
theorem aia:place Tryz.prog 115 1=some (1,1):=by
 unfold place;rw[Tryz.underlying115];simp[oC]
theorem ahH:place Tryz.prog 115 2=some (2,1):=by
 unfold place;rw[Tryz.underlying115];simp[ae6]
theorem aun:fe Tryz.prog 115=true:=by unfold fe;rw[uf];rfl
theorem an5:Tryz.prog.bytesOf 115=24:=(iH uf).trans rfl
theorem apk:du Tryz.prog 115=true:=by unfold du;rw[uf];rfl
theorem avL:cL Tryz.prog 147=true:=by
 unfold cL;rw[Tryz.underlying147];simp[pI,pI]
theorem agP:place Tryz.prog 147 0=some (0,1):=by
 unfold place;rw[Tryz.underlying147];simp[oC]
theorem agG:place Tryz.prog 147 1=some (1,1):=by
 unfold place;rw[Tryz.underlying147];simp[oC]
theorem awL:Tryz.prog.bytesOf 5=1:=(iH aht).trans rfl
theorem auV:du Tryz.prog 5=true:=by unfold du;rw[aht];rfl
theorem avJ:cL Tryz.prog 128=true:=by
 unfold cL;rw[Tryz.underlying128];simp[aqA,nP]
theorem an8:cd Tryz.prog 128=some [.nil,.nil]:=by
 unfold cd fl;rw[al4,Tryz.underlying128];simp[bs,eM,Tryz.t128]
theorem zd5:lq Tryz.prog 5=some (.int .u8 ((0:UInt8).toNat:Int)):=by
 unfold lq gu fl;rw[ap8,ae6,Tryz.underlying5];simp[je,CV.toD,bs,au.cells]
theorem avy:cL Tryz.prog 104=true:=by
 unfold cL;rw[Tryz.underlying104];simp[ajN,ajw,nP]
theorem agY:place Tryz.prog 104 0=some (0,1):=by
 unfold place;rw[Tryz.underlying104];simp[acb]
theorem apB:cd Tryz.prog 104=some [.nil,.nil,.nil]:=by
 unfold cd fl;rw[alZ,Tryz.underlying104];simp[bs,eM,Tryz.t104]
theorem axv:fe Tryz.prog 31=true:=by unfold fe;rw[rW];rfl
theorem aqG:Tryz.prog.bytesOf 31=40:=(iH rW).trans rfl
theorem ath:du Tryz.prog 31=true:=by unfold du;rw[rW];rfl
theorem aw3:cL Tryz.prog 31=true:=by
 unfold cL;rw[Tryz.underlying31];simp[pI,pI,aqf]
theorem akk:place Tryz.prog 31 0=some (0,1):=by
 unfold place;rw[Tryz.underlying31];simp[oC]
theorem aj8:place Tryz.prog 31 1=some (1,1):=by
 unfold place;rw[Tryz.underlying31];simp[oC]
theorem amC:place Tryz.prog 31 2=some (2,1):=by
 unfold place;rw[Tryz.underlying31];simp[ajM]
theorem avN:fe Tryz.prog 228=true:=by unfold fe;rw[wq];rfl
theorem aou:cd Tryz.prog 230=some [.val (.bool false),.nil,.nil]:=by
 unfold cd fl;rw[ajT,Tryz.underlying230];simp[bs,eM,Tryz.t230]
theorem awK:cL Tryz.prog 230=true:=by
 unfold cL;rw[Tryz.underlying230];simp[wC,wq,wq]
theorem ahh:place Tryz.prog 230 0=some (0,1):=by
 unfold place;rw[Tryz.underlying230];simp[zc]
theorem ais:place Tryz.prog 230 1=some (1,1):=by
 unfold place;rw[Tryz.underlying230];simp[wu]
theorem afG:place Tryz.prog 230 2=some (2,1):=by
 unfold place;rw[Tryz.underlying230];simp[wu]
theorem axN:fe Tryz.prog 26=true:=by unfold fe;rw[nP];rfl
theorem asT:Tryz.prog.bytesOf 26=24:=(iH nP).trans rfl
theorem arA:du Tryz.prog 26=true:=by unfold du;rw[nP];rfl
theorem anB:cd Tryz.prog 159=some [.val (.bool false),.nil,.nil,.nil,.nil]:=by
 unfold cd fl;rw[amy,Tryz.underlying159];simp[bs,eM,Tryz.t159]
theorem arn:cd Tryz.prog 69=some [.nil]:=by
 unfold cd fl;rw[aek,Tryz.underlying69];simp[bs,eM,Tryz.t69]
theorem awh:cL Tryz.prog 159=true:=by
 unfold cL;rw[Tryz.underlying159];simp[wC,nP,nP,nP,aek]
theorem ays:fe Tryz.prog 5=true:=by unfold fe;rw[aht];rfl
theorem ayu:amO Tryz.prog 5=true:=by unfold amO;rw[Tryz.underlying5]
theorem aq0:cd Tryz.prog 72=some [.nil,.nil]:=by
 unfold cd fl;rw[aqw,Tryz.underlying72];simp[bs,eM,Tryz.t72]
theorem aw8:cL Tryz.prog 72=true:=by
 unfold cL;rw[Tryz.underlying72];simp[aek,apV]
theorem aoq:cd Tryz.prog 233=some [.val (.map none)]:=by
 unfold cd fl;rw[aiT,Tryz.underlying233];simp[bs,eM,Tryz.t233]
theorem ayj:fe Tryz.prog 4=true:=by unfold fe;rw[wC];rfl
theorem auN:Tryz.prog.bytesOf 4=1:=(iH wC).trans rfl
theorem au2:du Tryz.prog 4=true:=by unfold du;rw[wC];rfl
theorem aoC:cd Tryz.prog 166=some [.val (.nilfn)]:=by
 unfold cd fl;rw[ajl,Tryz.underlying166];simp[bs,eM,Tryz.t166]
theorem aoW:cd Tryz.prog 241=some [.val (.map none)]:=by
 unfold cd fl;rw[ak6,Tryz.underlying241];simp[bs,eM,Tryz.t241]
theorem aw7:cL Tryz.prog 68=true:=by
 unfold cL;rw[Tryz.underlying68];simp[aqj,ajx,pI]
theorem ajt:place Tryz.prog 68 1=some (1,1):=by
 unfold place;rw[Tryz.underlying68];simp[ai6]
theorem akP:place Tryz.prog 68 2=some (2,1):=by
 unfold place;rw[Tryz.underlying68];simp[oC]
theorem ar0:cd Tryz.prog 68=some [.nil,.val (.ptr none),.val (.int .i64 (0:Int))]:=by
 unfold cd fl;rw[apZ,Tryz.underlying68];simp[bs,eM,Tryz.t68]
theorem axV:cL Tryz.prog 75=true:=by
 unfold cL;rw[Tryz.underlying75];simp[wC,apF]
theorem aki:place Tryz.prog 75 0=some (0,1):=by
 unfold place;rw[Tryz.underlying75];simp[zc]
theorem ari:cd Tryz.prog 75=some [.val (.bool false),.nil,.nil,.nil,.nil]:=by
 unfold cd fl;rw[yI,Tryz.underlying75];simp[bs,eM,Tryz.t75]
theorem axI:cL Tryz.prog 77=true:=by
 unfold cL;rw[Tryz.underlying77];simp[rW]
theorem ajJ:place Tryz.prog 77 0=some (0,3):=by
 unfold place;rw[Tryz.underlying77];simp[adA]
theorem amb:place Tryz.prog 77 1=some (3,3):=by
 unfold place;rw[Tryz.underlying77];simp[adA]
theorem asF:cd Tryz.prog 77=some [.val (.int .i64 (0:Int)),.val (.int .i64 (0:Int)),.nil,.val (.int .i64 (0:Int)),.val (.int .i64 (0:Int)),.nil]:=by
 unfold cd fl;rw[awp,Tryz.underlying77];simp[bs,eM,Tryz.t77]
theorem aw5:fe Tryz.prog 75=true:=by unfold fe;rw[yI];rfl
theorem asY:Tryz.prog.bytesOf 75=104:=(iH yI).trans rfl
theorem as6:du Tryz.prog 75=true:=by unfold du;rw[yI];rfl
theorem zd4:lq Tryz.prog 4=some (.bool false):=by
 unfold lq gu fl;rw[apN,zc,Tryz.underlying4];simp[je,CV.toD,bs,au.cells]
theorem ase:cd Tryz.prog 25=some [.nil,.nil]:=by
 unfold cd fl;rw[aqi,Tryz.underlying25];simp[bs,eM,Tryz.t25]
theorem am7:me Tryz.prog .eql 34 (.ptr none) (.ptr none)=some (.bool true):=by simp[me,eqD,Tryz.underlying34,eY]
theorem aoY:me Tryz.prog .neq 34 (.ptr none) (.ptr none)=some (.bool false):=by simp[me,eqD,Tryz.underlying34,eY]
theorem aps{a:Nat×Nat}:me Tryz.prog .eql 34 (.ptr (some a)) (.ptr none)=some (.bool false):=by simp[me,eqD,Tryz.underlying34,eY]
theorem aoM{a:Nat×Nat}:me Tryz.prog .neq 34 (.ptr (some a)) (.ptr none)=some (.bool true):=by simp[me,eqD,Tryz.underlying34,eY]
theorem axy:cL Tryz.prog 33=true:=by
 unfold cL;rw[Tryz.underlying33];simp[wC,rW,rW]
theorem ajs:place Tryz.prog 33 0=some (0,1):=by
 unfold place;rw[Tryz.underlying33];simp[zc]
theorem axg:fe Tryz.prog 33=true:=by unfold fe;rw[aal];rfl
theorem atB:Tryz.prog.bytesOf 33=88:=(iH aal).trans rfl
theorem asl:du Tryz.prog 33=true:=by unfold du;rw[aal];rfl
theorem axH:cL Tryz.prog 25=true:=by
 unfold cL;rw[Tryz.underlying25];simp[ajN,apL]
theorem akd:place Tryz.prog 25 0=some (0,1):=by
 unfold place;rw[Tryz.underlying25];simp[acb]
theorem akh:place Tryz.prog 25 1=some (1,1):=by
 unfold place;rw[Tryz.underlying25];simp[ajm]
theorem ayw{a b:Bool}:me Tryz.prog .eql 4 (.bool a) (.bool b)=some (.bool (a==b)):=by simp[me,eqD,Tryz.underlying4,eY]
theorem ayp{a b:Bool}:me Tryz.prog .neq 4 (.bool a) (.bool b)=some (.bool (!(a==b))):=by simp[me,eqD,Tryz.underlying4,eY]
attribute [go_sem] ayr adA Tryz.underlying31 ajM Tryz.underlying29 Tryz.underlying3 arZ Tryz.underlying25 acb Tryz.underlying22 ajm Tryz.underlying23 atr Tryz.underlying59 as1 Tryz.underlying33 anf Tryz.underlying147 oC avt ao5 am5 amX aql ajg Tryz.underlying141 arM Tryz.underlying136 Tryz.underlying9 auh agC aoa apl aqS Tryz.underlying4 apN Tryz.underlying186 Tryz.underlying152 Tryz.underlying26 ayx avH avf anN Tryz.underlying115 Tryz.underlying118 api Tryz.underlying192 Tryz.underlying197 zd3 asv Tryz.underlying190 ao6 Tryz.underlying188 avX ane am2 Tryz.underlying5 am4 Tryz.underlying187 ae6 avq apr ap8 ani anQ ao9 Tryz.underlying149 auA aoT Tryz.underlying64 Tryz.underlying80 as8 ai6 arh ar2 anE Tryz.underlying150 ao8 av1 apm aoO awF ah6 aia ahH aun an5 apk avL agP agG Tryz.underlying104 Tryz.underlying128 aqW Tryz.underlying47 awL auV avJ an8 an0 zd5 avy agY apB anx axv aqG ath aw3 akk aj8 amC Tryz.underlying323 wu Tryz.underlying228 avN aoD Tryz.underlying232 Tryz.underlying159 aqL Tryz.underlying69 anq Tryz.underlying230 aou zc awK ahh ais afG axN asT arA anB arn awh anK ays ayu aol Tryz.underlying233 Tryz.underlying72 aq0 Tryz.underlying70 aw8 arK asJ aoq ayj auN au2 anH Tryz.underlying166 aoC am0 Tryz.underlying241 aoW Tryz.underlying68 aw7 ajt akP ar0 Tryz.underlying66 ark asr Tryz.underlying75 axV aki ari Tryz.underlying73 asx arF Tryz.underlying77 axI ajJ amb asF aw5 asY as6 zd4 ase am7 aoY aps aoM axy ajs axg atB asl axH akd akh ayw ayp
attribute [go_sem] ahO ah4 af4 ahW adJ acY adf ads acz ac9 acs afV afW ahu ahe afw adg abV abW ac3 afY aff afp ag4 afZ abv abr adr acw acp ahX af7 agO ahU abb ab4 afq ah7 acF adm abI aa8 agc aby adQ ag7 agT ahK ain agn ahz aco adz aaV ady adI abB aaN acS abQ abc acd abY ahJ ahp agd abH abE agm afR aim af9 aiw adP acq abN adj aca abZ aa7 acR aaO af2 afu aha agx adu adF abg acM acg adU abP aaP ad5 adC acm acX abh aa1 ad4 adV abu abO abp abq adY agt ac0 acj adN adp adw aa5 adi ahr aio ahT afk ahv aiv ad0 acQ abi adB acJ ah9 agX agQ agf abG ado abL abw abR ad6 ab1 adh abl ad3 agk afx afQ afr agi afB afI afJ agV ace af5 afK ahN age ah3 aie aid ahV afF ahE afm agR aii af1 aaR ack adD abT acW acE aaW ahc af8 aft ag3 agN agu agJ agU agF agy afP
end Go.Val
namespace Go.Val
open Go.Proofs
set_option maxRecDepth 100000
theorem mixed:Tryz.prog.follows .mixedOrders=true:=by kernel_rfl
theorem alX{m:Nat}{ds:List au}(h:isT Tryz.prog m 147 ds):∃x:ah,ds=(ay x).cells:=by
 cases m with
 |zero=>exact h.elim
 |succ m=>
 unfold isT at h
 rw[Tryz.underlying147]at h
 simp only[isF]at h
 obtain⟨a,b,rfl,h1,c,d,rfl,h2,rfl⟩:=h
 cases m with
 |zero=>exact h1.elim
 |succ m=>
 obtain⟨n,rfl,_⟩:=ug Tryz.underlying3 h1
 obtain⟨k,rfl,_⟩:=ug Tryz.underlying3 h2
 exact⟨⟨n,k⟩,rfl⟩
theorem ah0{m:Nat}{ds:List au}(h:isT Tryz.prog m 59 ds):∃l:List ah,ds=[eL ay l]:=by
 cases m with
 |zero=>exact h.elim
 |succ m=>
 obtain⟨l,h1,_⟩:=nn (en:=ay) Tryz.underlying59 h fun x hx hag _=>by
  obtain⟨y,hy⟩:=alX hx
  obtain⟨cs,rfl⟩:=hag (by simp[fl,Tryz.underlying147])
  exact⟨y,by simp only[au.cells]at hy;rw[hy];rfl⟩
 exact⟨l,h1⟩
theorem abz{m:Nat}{ds:List au}(h:isT Tryz.prog m 22 ds):∃l:List (List ah),ds=[eL (eL ay) l]:=by
 cases m with
 |zero=>exact h.elim
 |succ m=>
 obtain⟨l,h1,_⟩:=nn (en:=eL ay) Tryz.underlying22 h fun x hx _ ho=>by
  obtain⟨l,hl⟩:=ah0 hx
  exact⟨l,ap4 hl (ho (by simp[fl,Tryz.underlying59]))⟩
 exact⟨l,h1⟩
theorem xD:∀{m:Nat} {ds:List au},isT Tryz.prog m 31 ds→∃x:aD,ds=(bW x).cells
 |0,ds,h=>h.elim
 |1,ds,h=>by
  unfold isT at h
  rw[Tryz.underlying31]at h
  simp only[isF]at h
  obtain⟨a,b,rfl,h1,_⟩:=h
  exact h1.elim
 |m+2,ds,h=>by
  have ih:=@xD m
  unfold isT at h
  rw[Tryz.underlying31]at h
  simp only[isF]at h
  obtain⟨a,b,rfl,h1,c,d,rfl,h2,e,f,rfl,h3,rfl⟩:=h
  obtain⟨n,rfl,_⟩:=ug Tryz.underlying3 h1
  obtain⟨k,rfl,_⟩:=ug Tryz.underlying3 h2
  obtain⟨l,rfl,_⟩:=nn (en:=bW) Tryz.underlying29 h3 fun x hx hag _=>by
   obtain⟨y,hy⟩:=ih hx
   obtain⟨cs,rfl⟩:=hag (by simp[fl,Tryz.underlying31])
   exact⟨y,by rw[iI]at hy ⊢;simp only[au.cells]at hy;rw[hy]⟩
  exact⟨⟨n,k,l⟩,by rw[iI];rfl⟩
theorem an4{m:Nat}{ds:List au}(h:isT Tryz.prog m 33 ds):∃x:nG,ds=(eu x).cells:=by
 cases m with
 |zero=>exact h.elim
 |succ m=>
 unfold isT at h
 rw[Tryz.underlying33]at h
 simp only[isF]at h
 obtain⟨a,b,rfl,h1,c,d,rfl,h2,e,f,rfl,h3,rfl⟩:=h
 cases m with
 |zero=>exact h1.elim
 |succ m=>
 obtain⟨n,rfl⟩:=apd Tryz.underlying4 h1
 obtain⟨x,rfl⟩:=xD h2
 obtain⟨y,rfl⟩:=xD h3
 exact⟨⟨n,x,y⟩,by rw[iI,iI];rfl⟩
theorem acN{m:Nat}{ds:List au}(h:isT Tryz.prog m 25 ds):∃x:bL,ds=(gB x).cells:=by
 cases m with
 |zero=>exact h.elim
 |succ m=>
 unfold isT at h
 rw[Tryz.underlying25]at h
 simp only[isF]at h
 obtain⟨a,b,rfl,h1,c,d,rfl,h2,rfl⟩:=h
 obtain⟨x,rfl⟩:=abz h1
 cases m with
 |zero=>exact h2.elim
 |succ m=>
 obtain⟨y,rfl,_⟩:=nn (en:=eu) Tryz.underlying23 h2 fun x hx hag _=>by
  obtain⟨y,hy⟩:=an4 hx
  obtain⟨cs,rfl⟩:=hag (by simp[fl,Tryz.underlying33])
  exact⟨y,by simp only[au.cells]at hy;rw[hy];rfl⟩
 exact⟨⟨x,y⟩,rfl⟩
theorem asn:akj Tryz.prog [25,22,23,59,147,29,31,33,3,4]=true:=by kernel_rfl
theorem ao2{m:Nat}{ds:List au}(h:isT Tryz.prog (m+2) 26 ds):∃l:List Int,ds=[eL eI l]∧l.length≤maxLen:=
 nn Tryz.underlying26 h fun x hx _ ho=>by
  obtain⟨n,h1,_⟩:=ug Tryz.underlying3 hx
  exact⟨n,ap4 h1 (ho (by simp[fl,Tryz.underlying3]))⟩
end Go.Val
namespace Go.Val
open Go.Proofs Go.Shelf
def ag9:Go.Shelf.Ren:=⟨fun|6=>145|15=>152|14=>203|28=>216|29=>217|20=>245|21=>246|22=>247|23=>248|24=>249|25=>250|26=>251|27=>252|46=>269|47=>254|48=>255|49=>270|50=>271|57=>274|n=>n,fun|22=>59|24=>147|25=>222|3=>3|39=>186|0=>0|53=>284|55=>152|4=>4|46=>278|45=>277|50=>154|5=>5|9=>9|66=>306|70=>310|76=>320|77=>321|n=>n,fun|n=>n⟩
theorem aqb:Go.Proofs.SlLaysF0.n6 Tryz.prog ag9:={
 mixed:=by kernel_rfl
 f6:=⟨Tryz.f145.name,by decide,Tryz.func145.trans (congrArg some (by kernel_rfl))⟩
 f14:=⟨Tryz.f203.name,by decide,Tryz.func203.trans (congrArg some (by kernel_rfl))⟩
 f15:=Tryz.func152.trans (congrArg some (by kernel_rfl))
 f20:=⟨Tryz.f245.name,by decide,Tryz.func245.trans (congrArg some (by kernel_rfl))⟩
 f21:=⟨Tryz.f246.name,by decide,Tryz.func246.trans (congrArg some (by kernel_rfl))⟩
 f22:=⟨Tryz.f247.name,by decide,Tryz.func247.trans (congrArg some (by kernel_rfl))⟩
 f23:=⟨Tryz.f248.name,by decide,Tryz.func248.trans (congrArg some (by kernel_rfl))⟩
 f24:=⟨Tryz.f249.name,by decide,Tryz.func249.trans (congrArg some (by kernel_rfl))⟩
 f25:=⟨Tryz.f250.name,by decide,Tryz.func250.trans (congrArg some (by kernel_rfl))⟩
 f26:=⟨Tryz.f251.name,by decide,Tryz.func251.trans (congrArg some (by kernel_rfl))⟩
 f27:=⟨Tryz.f252.name,by decide,Tryz.func252.trans (congrArg some (by kernel_rfl))⟩
 f28:=Tryz.func216.trans (congrArg some (by kernel_rfl))
 f29:=Tryz.func217.trans (congrArg some (by kernel_rfl))
 f46:=⟨Tryz.f269.name,by decide,Tryz.func269.trans (congrArg some (by kernel_rfl))⟩
 f47:=Tryz.func254.trans (congrArg some (by kernel_rfl))
 f48:=Tryz.func255.trans (congrArg some (by kernel_rfl))
 f49:=⟨Tryz.f270.name,by decide,Tryz.func270.trans (congrArg some (by kernel_rfl))⟩
 f50:=⟨Tryz.f271.name,by decide,Tryz.func271.trans (congrArg some (by kernel_rfl))⟩
 f57:=⟨Tryz.f274.name,by decide,Tryz.func274.trans (congrArg some (by kernel_rfl))⟩
 t0:=Tryz.underlying0
 a0:=Tryz.isAgg0
 z0:=Tryz.sizeOf0
 v0:=Tryz.zeroValue0
 t3:=Tryz.underlying3
 a3:=Tryz.isAgg3
 z3:=Tryz.sizeOf3
 v3:=Tryz.zeroValue3
 t4:=Tryz.underlying4
 a4:=Tryz.isAgg4
 z4:=Tryz.sizeOf4
 v4:=Tryz.zeroValue4
 t5:=Tryz.underlying5
 a5:=Tryz.isAgg5
 z5:=Tryz.sizeOf5
 v5:=Tryz.zeroValue5
 t9:=Tryz.underlying9
 a9:=Tryz.isAgg9
 z9:=Tryz.sizeOf9
 v9:=Tryz.zeroValue9
 t22:=Tryz.underlying59
 a22:=Tryz.isAgg59
 z22:=Tryz.sizeOf59
 v22:=Tryz.zeroValue59
 t25:=Tryz.underlying222
 a25:=Tryz.isAgg222
 z25:=Tryz.sizeOf222
 v25:=Tryz.zeroValue222
 t39:=Tryz.underlying186
 a39:=Tryz.isAgg186
 z39:=Tryz.sizeOf186
 v39:=Tryz.zeroValue186
 t45:=Tryz.underlying277
 a45:=Tryz.isAgg277
 z45:=Tryz.sizeOf277
 v45:=Tryz.zeroValue277
 t46:=Tryz.underlying278
 a46:=Tryz.isAgg278
 z46:=Tryz.sizeOf278
 v46:=Tryz.zeroValue278
 t50:=Tryz.underlying154
 a50:=Tryz.isAgg154
 z50:=Tryz.sizeOf154
 v50:=Tryz.zeroValue154
 t53:=Tryz.underlying284
 a53:=Tryz.isAgg284
 z53:=Tryz.sizeOf284
 v53:=Tryz.zeroValue284
 t55:=Tryz.underlying152
 a55:=Tryz.isAgg152
 z55:=Tryz.sizeOf152
 v55:=Tryz.zeroValue152
 t66:=Tryz.underlying306
 a66:=Tryz.isAgg306
 z66:=Tryz.sizeOf306
 v66:=Tryz.zeroValue306
 t70:=Tryz.underlying310
 a70:=Tryz.isAgg310
 z70:=Tryz.sizeOf310
 v70:=Tryz.zeroValue310
 t76:=Tryz.underlying320
 a76:=Tryz.isAgg320
 z76:=Tryz.sizeOf320
 v76:=Tryz.zeroValue320
 t77:=Tryz.underlying321
 a77:=Tryz.isAgg321
 z77:=Tryz.sizeOf321
 v77:=Tryz.zeroValue321 }
def ag6:Go.Shelf.Ren:=⟨fun|5=>147|7=>204|n=>n,fun|22=>3|3=>3|4=>4|n=>n,fun|n=>n⟩
theorem avC:Go.Proofs.SlLaysC2.n5 Tryz.prog ag6:={
 mixed:=by kernel_rfl
 f5:=⟨Tryz.f147.name,by decide,Tryz.func147.trans (congrArg some (by kernel_rfl))⟩
 f7:=⟨Tryz.f204.name,by decide,Tryz.func204.trans (congrArg some (by kernel_rfl))⟩
 t3:=Tryz.underlying3
 a3:=Tryz.isAgg3
 z3:=Tryz.sizeOf3
 v3:=Tryz.zeroValue3
 t4:=Tryz.underlying4
 a4:=Tryz.isAgg4
 z4:=Tryz.sizeOf4
 v4:=Tryz.zeroValue4
 t22:=Tryz.underlying3
 a22:=Tryz.isAgg3
 z22:=Tryz.sizeOf3
 v22:=Tryz.zeroValue3 }
def afD:Go.Shelf.Ren:=⟨fun|53=>83|64=>152|63=>151|78=>216|79=>217|70=>207|71=>208|72=>209|73=>210|74=>211|75=>212|59=>213|76=>214|77=>215|88=>253|89=>254|90=>255|91=>256|92=>257|68=>204|96=>272|n=>n,fun|22=>26|23=>3|3=>3|51=>186|0=>0|67=>284|69=>152|4=>4|61=>278|60=>277|44=>154|5=>5|9=>9|75=>306|79=>310|83=>320|84=>321|n=>n,fun|n=>n⟩
theorem uW:Go.Proofs.SlLaysN.n53 Tryz.prog afD:={
 mixed:=by kernel_rfl
 f53:=⟨Tryz.f83.name,by decide,Tryz.func83.trans (congrArg some (by kernel_rfl))⟩
 f59:=⟨Tryz.f213.name,by decide,Tryz.func213.trans (congrArg some (by kernel_rfl))⟩
 f63:=⟨Tryz.f151.name,by decide,Tryz.func151.trans (congrArg some (by kernel_rfl))⟩
 f64:=Tryz.func152.trans (congrArg some (by kernel_rfl))
 f68:=⟨Tryz.f204.name,by decide,Tryz.func204.trans (congrArg some (by kernel_rfl))⟩
 f70:=⟨Tryz.f207.name,by decide,Tryz.func207.trans (congrArg some (by kernel_rfl))⟩
 f71:=⟨Tryz.f208.name,by decide,Tryz.func208.trans (congrArg some (by kernel_rfl))⟩
 f72:=⟨Tryz.f209.name,by decide,Tryz.func209.trans (congrArg some (by kernel_rfl))⟩
 f73:=⟨Tryz.f210.name,by decide,Tryz.func210.trans (congrArg some (by kernel_rfl))⟩
 f74:=⟨Tryz.f211.name,by decide,Tryz.func211.trans (congrArg some (by kernel_rfl))⟩
 f75:=⟨Tryz.f212.name,by decide,Tryz.func212.trans (congrArg some (by kernel_rfl))⟩
 f76:=⟨Tryz.f214.name,by decide,Tryz.func214.trans (congrArg some (by kernel_rfl))⟩
 f77:=⟨Tryz.f215.name,by decide,Tryz.func215.trans (congrArg some (by kernel_rfl))⟩
 f78:=Tryz.func216.trans (congrArg some (by kernel_rfl))
 f79:=Tryz.func217.trans (congrArg some (by kernel_rfl))
 f88:=⟨Tryz.f253.name,by decide,Tryz.func253.trans (congrArg some (by kernel_rfl))⟩
 f89:=Tryz.func254.trans (congrArg some (by kernel_rfl))
 f90:=Tryz.func255.trans (congrArg some (by kernel_rfl))
 f91:=⟨Tryz.f256.name,by decide,Tryz.func256.trans (congrArg some (by kernel_rfl))⟩
 f92:=⟨Tryz.f257.name,by decide,Tryz.func257.trans (congrArg some (by kernel_rfl))⟩
 f96:=⟨Tryz.f272.name,by decide,Tryz.func272.trans (congrArg some (by kernel_rfl))⟩
 t0:=Tryz.underlying0
 a0:=Tryz.isAgg0
 z0:=Tryz.sizeOf0
 v0:=Tryz.zeroValue0
 t3:=Tryz.underlying3
 a3:=Tryz.isAgg3
 z3:=Tryz.sizeOf3
 v3:=Tryz.zeroValue3
 t4:=Tryz.underlying4
 a4:=Tryz.isAgg4
 z4:=Tryz.sizeOf4
 v4:=Tryz.zeroValue4
 t5:=Tryz.underlying5
 a5:=Tryz.isAgg5
 z5:=Tryz.sizeOf5
 v5:=Tryz.zeroValue5
 t9:=Tryz.underlying9
 a9:=Tryz.isAgg9
 z9:=Tryz.sizeOf9
 v9:=Tryz.zeroValue9
 t22:=Tryz.underlying26
 a22:=Tryz.isAgg26
 z22:=Tryz.sizeOf26
 v22:=Tryz.zeroValue26
 t23:=Tryz.underlying3
 a23:=Tryz.isAgg3
 z23:=Tryz.sizeOf3
 v23:=Tryz.zeroValue3
 t44:=Tryz.underlying154
 a44:=Tryz.isAgg154
 z44:=Tryz.sizeOf154
 v44:=Tryz.zeroValue154
 t51:=Tryz.underlying186
 a51:=Tryz.isAgg186
 z51:=Tryz.sizeOf186
 v51:=Tryz.zeroValue186
 t60:=Tryz.underlying277
 a60:=Tryz.isAgg277
 z60:=Tryz.sizeOf277
 v60:=Tryz.zeroValue277
 t61:=Tryz.underlying278
 a61:=Tryz.isAgg278
 z61:=Tryz.sizeOf278
 v61:=Tryz.zeroValue278
 t67:=Tryz.underlying284
 a67:=Tryz.isAgg284
 z67:=Tryz.sizeOf284
 v67:=Tryz.zeroValue284
 t69:=Tryz.underlying152
 a69:=Tryz.isAgg152
 z69:=Tryz.sizeOf152
 v69:=Tryz.zeroValue152
 t75:=Tryz.underlying306
 a75:=Tryz.isAgg306
 z75:=Tryz.sizeOf306
 v75:=Tryz.zeroValue306
 t79:=Tryz.underlying310
 a79:=Tryz.isAgg310
 z79:=Tryz.sizeOf310
 v79:=Tryz.zeroValue310
 t83:=Tryz.underlying320
 a83:=Tryz.isAgg320
 z83:=Tryz.sizeOf320
 v83:=Tryz.zeroValue320
 t84:=Tryz.underlying321
 a84:=Tryz.isAgg321
 z84:=Tryz.sizeOf321
 v84:=Tryz.zeroValue321 }
def xm:Go.Shelf.Ren:=⟨fun|43=>84|n=>n,fun|22=>26|23=>3|3=>3|4=>4|0=>0|n=>n,fun|n=>n⟩
theorem yw:Go.Proofs.SlLaysN.n43 Tryz.prog xm:={
 mixed:=by kernel_rfl
 f43:=⟨Tryz.f84.name,by decide,Tryz.func84.trans (congrArg some (by kernel_rfl))⟩
 t0:=Tryz.underlying0
 a0:=Tryz.isAgg0
 z0:=Tryz.sizeOf0
 v0:=Tryz.zeroValue0
 t3:=Tryz.underlying3
 a3:=Tryz.isAgg3
 z3:=Tryz.sizeOf3
 v3:=Tryz.zeroValue3
 t4:=Tryz.underlying4
 a4:=Tryz.isAgg4
 z4:=Tryz.sizeOf4
 v4:=Tryz.zeroValue4
 t22:=Tryz.underlying26
 a22:=Tryz.isAgg26
 z22:=Tryz.sizeOf26
 v22:=Tryz.zeroValue26
 t23:=Tryz.underlying3
 a23:=Tryz.isAgg3
 z23:=Tryz.sizeOf3
 v23:=Tryz.zeroValue3
 i23:=by kernel_rfl }
def xu:Go.Shelf.Ren:=⟨fun|43=>261|n=>n,fun|22=>228|23=>3|3=>3|4=>4|0=>0|n=>n,fun|n=>n⟩
theorem xW:Go.Proofs.SlLaysN.n43 Tryz.prog xu:={
 mixed:=by kernel_rfl
 f43:=⟨Tryz.f261.name,by decide,Tryz.func261.trans (congrArg some (by kernel_rfl))⟩
 t0:=Tryz.underlying0
 a0:=Tryz.isAgg0
 z0:=Tryz.sizeOf0
 v0:=Tryz.zeroValue0
 t3:=Tryz.underlying3
 a3:=Tryz.isAgg3
 z3:=Tryz.sizeOf3
 v3:=Tryz.zeroValue3
 t4:=Tryz.underlying4
 a4:=Tryz.isAgg4
 z4:=Tryz.sizeOf4
 v4:=Tryz.zeroValue4
 t22:=Tryz.underlying228
 a22:=Tryz.isAgg228
 z22:=Tryz.sizeOf228
 v22:=Tryz.zeroValue228
 t23:=Tryz.underlying3
 a23:=Tryz.isAgg3
 z23:=Tryz.sizeOf3
 v23:=Tryz.zeroValue3
 i23:=by kernel_rfl }
def ajf:Go.Shelf.Ren:=⟨fun|35=>86|n=>n,fun|22=>29|23=>31|3=>3|4=>4|0=>0|n=>n,fun|n=>n⟩
theorem auS:Go.Proofs.SlLaysE0.n35 Tryz.prog ajf:={
 mixed:=by kernel_rfl
 f35:=⟨Tryz.f86.name,by decide,Tryz.func86.trans (congrArg some (by kernel_rfl))⟩
 t0:=Tryz.underlying0
 a0:=Tryz.isAgg0
 z0:=Tryz.sizeOf0
 v0:=Tryz.zeroValue0
 t3:=Tryz.underlying3
 a3:=Tryz.isAgg3
 z3:=Tryz.sizeOf3
 v3:=Tryz.zeroValue3
 t4:=Tryz.underlying4
 a4:=Tryz.isAgg4
 z4:=Tryz.sizeOf4
 v4:=Tryz.zeroValue4
 t22:=Tryz.underlying29
 a22:=Tryz.isAgg29
 z22:=Tryz.sizeOf29
 v22:=Tryz.zeroValue29 }
def ajI:Go.Shelf.Ren:=⟨fun|10=>225|6=>262|n=>n,fun|22=>228|23=>3|25=>166|3=>3|4=>4|0=>0|n=>n,fun|n=>n⟩
theorem av0:Go.Proofs.SlLaysH.n10 Tryz.prog ajI:={
 mixed:=by kernel_rfl
 f6:=⟨Tryz.f262.name,by decide,Tryz.func262.trans (congrArg some (by kernel_rfl))⟩
 f10:=⟨Tryz.f225.name,by decide,Tryz.func225.trans (congrArg some (by kernel_rfl))⟩
 t0:=Tryz.underlying0
 a0:=Tryz.isAgg0
 z0:=Tryz.sizeOf0
 v0:=Tryz.zeroValue0
 t3:=Tryz.underlying3
 a3:=Tryz.isAgg3
 z3:=Tryz.sizeOf3
 v3:=Tryz.zeroValue3
 t4:=Tryz.underlying4
 a4:=Tryz.isAgg4
 z4:=Tryz.sizeOf4
 v4:=Tryz.zeroValue4
 t22:=Tryz.underlying228
 a22:=Tryz.isAgg228
 z22:=Tryz.sizeOf228
 v22:=Tryz.zeroValue228
 a23:=Tryz.isAgg3
 z23:=Tryz.sizeOf3
 t25:=Tryz.underlying166
 a25:=Tryz.isAgg166
 z25:=Tryz.sizeOf166
 v25:=Tryz.zeroValue166 }
def aiz:Go.Shelf.Ren:=⟨fun|4=>226|n=>n,fun|22=>26|25=>3|3=>3|4=>4|9=>9|20=>20|0=>0|n=>n,fun|n=>n⟩
theorem apM:Go.Proofs.Lays8.n4 Tryz.prog aiz:={
 mixed:=by kernel_rfl
 f4:=⟨Tryz.f226.name,by decide,Tryz.func226.trans (congrArg some (by kernel_rfl))⟩
 t0:=Tryz.underlying0
 a0:=Tryz.isAgg0
 z0:=Tryz.sizeOf0
 v0:=Tryz.zeroValue0
 t3:=Tryz.underlying3
 a3:=Tryz.isAgg3
 z3:=Tryz.sizeOf3
 v3:=Tryz.zeroValue3
 t4:=Tryz.underlying4
 a4:=Tryz.isAgg4
 z4:=Tryz.sizeOf4
 v4:=Tryz.zeroValue4
 t9:=Tryz.underlying9
 a9:=Tryz.isAgg9
 z9:=Tryz.sizeOf9
 v9:=Tryz.zeroValue9
 t20:=Tryz.underlying20
 a20:=Tryz.isAgg20
 z20:=Tryz.sizeOf20
 v20:=Tryz.zeroValue20
 t22:=Tryz.underlying26
 a22:=Tryz.isAgg26
 z22:=Tryz.sizeOf26
 v22:=Tryz.zeroValue26 }
def afz:Go.Shelf.Ren:=⟨fun|4=>273|n=>n,fun|22=>228|25=>3|3=>3|4=>4|9=>9|20=>20|0=>0|n=>n,fun|n=>n⟩
theorem aqu:Go.Proofs.Lays8.n4 Tryz.prog afz:={
 mixed:=by kernel_rfl
 f4:=⟨Tryz.f273.name,by decide,Tryz.func273.trans (congrArg some (by kernel_rfl))⟩
 t0:=Tryz.underlying0
 a0:=Tryz.isAgg0
 z0:=Tryz.sizeOf0
 v0:=Tryz.zeroValue0
 t3:=Tryz.underlying3
 a3:=Tryz.isAgg3
 z3:=Tryz.sizeOf3
 v3:=Tryz.zeroValue3
 t4:=Tryz.underlying4
 a4:=Tryz.isAgg4
 z4:=Tryz.sizeOf4
 v4:=Tryz.zeroValue4
 t9:=Tryz.underlying9
 a9:=Tryz.isAgg9
 z9:=Tryz.sizeOf9
 v9:=Tryz.zeroValue9
 t20:=Tryz.underlying20
 a20:=Tryz.isAgg20
 z20:=Tryz.sizeOf20
 v20:=Tryz.zeroValue20
 t22:=Tryz.underlying228
 a22:=Tryz.isAgg228
 z22:=Tryz.sizeOf228
 v22:=Tryz.zeroValue228 }
end Go.Val
namespace Go.Proofs.IR
open Go.Shelf Go.RowKit Go.Lib Go.Sort Go.Val
set_option maxRecDepth 100000
def xS(x:ah):List Value:=[.int .i64 x.Low,.int .i64 x.High]
set_option maxHeartbeats 1000000 in
theorem agr(x y:ah)(W:World):Calls Tryz.prog 146 #[.agg #[.int .i64 x.Low,.int .i64 x.High],.agg #[.int .i64 y.Low,.int .i64 y.High]] W fun e w'=>e= .returned (.int .i64 (Lib.compareInt x.Low y.Low))∧∃q os',w'=Sort.grow (W.drewN q) os':=by
 have hcon:=fun W'=>AnyG.cmp_Compare_int avC x.Low y.Low W'
 change ∀W',Calls Tryz.prog 147 _ _ _ at hcon
 generalize Lib.compareInt x.Low y.Low=r at hcon ⊢
 go_enter Tryz.func146,Tryz.ntmps146
 go_wp2_with (go_at_call 147;refine(hcon _).mono ?_;rintro e w' ⟨rfl,rfl⟩)
 go_ret
 exact⟨rfl,0,_,by rw[alloc_eq_grow,alloc_eq_grow,grow_grow];rfl⟩
theorem ah1(blk off size:Nat)(w:World):CmpLays Tryz.prog 146 #[] xS 2 (fun x y=>Lib.compareInt x.Low y.Low) blk off size w:=
 fun _ _ _ _ x y=>agr x y _
theorem awO:ltOf (fun x y:ah=>Lib.compareInt x.Low y.Low)=ltR:=by
 funext x y
 unfold ltOf Lib.compareInt ltR
 by_cases h1:x.Low < y.Low
 ·simp[h1]
 ·by_cases h2:y.Low < x.Low <;> simp[h1,h2]
theorem ax3:SWO ltR where
 irrefl x:=by simp[ltR]
 trans x y z h1 h2:=by simp[ltR]at*;omega
 ntrans x y z h1 h2:=by simp[ltR]at*;omega
theorem mH{α:Type}[Inhabited α](enc:α→Value)(d:Array α)(arr:Array Value)(h:d.size≤arr.size):(putCells enc 0 d arr).toList.take d.size=d.toList.map enc:=by
 apply List.ext_getElem?
 intro j
 rw[List.getElem?_take]
 by_cases hj:j < d.size
 ·rw[if_pos hj]
  have hja:j < arr.size:=by omega
  simp only[Array.getElem?_toList,putCells,Array.getElem?_mapIdx,Array.getElem?_eq_getElem hja,Option.map_some,Nat.zero_le,true_and,Nat.sub_zero]
  rw[if_pos (by omega),gP,Array.getElem?_toList,Array.getElem?_eq_getElem hj,Option.map_some]
  rw[getElem!_pos d j hj]
 ·rw[if_neg hj,gN (by simp;omega)]
variable{w w':World}{G:Gh}
theorem xQ{α:Type}[Inhabited α]{enc:α→Value}{d:Array α}{b:Nat}{arr:Array Value}{k:TypeId}{os:Array Obj}(h3:w.heap[b]? =some (.cells arr k (0,0)))(hh:w'.heap=w.heap.modify b (onCells (putCells enc 0 d))++os):
  w'.heap[b]? =some (.cells (putCells enc 0 d arr) k (0,0))∧w.heap.size≤w'.heap.size∧∀b',b' < w.heap.size→b'≠b→w'.heap[b']? =w.heap[b']? :=by
 have hb:=im h3
 refine⟨?_,by rw[hh];simp,fun b' hb' hne=>?_⟩
 ·rw[hh,Array.getElem?_append,if_pos (by simpa using hb),Array.getElem?_modify,if_pos rfl,h3];rfl
 ·rw[hh,Array.getElem?_append,if_pos (by simpa using hb'),Array.getElem?_modify,if_neg (Ne.symm hne)]
def alc(g:FuncId) (ds:List au) (k:TypeId) (zs ys:List au):Prop:=Val.Enters CT.P g∧
 ∀(w:World) (G:Gh) (t:Tag) (v:Value) (vs:List Value),G.P=CT.P→cp w G t k zs v→cn w G ds vs→
  Calls CT.P g (v::vs).toArray w fun e w'=>e= .returned (.tuple #[])∧w'.os=w.os∧w'.tape=w.tape∧w'.output=w.output∧w.heap.size≤w'.heap.size∧
   ((zs=[]∧ys=[]∧∀b,b < w.heap.size→w'.heap[b]? =w.heap[b]?)∨
    zs≠[]∧∃b cap arr arr',v= .slice (some ⟨b,0,none⟩) zs.length cap∧w.heap[b]? =some (.cells arr k (0,0))∧w'.heap[b]? =some (.cells arr' k (0,0))∧arr'.size=arr.size∧ys.length=zs.length∧
     (∀y∈ys,y.cells.length=CT.P.cellsOf k)∧cn w G (bx ys) (arr'.toList.take (ys.length*CT.P.cellsOf k))∧∀b',b' < w.heap.size→b'≠b→w'.heap[b']? =w.heap[b']?)
theorem wk{g:FuncId}{ds:List au}{k:TypeId}{zs ys:List au}{c:Nat}(hE:Val.Enters CT.P g)(hc:CT.P.cellsOf k=c)(hzl:zs.length≤140737488355328)(hyl:ys.length=zs.length)(hyc:∀y∈ys,y.cells.length=c)
  (hnone:zs=[]→∀(w:World) (G:Gh) (vs:List Value),cn w G ds vs→∀(p:Option Addr) (cap:Nat),Calls CT.P g (.slice p 0 cap::vs).toArray w fun e w'=>e= .returned (.tuple #[])∧w'=w)
  (hsome:zs≠[]→∀(w:World) (G:Gh) (vs:List Value) (b cap:Nat) (arr:Array Value),G.P=CT.P→cn w G ds vs→w.heap[b]? =some (.cells arr k (0,0))→zs.length*c≤arr.size→zs.length≤cap→cn w G (bx zs) (arr.toList.take (zs.length*c))→
   Calls CT.P g (.slice (some ⟨b,0,none⟩) zs.length cap::vs).toArray w fun e w'=>e= .returned (.tuple #[])∧w'.os=w.os∧w'.tape=w.tape∧w'.output=w.output∧∃(us:List Value) (os:Array Obj) (arr':Array Value),cn w G (bx ys) us∧us.length=ys.length*c∧arr'.size=arr.size∧arr'.toList.take us.length=us∧
    w'.heap[b]? =some (.cells arr' k (0,0))∧w.heap.size≤w'.heap.size∧∀b',b' < w.heap.size→b'≠b→w'.heap[b']? =w.heap[b']?):
  alc g ds k zs ys:=by
 refine⟨hE,fun w G t v vs hP hrow hvs=>?_⟩
 by_cases hl:zs=[]
 ·obtain⟨p,cap,rfl⟩:∃p cap,v= .slice p 0 cap:=by
   rcases hrow with⟨_,a,e⟩|⟨b,cap,arr,e,_⟩
   ·exact⟨a,0,e⟩
   ·rw[hl]at e;exact⟨_,cap,e⟩
  refine(hnone hl w G vs hvs p cap).mono fun e w' ⟨h1,h2⟩=>?_
  subst h2
  exact⟨h1,rfl,rfl,rfl,nR _,Or.inl ⟨hl,List.length_eq_zero_iff.1 (by rw[hyl,hl];rfl),fun _ _=>rfl⟩⟩
 ·rcases hrow with⟨h0,_⟩|⟨b,cap,arr,rfl,h2,h3,h4,h5,h6,h7,h8⟩
  ·exact absurd h0 hl
  ·have hcell:G.P.cellsOf k=c:=by rw[hP];exact hc
   rw[hcell]at h4 h8
   have hle:zs.length*c≤arr.size:=by rw[h4];exact Nat.mul_le_mul_right _ h5
   refine(hsome hl w G vs b cap arr hP hvs h3 hle h5 h8).mono fun e w' ⟨he,i1,i2,i3,us,os,arr',j1,j2,j3,j4,j5,j6,j7⟩=>?_
   refine⟨he,i1,i2,i3,j6,.inr ⟨hl,b,cap,arr,arr',rfl,h3,j5,j3,hyl,fun y hy=>by rw[hc];exact hyc y hy,?_,j7⟩⟩
   rw[hc,← j2,j4];exact j1
theorem als:∀{l:List ah} {vs:List Value},cn w G (bx (l.map ay)) vs→vs=l.flatMap xS
 | [],vs,h=>by
  have h':cn w G [] vs:=h
  cases h';rfl
 |a::l,vs,h=>by
  have h':cn w G (.int .i64 a.Low:: .int .i64 a.High::bx (l.map ay)) vs:=h
  cases h' with
  |cons _ v _ vs _ h1 h2=>
   cases h2 with
   |cons _ v2 _ vs2 _ h3 h4=>
    cases h1;cases h3
    rw[als h4];rfl
theorem ap1:∀(l:List ah),cn w G (bx (l.map ay)) (l.flatMap xS)
 | []=>.nil
 |a::l=>.cons _ _ _ _ rfl (.int _ _) (.cons _ _ _ _ rfl (.int _ _) (ap1 l))
theorem sy:∀(l:List ah),(l.flatMap xS).length=l.length*2
 | []=>rfl
 |a::l=>by simp only[List.flatMap_cons,lA,sy l,lC,xS];simp;omega
theorem qR{α:Type}[Inhabited α]{enc:α→List Value}{k:Nat}(hk:∀x,(enc x).length=k)(h0:0 < k):∀(l:List α),(flatK enc k l.toArray).toList=l.flatMap enc:=by
 intro l
 apply List.ext_getElem?
 intro t
 have hlen:(l.flatMap enc).length=l.length*k:=by
  induction l with
  |nil=>simp
  |cons a l ih=>rw[List.flatMap_cons,lA,hk,ih,lC,Nat.succ_mul];omega
 by_cases ht:t < l.length*k
 ·have h1:(flatK enc k l.toArray).toList[t]? =some ((flatK enc k l.toArray)[t]!):=by
   have hs:t < (flatK enc k l.toArray).size:=by simpa using ht
   rw[Array.getElem?_toList,Array.getElem?_eq_getElem hs,getElem!_pos _ t hs]
  rw[h1,get_flatK _ _ _ _ (by simpa using ht)]
  clear h1
  induction l generalizing t with
  |nil=>simp at ht
  |cons a l ih=>
   rw[List.flatMap_cons]
   by_cases h:t < k
   ·have e1:t/k=0:=Nat.div_eq_of_lt h
    have e2:t%k=t:=Nat.mod_eq_of_lt h
    have e3:(a::l).toArray[0]! =a:=by simp
    rw[e1,e2,e3,List.getElem?_append_left (by rw[hk];exact h),gE (by rw[hk];exact h),getElem!_pos _ t (by rw[hk];exact h)]
   ·rw[List.getElem?_append_right (by rw[hk];omega),hk]
    have e1:t/k=(t - k)/k+1:=by
     rw[← Nat.add_div_right _ h0];congr 1;omega
    have e2:t%k=(t - k)%k:=by
     conv=>lhs;rw[show t=(t - k)+k by omega]
     rw[Nat.add_mod_right]
    have e3:(a::l).toArray[(t - k)/k+1]! =l.toArray[(t - k)/k]! :=by simp[Array.getElem!_eq_getD,Array.getD_eq_getD_getElem?]
    rw[e1,e2,e3]
    have hlen':(l.flatMap enc).length=l.length*k:=by
     rw[List.flatMap_cons,lA,hk,lC,Nat.succ_mul]at hlen;omega
    exact ih (t - k) hlen' (by rw[lC,Nat.succ_mul]at ht;omega)
 ·rw[gN (by simpa using ht),gN (by omega)]
theorem aay{α:Type}[Inhabited α]{enc:α→List Value}{k:Nat}{ty:TypeId}(hk:∀x,(enc x).length=k)(h0:0 < k){b:Nat}{arr:Array Value}{l:List α}(h3:w.heap[b]? =some (.cells arr ty (0,0)))(hv:arr.toList.take (l.length*k)=l.flatMap enc)(hle:l.length*k≤arr.size):HoldsK enc k w b 0 l.toArray:=fun j hj=>by
 have hj':j < l.length*k:=by simpa using hj
 refine⟨?_,by simp[World.frozen?,h3]⟩
 simp only[World.cell?,h3,Nat.zero_add]
 have h1:(flatK enc k l.toArray).toList[j]? =some ((flatK enc k l.toArray)[j]!):=by
  rw[Array.getElem?_toList,Array.getElem?_eq_getElem hj,getElem!_pos _ j hj]
 rw[qR hk h0,← hv,List.getElem?_take,if_pos hj',Array.getElem?_toList]at h1
 exact h1
theorem vo{α:Type}[Inhabited α]{enc:α→List Value}{k:Nat}(hk:∀x,(enc x).length=k)(h0:0 < k)(d:List α)(arr:Array Value)(hle:d.length*k≤arr.size):(putCells id 0 (flatK enc k d.toArray) arr).toList.take (d.flatMap enc).length=d.flatMap enc:=by
 have h:=mH id (flatK enc k d.toArray) arr (by simpa using hle)
 have hs:(flatK enc k d.toArray).size=(d.flatMap enc).length:=by rw[← qR hk h0];simp
 rw[hs,List.map_id,qR hk h0]at h
 exact h
theorem ahF{l l':List ah}(hs:adx l=some l'):alc 145 [.fn 146 [] []] 147 (l.map ay) (l'.map ay):=by
 unfold adx at hs
 split at hs
 case isFalse=>cases hs
 rename_i hlen
 have hro:dU=140737488355328:=rfl
 obtain rfl:=sI hs
 clear hs
 have hp:=(pdq_sorts ltR ax3 l.toArray 0 l.length (Lib.bitLen l.length) true true (Nat.zero_le _) (by simp) (Or.inl rfl)).1.1
 have hvs':∀{w:World} {G:Gh} {vs:List Value},cn w G [.fn 146 [] []] vs→vs=[.func (.func 146) #[] #[]]:=fun {w G vs} hvs=>by
  cases hvs with
  |cons _ v _ vs _ h1 h2=>
   cases h2
   cases h1 with
   |fn _ _ _ us vs k1 k2=>
    have e1:us= #[]:=by
     cases hu:us.toList with
     |nil=>exact Array.toList_inj.1 hu
     |cons u l=>rw[hu]at k1;cases k1
    have e2:vs= #[]:=by
     cases hu:vs.toList with
     |nil=>exact Array.toList_inj.1 hu
     |cons u l=>rw[hu]at k2;cases k2
    rw[e1,e2]
 have hps:(pdq ltR l.toArray 0 l.length (Lib.bitLen l.length) true true).size=l.length:=by simpa using hp
 refine wk (c:=2) ⟨Tryz.f145,_,Tryz.func145,rfl,by kernel_rfl⟩ (by kernel_rfl) (by simp;omega) (by simpa using hps) (fun y hy=>by obtain⟨x,_,rfl⟩:=List.mem_map.1 hy;rfl) ?_ ?_
 ·intro hz w G vs hvs p cap
  rw[hvs' hvs]
  exact AnyF.slices_SortFunc_none aqb p cap _ w
 ·intro hz w G vs b cap arr hP hvs h3 hle hcap hrel
  rw[hvs' hvs]
  have hlm:(l.map ay).length=l.length:=by simp
  rw[hlm]at hle hcap hrel ⊢
  have hvals:=als hrel
  have hH:HoldsK xS 2 w b 0 l.toArray:=aay (k:=2) (fun _=>rfl) (by decide) h3 hvals hle
  have eg:∀args w,(callFunc 146 args).run Tryz.prog w= .ok (.enter 146 args) w:=enters_of Tryz.func146 (by kernel_rfl) rfl
  have hcon:=AnyQ.slices_SortFunc_eq aqb 2 Tryz.isAgg147 Tryz.sizeOf147 xS (fun _=>rfl) (fun x v hv=>by simp[xS]at hv;rcases hv with rfl|rfl <;> rfl) (fun x y=>Lib.compareInt x.Low y.Low) (by rw[awO];exact ax3) 146 #[] b 0 cap l.toArray w eg (ah1 b 0 _ w) hH (im h3) (by simp;omega)
  rw[awO,List.size_toArray]at hcon
  change Calls Tryz.prog 145 _ _ _ at hcon
  refine Calls.mono (P:=Tryz.prog) hcon fun e w' ⟨he,n,os,hw⟩=>?_
  generalize pdq ltR l.toArray 0 l.length (Lib.bitLen l.length) true true=d' at hps hw ⊢
  have hheap:w'.heap=(w.heap.modify b (onCells (putCells id 0 (flatK xS 2 d'))))++os:=by rw[hw];rfl
  have hdl:d'.toList.length=l.length:=by simpa using hps
  have hpt:=vo (enc:=xS) (k:=2) (fun _=>rfl) (by decide) d'.toList arr (by rw[hdl];exact hle)
  refine⟨he,by rw[hw];rfl,by rw[hw];rfl,by rw[hw];rfl,d'.toList.flatMap xS,os,_,ap1 _,by rw[sy];simp,by simp[putCells],hpt,xQ h3 hheap⟩
end Go.Proofs.IR
namespace Go.Proofs.IR
open Go.Shelf Go.RowKit Go.Lib Go.Sort Go.Val
set_option maxRecDepth 100000
variable{w w':World}{G:Gh}
theorem sn:∀{l:List Int} {vs:List Value},cn w G (bx (l.map eI)) vs→vs=l.map (Value.int .i64)
 | [],vs,h=>by
  have h':cn w G [] vs:=h
  cases h';rfl
 |a::l,vs,h=>by
  have h':cn w G (.int .i64 a::bx (l.map eI)) vs:=h
  cases h' with
  |cons _ v _ vs _ h1 h2=>
   cases h1
   rw[sn h2];rfl
theorem adv:∀(l:List Int),cn w G (bx (l.map eI)) (l.map (Value.int .i64))
 | []=>.nil
 |a::l=>.cons _ _ _ _ rfl (.int _ _) (adv l)
theorem yL{b:Nat}{arr:Array Value}{ty:TypeId}{l:List Int}(h3:w.heap[b]? =some (.cells arr ty (0,0)))(hv:arr.toList.take l.length=l.map (Value.int .i64)):Go.Sort.Holds (Value.int .i64) w b 0 l.toArray:=fun j hj=>by
 have hj':j < l.length:=by simpa using hj
 refine⟨?_,by simp[World.frozen?,h3]⟩
 simp only[World.cell?,h3,Nat.zero_add]
 have h1:(arr.toList.take l.length)[j]? =some (Value.int .i64 l[j]):=by rw[hv];simp[hj']
 rw[List.getElem?_take,if_pos hj',Array.getElem?_toList]at h1
 rw[h1]
 simp[hj']
theorem ah5(p:Option Addr)(cap:Nat)(w:World):Calls Tryz.prog 260 #[.slice p 0 cap] w fun e w'=>e= .returned (.tuple #[])∧w'=w:=by
 have hlen:∀w,Calls Tryz.prog 152 #[.int .u64 0] w fun e w'=>e= .returned (.int .i64 0)∧w'=w:=fun w=>calls_of_every_depth fun D=>AnySG.bits_LenIn { uW with } D 0 w (by omega) (by omega)
 have hpdq:∀w,Calls Tryz.prog 151 #[.slice p 0 cap,.int .i64 0,.int .i64 0,.int .i64 0] w fun e w'=>e= .returned (.tuple #[])∧w'=w:=fun w=>calls_of_every_depth fun D=>AnySG.pdqsort_int_none_in { uW with } D p cap w
 have e1:∀args w,(callFunc 152 args).run Tryz.prog w= .ok (.enter 152 args) w:=enters_of Tryz.func152 (by kernel_rfl) rfl
 have e2:∀args w,(callFunc 151 args).run Tryz.prog w= .ok (.enter 151 args) w:=enters_of Tryz.func151 (by kernel_rfl) rfl
 go_enter Tryz.func260,Tryz.ntmps260
 go_wp2_with (first
  |(go_at_call 152;refine(hlen _).mono ?_;rintro e w' ⟨rfl,rfl⟩)
  |(go_at_call 151;refine(hpdq _).mono ?_;rintro e w' ⟨rfl,rfl⟩))
 go_end0
 exact⟨rfl,rfl⟩
theorem agD(b cap:Nat)(l:List Int)(w:World)(hH:Go.Sort.Holds (Value.int .i64) w b 0 l.toArray)(hb:b < w.heap.size)(hsz:l.length < 4611686018427387904):
  Calls Tryz.prog 260 #[.slice (some ⟨b,0,none⟩) l.length cap] w fun e w'=>e= .returned (.tuple #[])∧∃n os,w'=grow (putRow (Value.int .i64) (Sort.ahead w n) b 0 (l.mergeSort fun x y=>decide (x≤y)).toArray) os:=by
 have hk:bitsLen l.length≤62:=(bitsLen_le_iff l.length 62).2 (by omega)
 have hdp:=pdqDepth_le_59 ltInt l.toArray 0 l.length (bitsLen l.length) true true (by simp;omega)
 have hlen:∀w,Calls Tryz.prog 152 #[.int .u64 (l.length:Int)] w fun e w'=>e= .returned (.int .i64 (bitsLen l.length:Nat))∧w'=w:=fun w=>calls_of_every_depth fun D=>lenWalkInAllG { uW with } D l.length w hsz
 have hpdq:Calls Tryz.prog 151 #[.slice (some ⟨b,0,none⟩) l.toArray.size cap,.int .i64 ((0:Nat):Int),.int .i64 (l.length:Int),.int .i64 (bitsLen l.length:Nat)] w fun e w'=>e= .returned (.tuple #[])∧∃n os,w'=grow (putRow (Value.int .i64) (Sort.ahead w n) b 0 (Sort.pdq ltInt l.toArray 0 l.length (bitsLen l.length) true true)) os:=
  calls_of_every_depth fun D=>pdqWalkInIntG { uW with } D 65 b 0 cap 0 l.length (bitsLen l.length) l.toArray w (by omega) hH hb (Nat.zero_le _) (by simp) (by simpa using hsz) (by omega) (Or.inl rfl)
 have hms:Sort.pdq ltInt l.toArray 0 l.length (bitsLen l.length) true true=(l.mergeSort fun x y=>decide (x≤y)).toArray:=by
  rw[← sort_int_eqDG];unfold Sort.sort;simp
 rw[hms,List.size_toArray]at hpdq
 generalize (l.mergeSort fun x y=>decide (x≤y)).toArray=d at hpdq ⊢
 generalize bitsLen l.length=bl at hlen hpdq hk
 clear hms hdp hH
 have e1:∀args w,(callFunc 152 args).run Tryz.prog w= .ok (.enter 152 args) w:=enters_of Tryz.func152 (by kernel_rfl) rfl
 have e2:∀args w,(callFunc 151 args).run Tryz.prog w= .ok (.enter 151 args) w:=enters_of Tryz.func151 (by kernel_rfl) rfl
 go_enter Tryz.func260,Tryz.ntmps260
 go_wp2_with (first
  |(go_at_call 152;refine(hlen _).mono ?_;rintro e w' ⟨rfl,rfl⟩)
  |(go_at_call 151;refine hpdq.mono ?_;rintro e w' ⟨rfl,n,os,rfl⟩))
 go_end0
 exact⟨rfl,n,os,rfl⟩
theorem ad9{g:FuncId}{l l':List Int}(hs:tC l=some l')(hE:Val.Enters CT.P g)(hnone:∀(p:Option Addr) (cap:Nat) (w:World),Calls Tryz.prog g #[.slice p 0 cap] w fun e w'=>e= .returned (.tuple #[])∧w'=w)
  (hsome:∀(b cap:Nat) (l:List Int) (w:World),Go.Sort.Holds (Value.int .i64) w b 0 l.toArray→b < w.heap.size→l.length < 4611686018427387904→
   Calls Tryz.prog g #[.slice (some ⟨b,0,none⟩) l.length cap] w fun e w'=>e= .returned (.tuple #[])∧∃n os,w'=grow (putRow (Value.int .i64) (Sort.ahead w n) b 0 (l.mergeSort fun x y=>decide (x≤y)).toArray) os):alc g [] 3 (l.map eI) (l'.map eI):=by
 unfold tC at hs
 split at hs
 case isFalse=>cases hs
 rename_i hlen
 have hro:dU=140737488355328:=rfl
 have hs':=sI hs
 clear hs
 have hlen':l'.length=l.length:=by rw[← hs',List.length_mergeSort]
 have hnil:∀{w:World} {G:Gh} {vs:List Value},cn w G [] vs→vs=[]:=fun {w G vs} h=>by cases h;rfl
 refine wk (c:=1) hE (by kernel_rfl) (by simp;omega) (by simpa using hlen') (fun y hy=>by obtain⟨x,_,rfl⟩:=List.mem_map.1 hy;rfl) ?_ ?_
 ·intro hz w G vs hvs p cap
  rw[hnil hvs]
  exact hnone p cap w
 ·intro hz w G vs b cap arr hP hvs h3 hle hcap hrel
  rw[hnil hvs]
  have hlm:(l.map eI).length=l.length:=by simp
  rw[hlm]at hle hcap hrel ⊢
  rw[Nat.mul_one]at hle hrel
  have hvals:=sn hrel
  have hcon:=hsome b cap l w (yL h3 hvals) (im h3) (by omega)
  rw[hs']at hcon
  refine Calls.mono (P:=Tryz.prog) hcon fun e w' ⟨he,n,os,hw⟩=>?_
  have hheap:w'.heap=(w.heap.modify b (onCells (putCells (Value.int .i64) 0 l'.toArray)))++os:=by rw[hw];rfl
  have hpt:=mH (Value.int .i64) l'.toArray arr (by simp;omega)
  refine⟨he,by rw[hw];rfl,by rw[hw];rfl,by rw[hw];rfl,l'.map (Value.int .i64),os,_,adv _,by simp,by simp[putCells],?_,xQ h3 hheap⟩
  simpa using hpt
inductive alo{α β:Type}(R:α→β→Prop):List α→List β→Prop
 |nil:alo R [] []
 |cons {a:α} {b:β} {l:List α} {m:List β}:R a b→alo R l m→alo R (a::l) (b::m)
abbrev V1:={ v:Value // v.oneCell'=true }
instance:Inhabited V1:=⟨⟨.int .i64 0,rfl⟩⟩
def ajY(x:V1×V1×V1):List Value:=[x.1.1,x.2.1.1,x.2.2.1]
def awb(w:World)(G:Gh)(n:aD)(x:V1×V1×V1):Prop:=cn w G (bW n).cells (ajY x)
theorem zw:∀{l:List aD} {vs:List Value},cn w G (bx (l.map bW)) vs→∃xs:List (V1×V1×V1),vs=xs.flatMap ajY∧alo (awb w G) l xs
 | [],vs,h=>by
  have h':cn w G [] vs:=h
  cases h';exact⟨[],rfl,.nil⟩
 |a::l,vs,h=>by
  have e:bx ((a::l).map bW)= .int .i64 a.Kind:: .int .i64 a.Set:: .sl (a.Kids.map bW)::bx (l.map bW):=by
   show(bW a).cells++bx (l.map bW)=_
   rw[show bW a=bW ⟨a.Kind,a.Set,a.Kids⟩ by cases a;rfl,iI];rfl
  rw[e]at h
  cases h with
  |cons _ v1 _ vs o1 h1 k1=>
   cases k1 with
   |cons _ v2 _ vs o2 h2 k2=>
    cases k2 with
    |cons _ v3 _ vs o3 h3 k3=>
     obtain⟨xs,rfl,h4⟩:=zw k3
     refine⟨(⟨v1,h1.oneV o1⟩,⟨v2,h2.oneV o2⟩,⟨v3,h3.oneV o3⟩)::xs,rfl,.cons ?_ h4⟩
     show cn w G (bW a).cells [v1,v2,v3]
     rw[show bW a=bW ⟨a.Kind,a.Set,a.Kids⟩ by cases a;rfl,iI]
     exact .cons _ _ _ _ o1 h1 (.cons _ _ _ _ o2 h2 (.cons _ _ _ _ o3 h3 .nil))
theorem yO:∀{a:List au} {u:List Value} {b:List au} {v:List Value},cn w G a u→cn w G b v→cn w G (a++b) (u++v)
 |_,_,_,_,.nil,h=>h
 |_,_,_,_,.cons d x ds xs o h1 h2,h=>.cons d x _ _ o h1 (yO h2 h)
theorem uX:∀{l:List aD} {xs:List (V1×V1×V1)},alo (awb w G) l xs→cn w G (bx (l.map bW)) (xs.flatMap ajY)
 |_,_,.nil=>.nil
 |a::l,x::xs,.cons h1 h2=>by
  rw[List.flatMap_cons]
  show cn w G ((bW a).cells++bx (l.map bW)) _
  exact yO h1 (uX h2)
theorem amz{α β:Type}{R:α→β→Prop}:∀{l:List α} {m:List β},alo R l m→l.length=m.length
 |_,_,.nil=>rfl
 |_,_,.cons _ h=>by simp[amz h]
theorem amF{α β:Type}{R:α→β→Prop}:∀{l:List α} {m:List β} {a:List α} {b:List β},alo R l m→alo R a b→alo R (l++a) (m++b)
 |_,_,_,_,.nil,h=>h
 |_,_,_,_,.cons h1 h2,h=>.cons h1 (amF h2 h)
theorem akB{α β:Type}{R:α→β→Prop}:∀{l:List α} {m:List β},alo R l m→alo R l.reverse m.reverse
 |_,_,.nil=>.nil
 |a::l,b::m,.cons h1 h2=>by rw[List.reverse_cons,List.reverse_cons];exact amF (akB h2) (.cons h1 .nil)
theorem zy:∀(l:List (V1×V1×V1)),(l.flatMap ajY).length=l.length*3
 | []=>rfl
 |a::l=>by simp only[List.flatMap_cons,lA,zy l,lC,ajY];simp;omega
theorem aji{l l':List aD}(hs:at1 l=some l'):alc 86 [] 31 (l.map bW) (l'.map bW):=by
 unfold at1 at hs
 split at hs
 case isFalse=>cases hs
 rename_i hlen
 have hro:dU=140737488355328:=rfl
 obtain rfl:=sI hs
 have hnil:∀{w:World} {G:Gh} {vs:List Value},cn w G [] vs→vs=[]:=fun {w G vs} h=>by cases h;rfl
 refine wk (c:=3) ⟨Tryz.f86,_,Tryz.func86,rfl,by kernel_rfl⟩ (by kernel_rfl) (by simp;omega) (by simp) (fun y hy=>by
  obtain⟨x,_,rfl⟩:=List.mem_map.1 hy
  rw[show bW x=bW ⟨x.Kind,x.Set,x.Kids⟩ by cases x;rfl,iI];rfl) ?_ ?_
 ·intro hz w G vs hvs p cap
  rw[hnil hvs]
  exact AnyQ.slices_Reverse_empty auS p cap w
 ·intro hz w G vs b cap arr hP hvs h3 hle hcap hrel
  rw[hnil hvs]
  have hlm:(l.map bW).length=l.length:=by simp
  rw[hlm]at hle hcap hrel ⊢
  obtain⟨xs,hxs,hfa⟩:=zw hrel
  have hxl:=amz hfa
  rw[hxl]at hxs hle ⊢
  have hH:HoldsK ajY 3 w b 0 xs.toArray:=aay (k:=3) (fun _=>rfl) (by decide) h3 hxs hle
  have hcon:=AnyQ.slices_Reverse auS 3 Tryz.isAgg31 Tryz.sizeOf31 ajY (fun _=>rfl) (fun x v hv=>by
   simp only[ajY,mC,List.not_mem_nil,or_false]at hv
   rcases hv with rfl|rfl|rfl
   ·exact x.1.2
   ·exact x.2.1.2
   ·exact x.2.2.2) b 0 cap xs.toArray w hH (by simp;omega)
  rw[List.size_toArray]at hcon
  change Calls Tryz.prog 86 _ _ _ at hcon
  refine Calls.mono (P:=Tryz.prog) hcon fun e w' ⟨he,n,hw⟩=>?_
  have hr:xs.toArray.reverse=xs.reverse.toArray:=by simp
  rw[hr]at hw
  have hheap:w'.heap=(w.heap.modify b (onCells (putCells id 0 (flatK ajY 3 xs.reverse.toArray))))++ #[]:=by rw[hw,Array.append_empty];rfl
  have hpt:=vo (enc:=ajY) (k:=3) (fun _=>rfl) (by decide) xs.reverse arr (by simpa using hle)
  refine⟨he,by rw[hw];rfl,by rw[hw];rfl,by rw[hw];rfl,xs.reverse.flatMap ajY,#[],_,uX (akB hfa),by rw[zy];simp[hxl],by simp[putCells],hpt,xQ h3 hheap⟩
theorem awr:∀g ds k zs ys,CT.ext g ds k zs=some ys→alc g ds k zs ys:=by
 intro g ds k zs ys he
 have he':akq g ds k zs=some ys:=he
 unfold akq at he'
 split at he'
 ·rename_i hc
  obtain⟨rfl,rfl,rfl⟩:=hc
  obtain⟨l,l',rfl,hs,rfl⟩:=qJ he'
  exact ahF hs
 ·split at he'
  ·rename_i hc
   obtain⟨hg,rfl,rfl⟩:=hc
   obtain⟨l,l',rfl,hs,rfl⟩:=qJ he'
   rcases hg with rfl|rfl
   ·exact ad9 hs ⟨Tryz.f83,_,Tryz.func83,rfl,by kernel_rfl⟩ (fun p cap w=>AnyG.slices_Sort_int_none uW p cap w) (fun b cap l w h1 h2 h3=>calls_of_every_depth fun D=>AnySG.slices_Sort_int_in uW D b 0 cap l w h1 h2 h3)
   ·exact ad9 hs ⟨Tryz.f260,_,Tryz.func260,rfl,by kernel_rfl⟩ ah5 agD
  ·split at he'
   ·rename_i hc
    obtain⟨rfl,rfl,rfl⟩:=hc
    obtain⟨l,l',rfl,hs,rfl⟩:=qJ he'
    exact aji hs
   ·cases he'
end Go.Proofs.IR
namespace Go.Proofs.IR
open Go.Shelf Go.RowKit Go.Lib Go.Sort Go.Val
set_option maxRecDepth 100000
theorem ui(l:List Int):(Lib.compact l).length≤l.length:=by
 unfold Lib.compact Lib.compactUpTo
 rw[List.length_map]
 exact Nat.le_trans (List.length_filter_le _ _) (by simp)
theorem aa3{w:World}{G:Gh}{h:bn}{v:Value}{l u:List Int}{f:FuncId}{args:Array Value}(hlen:l.length≤dU)(hul:u.length≤l.length)(hrow:cp w G (.slot 0) 3 (l.map eI) v)(hP:G.P=CT.P)(hh:nj w G h)
  (hnone:∀(p:Option Addr) (cap:Nat),l=[]→v= .slice p 0 cap→Calls Tryz.prog f args w fun e w'=>e= .returned v∧w'=w)
  (hsome:∀(b cap:Nat) (arr:Array Value),l≠[]→v= .slice (some ⟨b,0,none⟩) l.length cap→G.g b= .slot 0→w.heap[b]? =some (.cells arr 3 (0,0))→l.length≤arr.size→Go.Sort.Holds (Value.int .i64) w b 0 l.toArray→l.length≤cap→
   Calls Tryz.prog f args w fun e w'=>e= .returned (.slice (some ⟨b,0,none⟩) u.length cap)∧∃q,w'=putRow (Value.int .i64) (Sort.ahead w q) b 0 (u++List.replicate (l.length - u.length) 0).toArray):
  Calls Tryz.prog f args w fun e w'=>∃v',e= .returned v'∧cp w' G (.slot 0) 3 (u.map eI) v'∧nj w' G h∧Kept w G w' G∧w'.heap.size=w.heap.size:=by
 by_cases hl:l=[]
 ·obtain⟨p,cap,hv⟩:∃p cap,v= .slice p 0 cap:=by
   rcases hrow with⟨_,a,e⟩|⟨b,cap,arr,e,_⟩
   ·exact⟨a,0,e⟩
   ·rw[hl]at e;exact⟨_,cap,e⟩
  refine(hnone p cap hl hv).mono fun e w' ⟨h1,h2⟩=>?_
  subst h2
  have hu:u=[]:=List.length_eq_zero_iff.1 (by have:l.length=0:=(by rw[hl];rfl);omega)
  refine⟨v,h1,?_,hh,Kept.refl _ _,rfl⟩
  rw[hu]
  rw[hl]at hrow
  exact hrow
 rcases hrow with⟨h0,_⟩|⟨b,cap,arr,rfl,h2,h3,h4,h5,h6,h7,h8⟩
 ·exact absurd (List.map_eq_nil_iff.1 h0) hl
 have hcell:G.P.cellsOf 3=1:=by rw[hP];kernel_rfl
 rw[hcell]at h4 h7 h8
 have hlm:(l.map eI).length=l.length:=by simp
 rw[hlm,Nat.mul_one]at h8
 rw[hlm]at h5
 have hvals:=sn h8
 refine(hsome b cap arr hl (by rw[hlm]) h2 h3 (by omega) (yL h3 hvals) h5).mono fun e w' ⟨he,q,hw⟩=>?_
 generalize hz:u++List.replicate (l.length - u.length) 0=z at hw
 have hzl:z.length=l.length:=by rw[← hz];simp;omega
 have hheap:w'.heap=w.heap.modify b (onCells (putCells (Value.int .i64) 0 z.toArray)):=by rw[hw];rfl
 have hnew:w'.heap[b]? =some (.cells (putCells (Value.int .i64) 0 z.toArray arr) 3 (0,0)):=by
  rw[hheap,Array.getElem?_modify,if_pos rfl,h3];rfl
 have W:om w G b w' G:=⟨by rw[hw];rfl,by rw[hw];rfl,by rw[hw];rfl,by rw[hheap];simp,fun k hk=>by rw[hheap,Array.getElem?_modify,if_neg (Ne.symm hk)],⟨(by rw[h2];intro e;cases e),(by rw[h2];intro e;cases e)⟩,fun _ _=>rfl,rfl,fun _=>rfl,rfl⟩
 refine⟨_,he,?_,⟨hh.n,fun m o ho=>⟨(hh.obj m o ho).1,W.obj (hh.obj m o ho).2 (by rw[h2];intro e;cases e) (fun j=>by rw[h2];intro e;cases e)⟩⟩,W.kept,W.size⟩
 refine .inr ⟨b,cap,_,by simp,h2,hnew,by rw[hcell];simp[putCells,h4],by simp;omega,h6,fun x hx=>?_,?_⟩
 ·rw[hcell]
  obtain⟨y,_,rfl⟩:=List.mem_map.1 hx
  rfl
 ·have e:(putCells (Value.int .i64) 0 z.toArray arr).toList.take ((u.map eI).length*G.P.cellsOf 3)=u.map (Value.int .i64):=by
   rw[hcell,Nat.mul_one]
   have hpt:=mH (Value.int .i64) z.toArray arr (by simp;omega)
   rw[List.size_toArray]at hpt
   have h9:((putCells (Value.int .i64) 0 z.toArray arr).toList.take z.length).take u.length=(z.map (Value.int .i64)).take u.length:=by rw[hpt]
   have hz2:z.take u.length=u:=by rw[← hz];simp
   rw[List.take_take,Nat.min_eq_left (by omega),← List.map_take,hz2]at h9
   simpa using h9
  rw[e]
  exact adv _
theorem akc{w w':World}{G:Gh}{h:bn}{u:List Int}{v':Value}{e:Ending}(hf:∀b,w.heap.size≤b→G.g b= .other)(he:e= .returned v')(hr:cp w' G (.slot 0) 3 (u.map eI) v')(hh:nj w' G h)(hk:Kept w G w' G)(hs:w'.heap.size=w.heap.size):
  ∃us out h' G',e= .returned (pP us)∧(out=[.cv (.val (.sl (List.map eI u)))]∧h'=h)∧dD w' G' out us∧nj w' G' h'∧(∀b,w'.heap.size≤b→G'.g b= .other)∧Kept w G w' G':=by
 refine⟨[v'],_,h,G.re (.slot 0) .imm,he,⟨rfl,rfl⟩,.cons _ _ _ _ (hr.fixed (by intro e;cases e)) .nil,hh.re (by intro e;cases e) (by intro l e;cases e) (by intro l i e;cases e),fun b hb=>?_,hk.trans (nm w' G (by intro e;cases e) (by intro e;cases e))⟩
 have:=hf b (by omega)
 simp only[Gh.re,this];rfl
theorem auz{w w':World}{G:Gh}{h:bn}{u:List Int}{v':Value}{e:Ending}(hf:∀b,w.heap.size≤b→G.g b= .other)(he:e= .returned v')(hr:cp w' G (.slot 0) 3 (u.map eI) v')(hh:nj w' G h)(hk:Kept w G w' G)(hs:w'.heap.size=w.heap.size):
  ∃us out h' G',e= .returned (pP us)∧(out=[.cv (.row 3 (List.map eI u))]∧h'=h)∧dD w' G' out us∧nj w' G' h'∧(∀b,w'.heap.size≤b→G'.g b= .other)∧Kept w G w' G':=by
 refine⟨[v'],_,h,G.re (.slot 0) .ret,he,⟨rfl,rfl⟩,.cons _ _ _ _ (cp.retag hr (by intro e;cases e)) .nil,hh.re (by intro e;cases e) (by intro l e;cases e) (by intro l i e;cases e),fun b hb=>?_,hk.trans (nm w' G (by intro e;cases e) (by intro e;cases e))⟩
 have:=hf b (by omega)
 simp only[Gh.re,this];rfl
theorem ajo{w:World}{G:Gh}{l:List Int}{vs:List Value}(ha:dq w G .slot 0 [.cv (.row 3 (List.map eI l))] vs):∃v,vs=[v]∧cp w G (.slot 0) 3 (l.map eI) v:=by
 cases ha with
 |cons _ c v _ vs h1 h2=>cases h2;exact⟨v,rfl,h1⟩
theorem wV{l u:List Int}{h:bn}(e:cY l=some u):fk Tryz.prog 84 [.cv (.row 3 (List.map eI l))] h fun o h'=>o=[.cv (.val (.sl (List.map eI u)))]∧h'=h:=by
 unfold cY at e
 split at e
 case isFalse=>cases e
 rename_i hlen
 obtain rfl:=sI e
 have hro:dU=140737488355328:=rfl
 refine⟨⟨Tryz.f84,_,Tryz.func84,rfl,by kernel_rfl⟩,fun w G vs hP ha hh hf=>?_⟩
 obtain⟨v,rfl,hrow⟩:=ajo ha
 refine(aa3 (f:=84) (args:=#[v]) hlen (ui l) hrow hP hh (fun p cap _ hv=>by
  rw[hv];exact AnyG.slices_Compact_int_empty yw p cap w) (fun b cap arr _ hv _ _ _ hH hc=>by
  rw[hv];exact AnyG.slices_Compact_int yw b 0 cap l w hH (by omega) hc)).mono fun e w' ⟨v',he,hr,hh',hk,hs⟩=>akc hf he hr hh' hk hs
theorem uK{l u:List Int}{h:bn}(e:cG l=some u):fk Tryz.prog 261 [.cv (.row 3 (List.map eI l))] h fun o h'=>o=[.cv (.row 3 (List.map eI u))]∧h'=h:=by
 unfold cG at e
 split at e
 case isFalse=>cases e
 rename_i hlen
 obtain rfl:=sI e
 have hro:dU=140737488355328:=rfl
 refine⟨⟨Tryz.f261,_,Tryz.func261,rfl,by kernel_rfl⟩,fun w G vs hP ha hh hf=>?_⟩
 obtain⟨v,rfl,hrow⟩:=ajo ha
 refine(aa3 (f:=261) (args:=#[v]) hlen (ui l) hrow hP hh (fun p cap _ hv=>by
  rw[hv];exact AnyG.slices_Compact_int_empty xW p cap w) (fun b cap arr _ hv _ _ _ hH hc=>by
  rw[hv];exact AnyG.slices_Compact_int xW b 0 cap l w hH (by omega) hc)).mono fun e w' ⟨v',he,hr,hh',hk,hs⟩=>auz hf he hr hh' hk hs
end Go.Proofs.IR
namespace Go.Proofs.IR
open Go.Shelf Go.RowKit Go.Lib Go.Sort Go.Val
set_option maxRecDepth 100000
set_option maxHeartbeats 1000000 in
theorem agS(W:World)(bp bq bs os:Nat)(ns cs:Nat)(sg i s:Int)(h1:W.cell? ⟨bp,0,none⟩=some (.int .u64 sg))(h2:W.cell? ⟨bq,1,none⟩=some (.slice (some ⟨bs,os,none⟩) ns cs))(hi:1≤i)(hi2:i≤(ns:Int))(h3:W.cell? ⟨bs,os+(i.toNat - 1),none⟩=some (.int .i64 s))(hs:0≤s)(hb:i≤1000000):
  Calls Tryz.prog 224 #[.int .i64 i,.pointer (some ⟨bp,0,none⟩),.pointer (some ⟨bq,0,none⟩)] W fun e w'=>e= .returned (.bool (!jC sg s))∧∃q,w'=W.drewN q:=by
 have hw:IntKind.i64.wrap (i - 1)=i - 1:=by rw[IntKind.wrap_i64];omega
 have hlt:i - 1 < (ns:Int):=by omega
 have h0:0≤i - 1:=by omega
 have mixed:Tryz.prog.follows .mixedOrders=true:=by kernel_rfl
 go_enter Tryz.func224,Tryz.ntmps224
 go_wp2
 go_quiet (fail)
 go_wp2
 go_ret
 refine⟨?_,_,rfl⟩
 have:(bits BinOp.and IntKind.u64 (sg/2^min s.toNat 64) 1==0)= !jC sg s:=by
  unfold jC amL shR bits
  rw[Bool.not_not]
  have e:sg.fdiv (2^min s.toNat IntKind.u64.bits)=sg/2^min s.toNat 64:=by
   rw[Int.fdiv_eq_ediv_of_nonneg _ (by exact Int.pow_nonneg (by decide))];rfl
  rw[e]
 rw[this];rfl
structure Seen(w:World)(b:Nat)(bp bq bs os ns cs:Nat)(sg:Int)(S:List Int):Prop where
 p:bp < w.heap.size∧bp≠b∧w.cell? ⟨bp,0,none⟩=some (.int .u64 sg)
 q:bq < w.heap.size∧bq≠b∧w.cell? ⟨bq,1,none⟩=some (.slice (some ⟨bs,os,none⟩) ns cs)
 s:bs < w.heap.size∧bs≠b∧∀k,(hk:k < S.length)→w.cell? ⟨bs,os+k,none⟩=some (.int .i64 S[k])
 len:ns=S.length
def amN(S:List Int)(i:Int):Prop:=(1≤i∧i≤1000000)∧i≤(S.length:Int)∧0≤S.getD (i - 1).toNat 0
def jY(sg:Int)(S:List Int)(i:Int):Bool:=jC sg (S.getD (i - 1).toNat 0)
theorem ve{w W:World}{b bp bq bs os ns cs:Nat}{sg:Int}{S:List Int}(h:Seen w b bp bq bs os ns cs sg S)(hW:∀k,k < w.heap.size→k≠b→W.heap[k]? =w.heap[k]?){i:Int}(hi:amN S i):
  Calls Tryz.prog 224 #[.int .i64 i,.pointer (some ⟨bp,0,none⟩),.pointer (some ⟨bq,0,none⟩)] W fun e w'=>e= .returned (.bool (!jY sg S i))∧∃q,w'=W.drewN q:=by
 have hc:∀(a:Addr),a.block < w.heap.size→a.block≠b→W.cell? a=w.cell? a:=fun a h1 h2=>lZ (hW _ h1 h2)
 obtain⟨⟨h1,hb⟩,h2,h3⟩:=hi
 have hk:i.toNat - 1 < S.length:=by omega
 have he:(i - 1).toNat=i.toNat - 1:=by omega
 have hg:S.getD (i - 1).toNat 0=S[i.toNat - 1]:=by rw[he,gD,gE hk];rfl
 have:=agS W bp bq bs os ns cs sg i (S.getD (i - 1).toNat 0) ((hc _ h.p.1 h.p.2.1).trans h.p.2.2) ((hc _ h.q.1 h.q.2.1).trans h.q.2.2) h1 (by rw[h.len];exact h2) (by rw[hc _ h.s.1 h.s.2.1,h.s.2.2 _ hk,hg]) h3 hb
 exact this
end Go.Proofs.IR
namespace Go.Proofs.IR
open Go.Shelf Go.RowKit Go.Lib Go.Sort Go.Val
abbrev Pl(S:List Int):={ i:Int // amN S i }
theorem sm(eq:Int→Bool):∀(l:List Int) (i:Nat),(Lib.idxByFrom (fun _ y=>eq y) (default:Int) l i= -1∧∀j,j < l.length→eq l[j]! =false)∨∃k,k < l.length∧Lib.idxByFrom (fun _ y=>eq y) (default:Int) l i=((i+k:Nat):Int)∧eq l[k]! =true∧∀j,j < k→eq l[j]! =false:=fun l i=>idxByFrom_spec (fun _ y=>eq y) default l i
theorem apJ{S:List Int}[Inhabited (Pl S)](p:Int→Bool):∀(zs:List (Pl S)) (i:Nat) (d:Pl S),Lib.idxByFrom (fun _ y=>p y.1) d zs i=Lib.idxByFrom (fun _ y=>p y) (default:Int) (zs.map fun z=>z.1) i
 | [],_,_=>rfl
 |z::zs,i,d=>by rw[List.map_cons,Lib.idxByFrom,Lib.idxByFrom,apJ p zs (i+1)]
theorem ahQ{w:World}{b bp bq bs os ns cs:Nat}{sg:Int}{S:List Int}(h:Seen w b bp bq bs os ns cs sg S){cap:Nat}{l:List Int}(hl:l≠[])(hd:∀i∈l,amN S i)(hH:Go.Sort.Holds (Value.int .i64) w b 0 l.toArray)(hsz:l.length≤140737488355328):
  Calls Tryz.prog 262 #[.slice (some ⟨b,0,none⟩) l.length cap,.func (.func 224) #[] #[.pointer (some ⟨bp,0,none⟩),.pointer (some ⟨bq,0,none⟩)]] w fun e w'=>e= .returned (.int .i64 (Lib.idxByFrom (fun _ y=>!jY sg S y) (default:Int) l 0))∧∃q,w'=w.drewN q:=by
 obtain⟨zs,hzs⟩:∃zs:List (Pl S),zs.map (fun z=>z.1)=l:=⟨l.attachWith _ hd,by simp⟩
 have hz0:zs≠[]:=fun e=>hl (by rw[← hzs,e];rfl)
 haveI:Inhabited (Pl S):=⟨zs.head hz0⟩
 have hzl:zs.length=l.length:=by rw[← hzs];simp
 have eg:∀args w,(callFunc 224 args).run Tryz.prog w= .ok (.enter 224 args) w:=enters_of Tryz.func224 (by kernel_rfl) rfl
 have hp:PredAt Tryz.prog 224 #[.pointer (some ⟨bp,0,none⟩),.pointer (some ⟨bq,0,none⟩)] (fun z:Pl S=>Value.int .i64 z.1) (fun z=>!jY sg S z.1) w:=fun W x hb=>
  ve h (fun k hk _=>hb.block k hk) x.2
 have hcl:∀j,j < zs.length→w.cell? ⟨b,0+j,none⟩=some (Value.int .i64 (zs[j]!).1):=fun j hj=>by
  have hj':j < l.length:=by omega
  have h1:=(hH j (by simpa using hj')).1
  rw[h1]
  have:l[j]? =some (zs[j]!).1:=by
   rw[← hzs,gP,List.getElem!_eq_getElem?_getD,gE hj];rfl
  simp[this]
 have hcon:=AnyE.slices_IndexFunc { av0 with } (fun z:Pl S=>Value.int .i64 z.1) (fun z=>!jY sg S z.1) 224 #[.pointer (some ⟨bp,0,none⟩),.pointer (some ⟨bq,0,none⟩)] eg b 0 l.length cap zs w hp (by omega) (by omega) hcl
 have hidx:Lib.idxBy (fun _ y=>!jY sg S y.1) (zs.take l.length) (default:Pl S)=Lib.idxByFrom (fun _ y=>!jY sg S y) (default:Int) l 0:=by
  rw[List.take_of_length_le (by omega),Lib.idxBy,apJ (fun i=>!jY sg S i),hzs]
 rw[hidx]at hcon
 exact hcon
set_option maxHeartbeats 4000000 in
set_option maxRecDepth 1000000 in
theorem aiU{w:World}{b bp bq bs os ns cs:Nat}{sg:Int}{S:List Int}(h:Seen w b bp bq bs os ns cs sg S){cap:Nat}{l:List Int}(hl:l≠[])(hd:∀i∈l,amN S i)(hH:Go.Sort.Holds (Value.int .i64) w b 0 l.toArray)(hsz:l.length≤140737488355328)(hcap:l.length≤cap):
  Calls Tryz.prog 225 #[.slice (some ⟨b,0,none⟩) l.length cap,.func (.func 224) #[] #[.pointer (some ⟨bp,0,none⟩),.pointer (some ⟨bq,0,none⟩)]] w fun e w'=>e= .returned (.slice (some ⟨b,0,none⟩) (l.filter (jY sg S)).length cap)∧
   ∃q,w'=putRow (Value.int .i64) (Sort.ahead w q) b 0 (l.filter (jY sg S)++List.replicate (l.length - (l.filter (jY sg S)).length) 0).toArray:=by
 have hIF:=ahQ h (cap:=cap) hl hd hH hsz
 obtain⟨d,HD⟩:∃d:Array Int,Hid (d=l.toArray):=⟨_,rfl⟩
 have hds:l.length=d.size:=by rw[HD.out];simp
 obtain⟨kp,HK⟩:∃kp:Nat→Bool,Hid (kp=fun j=>jY sg S d[j]!):=⟨_,rfl⟩
 have hfil:l.filter (jY sg S)=keptUpTo kp d d.size:=by rw[HK.out,keptUpTo_filter (jY sg S) d,HD.out]
 have tl:∀j,j < d.size→l[j]! =d[j]! :=fun j hj=>by rw[HD.out];simp[Array.getElem!_eq_getD,Array.getD_eq_getD_getElem?,List.getElem!_eq_getElem?_getD]
 have hdd:∀j,j < d.size→amN S d[j]! :=fun j hj=>by
  rw[← tl j hj,List.getElem!_eq_getElem?_getD,gE (by omega)]
  exact hd _ (gM _)
 rw[← HD.out]at hH
 rw[hfil,hds]
 have eg:∀args w,(callFunc 224 args).run Tryz.prog w= .ok (.enter 224 args) w:=enters_of Tryz.func224 (by kernel_rfl) rfl
 have ei:∀args w,(callFunc 262 args).run Tryz.prog w= .ok (.enter 262 args) w:=enters_of Tryz.func262 (by kernel_rfl) rfl
 have mixed:Tryz.prog.follows .mixedOrders=true:=by kernel_rfl
 rcases sm (fun i=>!jY sg S i) l 0 with⟨e1,hall⟩|⟨k0,hk0,e1,ht,hall⟩
 ·rw[e1,hds]at hIF
  have hkeep:∀j,j < d.size→kp j=true:=fun j hj=>by
   have:=hall j (by omega)
   rw[HK.out];show jY sg S d[j]! =true;rw[← tl j hj];simpa using this
  have e3:keptUpTo kp d d.size=d.toList:=by rw[keptUpTo_all kp d _ hkeep,range_map_get]
  have HH:Aside (Go.Sort.Holds (Value.int .i64) w b 0 d):=hH
  clear hH hall h hdd
  go_enter Tryz.func225,Tryz.ntmps225
  go_wp2_with (go_at_call 262;refine hIF.mono ?_;rintro e w' ⟨rfl,q0,rfl⟩)
  go_ret
  rw[e3]
  refine⟨by simp,q0,?_⟩
  simp only[Array.length_toList,Nat.sub_self,List.replicate_zero,List.append_nil,Array.toArray_toList]
  exact(putRow_self _ (Sort.ahead w q0) b 0 d (holds_ahead _ w q0 b 0 d HH.out)).symm
 ·have hk0':k0 < d.size:=by omega
  rw[e1,hds,Nat.zero_add]at hIF
  have hkeep:∀j,j < k0→kp j=true:=fun j hj=>by
   have:=hall j hj
   rw[HK.out];show jY sg S d[j]! =true;rw[← tl j (by omega)];simpa using this
  have hdrop:kp k0=false:=by rw[HK.out];show jY sg S d[k0]! =false;rw[← tl k0 hk0'];simpa using ht
  have hne1:((k0:Int)== -1)=false:=beq_eq_false_iff_ne.2 (by omega)
  have hcallAt:∀(dk:Array Int) (u:Int) (q:Nat),amN S u→Calls Tryz.prog 224 #[.int .i64 u,.pointer (some ⟨bp,0,none⟩),.pointer (some ⟨bq,0,none⟩)] (putRow (Value.int .i64) (Sort.ahead w q) b 0 dk) fun e w'=>e= .returned (.bool (!jY sg S u))∧∃qq,w'=(putRow (Value.int .i64) (Sort.ahead w q) b 0 dk).drewN qq:=fun dk u q hu=>
   ve h (fun k hk hne=>by
    show(w.heap.modify b (onCells (putCells (Value.int .i64) 0 dk)))[k]? =_
    rw[Array.getElem?_modify,if_neg (Ne.symm hne)]) hu
  have HC:Aside _:=hcallAt
  have HH:Aside (Go.Sort.Holds (Value.int .i64) w b 0 d):=hH
  have HE:Aside _:=hdd
  clear hcallAt h hH hall ht e1 tl hdd hd
  go_enter Tryz.func225,Tryz.ntmps225
  go_wp2_with (go_at_call 262;refine hIF.mono ?_;rintro e w' ⟨rfl,q0,rfl⟩)
  go_loopw [5,6,7] (fun s5 s6 _ wr=>∃(i j q:Nat) (dk:Array Int),s5= .int .i64 i∧s6= .int .i64 j∧j≤d.size∧wr=putRow (Value.int .i64) (Sort.ahead w q) b 0 dk∧Aside (KeptInv kp d j i dk)) (fun _ s6 _ _=>d.size - (intOf s6).toNat)
  case atStart=>exact⟨k0,k0+1,q0,d,rfl,by simp,by omega,(putRow_self _ (Sort.ahead w q0) b 0 d (holds_ahead _ w q0 b 0 d HH.out)).symm,KeptInv.start hkeep hdrop⟩
  case round=>
   obtain⟨i,j,q,dk,rfl,rfl,hjd,hwr,I2⟩:=hrel
   have hI:=I2.out
   have hij:=hI.lt
   have hdz:=hI.size
   have hHk:Go.Sort.Holds (Value.int .i64) wr b 0 dk:=by rw[hwr];exact holds_putRow _ _ b 0 d dk (holds_ahead _ w q b 0 d HH.out) hdz
   have W2:Aside (wr=putRow (Value.int .i64) (Sort.ahead w q) b 0 dk):=hwr
   by_cases hlt:j < d.size
   ·have hltz:(j:Int) < (d.size:Int):=by omega
    obtain⟨cj,_⟩:=hHk j (by omega)
    obtain⟨ci,fi⟩:=hHk i (by omega)
    rw[hI.high j (by omega)]at cj
    rw[Nat.zero_add]at ci cj fi
    have hcall:=HC.out dk d[j]! q (HE.out j hlt)
    rw[← hwr]at hcall
    clear hHk hI hwr
    generalize hu:d[j]! =u at cj hcall
    generalize dk[i]! =old at ci
    have C:Aside (d[j]! =u):=hu
    clear hu
    have hj1:IntKind.i64.wrap ((j:Int)+1)=(j:Int)+1:=by rw[IntKind.wrap_i64];omega
    have hi1:IntKind.i64.wrap ((i:Int)+1)=(i:Int)+1:=by rw[IntKind.wrap_i64];omega
    cases hq:jY sg S u with
    |true=>
     rw[hq]at hcall
     go_wp2_with (go_at_call 224;refine hcall.mono ?_;rintro e w' ⟨rfl,qq,rfl⟩)
     refine⟨⟨i+1,j+1,q+qq,dk.setIfInBounds i u,by simp,by simp,by omega,?_,(show Aside _ from ?_)⟩,by simp[intOf];omega⟩
     ·rw[W2.out,show(putRow (Value.int .i64) (Sort.ahead w q) b 0 dk).drewN qq=putRow (Value.int .i64) (Sort.ahead w (q+qq)) b 0 dk from putRow_drewN _ _ _ _ _ _ _]
      have:=putRow_set (Value.int .i64) (Sort.ahead w (q+qq)) b 0 dk i u (by omega)
      rw[Nat.zero_add]at this
      exact this
     ·have:=I2.out.keep hlt (by rw[HK.out];show jY sg S d[j]! =true;rw[C.out,hq])
      rwa[C.out]at this
    |false=>
     rw[hq]at hcall
     go_wp2_with (go_at_call 224;refine hcall.mono ?_;rintro e w' ⟨rfl,qq,rfl⟩)
     exact⟨⟨i,j+1,q+qq,dk,rfl,by simp,by omega,by rw[W2.out];exact putRow_drewN _ _ _ _ _ _ _,I2.out.skip (by rw[HK.out];show jY sg S d[j]! =false;rw[C.out,hq])⟩,by simp[intOf];omega⟩
   ·obtain rfl:j=d.size:=by omega
    have hltz:¬ (d.size:Int) < (d.size:Int):=by omega
    have hcl:∀ty,(Builtin.clear_ #[228] ty #[.slice (some ⟨b,i,none⟩) (d.size - i) (cap - i)]).run Tryz.prog wr= .ok (.tuple #[]) (wr.setCells b i (List.replicate (d.size - i) (.int .i64 0))):=
     fun ty=>Lib.run_clear_slice wr _ _ ty _ Tryz.underlying228 Tryz.zeroValue3 rfl rfl b i _ _ (by omega) (fun t ht=>by
      have:=(hHk (i+t) (by omega)).1
      rw[Nat.zero_add]at this
      rw[this];rfl) (fun t ht=>by
      have:=(hHk (i+t) (by omega)).2
      rwa[Nat.zero_add]at this)
    clear hHk hI hwr
    go_wp2
    go_ret
    have hI:=I2.out
    refine⟨by rw[hI.len];rfl,q,?_⟩
    have hp:=putRow_setCells (Value.int .i64) (Sort.ahead w q) b 0 (List.replicate (d.size - i) (0:Int)) dk i (by simp;omega)
    rw[Nat.zero_add,List.map_replicate]at hp
    rw[hI.len,← hI.done (0:Int),← hp,← W2.out]
end Go.Proofs.IR
namespace Go.Proofs.IR
open Go.Shelf Go.RowKit Go.Lib Go.Sort Go.Val
set_option maxRecDepth 100000
theorem atv{w:World}{G:Gh}{v:Value}{p q:Nat}(h:cU w G (.fn 224 [] [.ptr (some (p,0)),.ptr (some (q,0))]) v):v= .func (.func 224) #[] #[.pointer (some ⟨G.ι p,0,none⟩),.pointer (some ⟨G.ι q,0,none⟩)]:=by
 cases h with
 |fn _ _ _ us vs k1 k2=>
  have e1:us= #[]:=by
   cases hu:us.toList with
   |nil=>exact Array.toList_inj.1 hu
   |cons u l=>rw[hu]at k1;cases k1
  have e2:vs= #[.pointer (some ⟨G.ι p,0,none⟩),.pointer (some ⟨G.ι q,0,none⟩)]:=by
   apply Array.toList_inj.1
   generalize vs.toList=ws at k2
   cases k2 with
   |cons _ _ _ _ _ p1 p2=>
    cases p2 with
    |cons _ _ _ _ _ q1 q2=>cases q2;cases p1;cases q1;rfl
  rw[e1,e2]
theorem afd{w:World}{G:Gh}{h:bn}(hh:nj w G h){l i:Nat}{cs:List CV}{c:CV}(ho:h.at_ l=some (.cells cs))(hc:cs[i]? =some c):G.g (G.ι l)= .box l∧G.ι l < w.heap.size∧∃v,w.cell? ⟨G.ι l,i,none⟩=some v∧dK w G (.cell l i) c v:=by
 obtain⟨_,hbx,arr,ty,fr,hheap,_,hbl,hbc⟩:=hh.obj l _ ho
 have hi:i < cs.length:=(List.getElem?_eq_some_iff.1 hc).1
 have hia:i < arr.toList.length:=by rw[hbl];exact hi
 have hv:arr.toList[i]? =some (arr.toList[i]):=gE hia
 refine⟨hbx,im hheap,arr.toList[i],?_,(hbc i c _ hc hv).1⟩
 simp only[World.cell?,hheap]
 rw[← Array.getElem?_toList];exact hv
theorem ints_at{w:World}{G:Gh}{S:List Int}{v:Value}(h:cU w G (.sl (S.map eI)) v)(hS:S≠[]):∃bs os cs,v= .slice (some ⟨bs,os,none⟩) S.length cs∧G.g bs= .imm∧bs < w.heap.size∧∀k,(hk:k < S.length)→w.cell? ⟨bs,os+k,none⟩=some (.int .i64 S[k]):=by
 generalize hd:au.sl (S.map eI)=d at h
 cases h with
 |nilsl a cap=>
  have:S=[]:=by simpa using hd
  exact absurd this hS
 |sl xs ad cap k vs hne hcap hg hb hsp hk hr hc=>
  obtain rfl:S.map eI=xs:=by simpa using hd
  have hvs:=sn hr
  obtain⟨blk,off,sp⟩:=ad
  simp only at hsp
  subst hsp
  refine⟨blk,off,cap,by simp,hg,hb,fun k hk=>?_⟩
  have:=hc k (.int .i64 S[k]) (by rw[hvs];simp[hk])
  rw[← this]
  congr 1
  by_cases h0:k=0
  ·rw[h0];simp only[Addr.add,if_true];rfl
  ·simp only[Addr.add,h0,if_false]
 |_=>cases hd
theorem ajz(p:Option Addr)(cap:Nat)(lb:Array Value)(w:World):Calls Tryz.prog 225 #[.slice p 0 cap,.func (.func 224) #[] lb] w fun e w'=>e= .returned (.slice p 0 cap)∧w'=w:=by
 have hIF:Calls Tryz.prog 262 #[.slice p 0 cap,.func (.func 224) #[] lb] w fun e w'=>e= .returned (.int .i64 (-1))∧w'=w:=AnyE.slices_IndexFunc_empty { av0 with } p cap _ w
 have ei:∀args w,(callFunc 262 args).run Tryz.prog w= .ok (.enter 262 args) w:=enters_of Tryz.func262 (by kernel_rfl) rfl
 have mixed:Tryz.prog.follows .mixedOrders=true:=by kernel_rfl
 go_enter Tryz.func225,Tryz.ntmps225
 go_wp2_with (go_at_call 262;refine hIF.mono ?_;rintro e w' ⟨rfl,rfl⟩)
 go_ret
 exact⟨rfl,rfl⟩
theorem ajW{A:cM}{i:Int}:aiH A i=true↔amN A.Sets i:=by
 unfold aiH amN
 simp only[bA,decide_eq_true_eq]
 constructor
 ·rintro⟨⟨h1,h2⟩,h3⟩;exact⟨h1,h2,h3⟩
 ·rintro⟨h1,h2,h3⟩;exact⟨⟨h1,h2⟩,h3⟩
theorem yY{l u:List Int}{sg:Int}{A:cM}{p q:Nat}{h:bn}(hp:h.at_ p=some (.cells [.val (.int .u64 sg)]))(hq:h.at_ q=some (.cells (ai7 (aiF A).cells)))(e:cw l sg A=some u):
  fk Tryz.prog 225 [.cv (.row 3 (List.map eI l)),.cv (.val (.fn 224 [] [.ptr (some (p,0)),.ptr (some (q,0))]))] h fun o h'=>o=[.cv (.val (.sl (List.map eI u)))]∧h'=h:=by
 unfold cw at e
 split at e
 case isFalse=>cases e
 rename_i hc
 obtain⟨hlen,hall⟩:=hc
 obtain rfl:=sI e
 have hro:dU=140737488355328:=rfl
 have hdel:∀i∈l,amN A.Sets i:=fun i hi=>ajW.1 (List.all_eq_true.1 hall i hi)
 refine⟨⟨Tryz.f225,_,Tryz.func225,rfl,by kernel_rfl⟩,fun w G vs hP ha hh hf=>?_⟩
 obtain⟨v,vf,rfl,hrow,hvf⟩:∃v vf,vs=[v,vf]∧cp w G (.slot 0) 3 (l.map eI) v∧cU w G (.fn 224 [] [.ptr (some (p,0)),.ptr (some (q,0))]) vf:=by
  cases ha with
  |cons _ c v _ vs h1 h2=>
   cases h2 with
   |cons _ c2 v2 _ vs2 h3 h4=>cases h4;exact⟨v,v2,rfl,h1,h3⟩
 obtain rfl:=atv hvf
 have hu:(l.filter (jY sg A.Sets)).length≤l.length:=List.length_filter_le _ _
 refine(aa3 (u:=l.filter (jY sg A.Sets)) (f:=225) (args:=#[v,.func (.func 224) #[] #[.pointer (some ⟨G.ι p,0,none⟩),.pointer (some ⟨G.ι q,0,none⟩)]]) hlen hu hrow hP hh (fun pp cap hl hv=>?_) (fun b cap arr hl hv hg h3 _ hH hcap=>?_)).mono fun e w' ⟨v',he,hr,hh',hk,hs⟩=>akc hf he hr hh' hk hs
 ·rw[hv]
  exact ajz pp cap _ w
 ·rw[hv]
  obtain⟨a1,a2,v1,a3,a4⟩:=afd hh hp (i:=0) rfl
  obtain⟨b1,b2,v2,b3,b4⟩:=afd hh hq (i:=1) (c:=.val (.sl (List.map eI A.Sets))) rfl
  have hS:A.Sets≠[]:=fun e=>by
   obtain⟨x,hx⟩:=List.exists_mem_of_ne_nil _ hl
   have:=hdel x hx
   unfold amN at this
   rw[e]at this
   simp at this
   omega
  obtain⟨bs,os,cs,c1,c2,c3,c4⟩:=ints_at b4 hS
  have a4':cU w G (.int .u64 sg) v1:=a4
  cases a4'
  rw[c1]at b3
  have hne:∀k,G.g k≠ .slot 0→k≠b:=fun k hk e=>hk (by rw[e];exact hg)
  exact aiU (S:=A.Sets) ⟨⟨a2,hne _ (by rw[a1];intro e;cases e),a3⟩,⟨b2,hne _ (by rw[b1];intro e;cases e),b3⟩,⟨c3,hne _ (by rw[c2];intro e;cases e),c4⟩,rfl⟩ hl hdel hH (by omega) hcap
theorem uQ{g:FuncId}{n:Int}{h:bn}(hE:Val.Enters CT.P g)(h0:0≤n)(h1:n≤17592186044416)
  (hroom:∀(base:Option Addr) (w:World),Calls Tryz.prog g #[.slice base 0 0,.int .i64 0] w fun e w'=>e= .returned (.slice base 0 0)∧w'=w)
  (hgrow:∀(base:Option Addr) (m:Nat) (w:World),0 < m→m≤17592186044416→Calls Tryz.prog g #[.slice base 0 0,.int .i64 (m:Int)] w fun e w'=>∃ce:Array Value,e= .returned (.slice (some ⟨w.heap.size,0,none⟩) 0 ce.size)∧ce.size≤maxLen∧w'=w.drew.alloc (.cells ce 3)):
  fk Tryz.prog g [.cv .nil,.cv (.val (.int .i64 n))] h fun o h'=>o=[.cv (.row 3 [])]∧h'=h:=by
 refine⟨hE,fun w G vs hP ha hh hf=>?_⟩
 obtain⟨a,rfl⟩:∃a,vs=[.slice a 0 0,.int .i64 n]:=by
  cases ha with
  |cons _ c v _ vs h1 h2=>
   cases h2 with
   |cons _ c2 v2 _ vs2 h3 h4=>
    cases h4
    obtain⟨a,rfl⟩:∃a,v= .slice a 0 0:=h1
    have h3':cU w G (.int .i64 n) v2:=h3
    cases h3'
    exact⟨a,rfl⟩
 by_cases hn:n=0
 ·subst hn
  refine(hroom a w).mono fun e w' ⟨he,hw⟩=>?_
  subst hw
  exact⟨[_],_,h,G,he,⟨rfl,rfl⟩,.cons _ _ _ _ (.inl ⟨rfl,a,rfl⟩) .nil,hh,hf,Kept.refl _ _⟩
 ·obtain⟨m,rfl⟩:∃m:Nat,n=(m:Int):=⟨n.toNat,by omega⟩
  refine(hgrow a m w (by omega) (by omega)).mono fun e w' ⟨ce,he,hcap,hw⟩=>?_
  have hgr:=vH (mz (w:=w.drew) (G:=G) hf (.cells ce 3) .ret)
  rw[← hw]at hgr
  refine⟨[_],_,h,G.set w.drew.heap.size .ret,he,⟨rfl,rfl⟩,.cons _ _ _ _ (.inr ⟨w.heap.size,ce.size,ce,rfl,by simp only[Gh.set];exact if_pos rfl,?_,?_,Nat.zero_le _,hcap,fun x hx=>(by cases hx),?_⟩) .nil,hgr.heapH rfl hh,hgr.fresh,hgr.kept⟩
  ·rw[hw]
   exact Array.getElem?_push_size
  ·show ce.size=ce.size*(G.set w.drew.heap.size .ret).P.cellsOf 3
   have hcell:G.P.cellsOf 3=1:=by rw[hP];kernel_rfl
   show ce.size=ce.size*G.P.cellsOf 3
   rw[hcell,Nat.mul_one]
  ·simp only[List.length_nil,Nat.zero_mul,List.take_zero]
   exact .nil
theorem afl(base:Option Addr)(w:World):Calls Tryz.prog 226 #[.slice base 0 0,.int .i64 0] w fun e w'=>e= .returned (.slice base 0 0)∧w'=w:=
 Any8.slices_Grow_room apM base 0 0 0 w (by omega) (by omega) (by omega) (by omega)
theorem afh(base:Option Addr)(w:World):Calls Tryz.prog 273 #[.slice base 0 0,.int .i64 0] w fun e w'=>e= .returned (.slice base 0 0)∧w'=w:=
 Any8.slices_Grow_room aqu base 0 0 0 w (by omega) (by omega) (by omega) (by omega)
theorem nW(w:World)(m c:Nat)(hc:m≤c):(#[]++Builtin.zeroCells (Value.int .i64 0).cells (m - 0)++Builtin.zeroCells (Value.int .i64 0).cells (c - m):Array Value).size=c:=by
 have h:∀n,(Builtin.zeroCells (Value.int .i64 0).cells n).size=n:=fun n=>by simp[Builtin.zeroCells,Value.cells]
 rw[Array.size_append,Array.size_append,h,h];simp;omega
theorem ahj(base:Option Addr)(m:Nat)(w:World)(h0:0 < m)(h1:m≤17592186044416):Calls Tryz.prog 226 #[.slice base 0 0,.int .i64 (m:Int)] w fun e w'=>∃ce:Array Value,e= .returned (.slice (some ⟨w.heap.size,0,none⟩) 0 ce.size)∧ce.size≤maxLen∧w'=w.drew.alloc (.cells ce 3):=by
 have hi:∃i0,Tryz.prog.info? 3=some i0∧i0.zero=some (.int .i64 0)∧i0.size=1∧i0.bytes=8:=⟨Tryz.t3,by kernel_rfl,by kernel_rfl,by kernel_rfl,by kernel_rfl⟩
 obtain⟨i0,a1,a2,a3,a4⟩:=hi
 have hcon:=Any8.slices_Grow_grow apM i0 (.int .i64 0) a1 a2 (by omega) base 0 0 m [] w (by omega) (by omega) (by rw[a4];omega) (by omega) (by rw[a3];rfl) (fun _=>rfl) (fun _ _ j v h=>by simp at h)
 rw[Nat.zero_add]at hcon
 refine Calls.mono hcon fun e w' ⟨he,hw⟩=>⟨_,?_,?_,hw⟩
 ·rw[he]
  congr 2
  exact(nW w m _ (grownCap_ge w m 0 3)).symm
 ·have:=nW w m _ (grownCap_ge w m 0 3)
  show(#[]++Builtin.zeroCells (Value.int .i64 0).cells (m - 0)++Builtin.zeroCells (Value.int .i64 0).cells (grownCap w m 0 3 - m):Array Value).size≤maxLen
  rw[this]
  exact grownCap_le_maxLen w m 0 3 (by simp only[maxLen];omega)
theorem ahB(base:Option Addr)(m:Nat)(w:World)(h0:0 < m)(h1:m≤17592186044416):Calls Tryz.prog 273 #[.slice base 0 0,.int .i64 (m:Int)] w fun e w'=>∃ce:Array Value,e= .returned (.slice (some ⟨w.heap.size,0,none⟩) 0 ce.size)∧ce.size≤maxLen∧w'=w.drew.alloc (.cells ce 3):=by
 have hi:∃i0,Tryz.prog.info? 3=some i0∧i0.zero=some (.int .i64 0)∧i0.size=1∧i0.bytes=8:=⟨Tryz.t3,by kernel_rfl,by kernel_rfl,by kernel_rfl,by kernel_rfl⟩
 obtain⟨i0,a1,a2,a3,a4⟩:=hi
 have hcon:=Any8.slices_Grow_grow aqu i0 (.int .i64 0) a1 a2 (by omega) base 0 0 m [] w (by omega) (by omega) (by rw[a4];omega) (by omega) (by rw[a3];rfl) (fun _=>rfl) (fun _ _ j v h=>by simp at h)
 rw[Nat.zero_add]at hcon
 refine Calls.mono hcon fun e w' ⟨he,hw⟩=>⟨_,?_,?_,hw⟩
 ·rw[he]
  congr 2
  exact(nW w m _ (grownCap_ge w m 0 3)).symm
 ·have:=nW w m _ (grownCap_ge w m 0 3)
  show(#[]++Builtin.zeroCells (Value.int .i64 0).cells (m - 0)++Builtin.zeroCells (Value.int .i64 0).cells (grownCap w m 0 3 - m):Array Value).size≤maxLen
  rw[this]
  exact grownCap_le_maxLen w m 0 3 (by simp only[maxLen];omega)
theorem aa2{n:Int}{h:bn}(h0:0≤n)(h1:n≤17592186044416):fk Tryz.prog 226 [.cv .nil,.cv (.val (.int .i64 n))] h fun o h'=>o=[.cv (.row 3 [])]∧h'=h:=
 uQ ⟨Tryz.f226,_,Tryz.func226,rfl,by kernel_rfl⟩ h0 h1 afl ahj
theorem acA{n:Int}{h:bn}(h0:0≤n)(h1:n≤17592186044416):fk Tryz.prog 273 [.cv .nil,.cv (.val (.int .i64 n))] h fun o h'=>o=[.cv (.row 3 [])]∧h'=h:=
 uQ ⟨Tryz.f273,_,Tryz.func273,rfl,by kernel_rfl⟩ h0 h1 afh ahB
end Go.Proofs.IR
namespace Go.Proofs.IR
open Go.Shelf Go.RowKit Go.Lib Go.Sort Go.Val
set_option maxRecDepth 100000
section
variable{w w':World}{G:Gh}
def Gh.fresh(G:Gh)(n m:Nat):Gh:=⟨G.P,fun b=>if n≤b∧b < m then .imm else G.g b,G.ι,G.n⟩
theorem sO(hb:Below w.heap.size w w')(hf:∀b,w.heap.size≤b→G.g b= .other):jb w G w' (Gh.fresh G w.heap.size w'.heap.size) where
 os:=hb.os
 tape:=hb.tape
 output:=hb.output
 size:=hb.size
 heap:=hb.block
 g b h:=by simp only[Gh.fresh];rw[if_neg (by omega)]
 fresh b h:=by simp only[Gh.fresh];rw[if_neg (by omega)];exact hf b (Nat.le_trans hb.size h)
 n:=nR _
 ι _ _:=rfl
 P:=rfl
theorem aon{b:List UInt8}{v:Value}(h:cU w G (.sl (b.map eU)) v):∃p cap b0 off,v= .slice p b.length cap∧(b≠[]→p=some ⟨b0,off,none⟩)∧(b≠[]→b0 < w.heap.size)∧∀j (hj:j < b.length),w.cell? ⟨b0,off+j,none⟩=some (.int .u8 (b[j].toNat:Int)):=by
 generalize hd:au.sl (b.map eU)=d at h
 cases h with
 |nilsl a cap=>
  have:b=[]:=by simpa using hd
  subst this
  exact⟨a,cap,0,0,rfl,fun h=>absurd rfl h,fun h=>absurd rfl h,fun j hj=>by simp at hj⟩
 |sl xs ad cap k vs hne hcap hg hb hs hk hr hc=>
  obtain rfl:b.map eU=xs:=by simpa using hd
  have hvs:vs=b.map fun c=>Value.int .u8 (c.toNat:Int):=by
   clear hk hc hcap hne hd
   induction b generalizing vs with
   |nil=>cases hr;rfl
   |cons c b ih=>
    have h':cn w G (.int .u8 (c.toNat:Int)::bx (b.map eU)) vs:=hr
    cases h' with
    |cons _ u _ us _ h1 h2=>cases h1;rw[ih us h2];rfl
  refine⟨some ad,cap,ad.block,ad.off,by simp,fun _=>by cases ad;simp_all,fun _=>hb,fun j hj=>?_⟩
  have:=hc j (.int .u8 (b[j].toNat:Int)) (by rw[hvs];simp[hj])
  rw[← this]
  congr 1
  cases ad
  simp only at hs
  subst hs
  by_cases hj0:j=0
  ·subst hj0;rfl
  ·simp[Addr.add,hj0]
 |_=>cases hd
end
def mq(w:World)(p:Option Addr)(zs:List UInt8):Prop:=zs≠[]→∃b off,p=some ⟨b,off,none⟩∧b < w.heap.size∧∀j (hj:j < zs.length),w.cell? ⟨b,off+j,none⟩=some (.int .u8 (zs[j].toNat:Int))
theorem strOf(zs:List UInt8):strOfNums (zs.map fun c=>(c.toNat:Int))=⟨zs.toArray⟩:=by
 unfold strOfNums
 congr 2
 rw[List.map_map]
 have:((fun n:Int=>UInt8.ofNat n.toNat)∘fun c:UInt8=>(c.toNat:Int))=id:=by funext c;simp
 rw[this,List.map_id]
theorem akv{w:World}{p:Option Addr}{zs:List UInt8}(h:mq w p zs)(cap:Nat):(convert 47 9 (.slice p zs.length cap)).run Tryz.prog w= .ok (.string ⟨zs.toArray⟩) w:=by
 by_cases hz:zs=[]
 ·subst hz
  cases p with
  |none=>exact run_convert_bytes_nil w 47 5 Tryz.underlying47 Tryz.underlying5 0 cap 9 Tryz.underlying9
  |some a=>
   have hl:(loadCells a 0).run Tryz.prog w= .ok (([]:List Int).map (Value.int .u8)).toArray w:=by
    simpa using run_loadCells_list (P:=Tryz.prog) w a [] (fun j v hj=>by simp at hj)
   show(convert 47 9 (.slice (some a) 0 cap)).run Tryz.prog w=_
   rw[run_convert_bytes_string w 47 9 5 _ 0 cap Tryz.underlying47 Tryz.underlying5 Tryz.underlying9,run_bytesToString w a 0 cap [] hl]
   rfl
 ·obtain⟨b,off,rfl,hb,hc⟩:=h hz
  rw[← strOf zs]
  exact run_convert_bytes_arg w 47 5 Tryz.underlying47 Tryz.underlying5 b off zs.length cap (zs.map fun c=>(c.toNat:Int)) (by simp) (fun i hi=>by
   rw[hc i hi]
   simp[gD,gE hi]) 9 Tryz.underlying9
theorem mq.below{w w':World}{p:Option Addr}{zs:List UInt8}(h:mq w p zs)(hb:Below w.heap.size w w'):mq w' p zs:=fun hz=>by
 obtain⟨b,off,h1,h2,h3⟩:=h hz
 exact⟨b,off,h1,Nat.lt_of_lt_of_le h2 hb.size,fun j hj=>(hb.cell (p:=⟨b,off+j,none⟩) h2).trans (h3 j hj)⟩
theorem mq.drewN{w:World}{p:Option Addr}{zs:List UInt8}(h:mq w p zs)(m:Nat):mq (w.drewN m) p zs:=fun hz=>by
 obtain⟨b,off,h1,h2,h3⟩:=h hz
 exact⟨b,off,h1,h2,fun j hj=>h3 j hj⟩
theorem tm{n:Nat}{A B:World}(h:RowKit.Below n A B)(m:Nat):RowKit.Below n A (B.drewN m):=by
 cases h;constructor <;> assumption
theorem amZ(bt bF capF cap:Nat)(p:Option Addr)(F b:List UInt8)(n:Nat)(hn:F.length=n*256)(hF:F.length≤1048576)(hb:b.length≤1048576)(w:World)(hbt:bt < w.heap.size)
  (pF:Option Addr) (hcell:w.cell? ⟨bt,0,none⟩=some (.slice pF F.length capF)) (hcap:F.length≤capF) (hpF:F≠[]→pF=some ⟨bF,0,none⟩) (hbF:F≠[]→bF < w.heap.size)
  (hcF:∀j (hj:j < F.length),w.cell? ⟨bF,j,none⟩=some (.int .u8 (F[j].toNat:Int))) (hB:mq w p b):
  Calls Tryz.prog 197 #[.pointer (some ⟨bt,0,none⟩),.slice p b.length cap] w fun e w'=>e= .returned (.int .i64 (kC F b n 0))∧Below w.heap.size w w':=by
 have mixed:Tryz.prog.follows .mixedOrders=true:=by kernel_rfl
 go_enter Tryz.func197,Tryz.ntmps197
 go_wp2
 go_loopw [5] (fun v5 wr=>∃k:Nat,k≤n∧v5= .int .i64 k∧Below w.heap.size w wr∧kC F b n 0=kC F b (n - k) k) (fun v5 _=>n - (intOf v5).toNat)
 case atStart=>exact⟨0,Nat.zero_le _,rfl,Below.refl _ _,rfl⟩
 case round=>
  obtain⟨k,hk,rfl,hbel,hfind⟩:=hrel
  have c0:=(hbel.cell (p:=⟨bt,0,none⟩) hbt).trans hcell
  by_cases hlt:k < n
  ·have hne:F≠[]:=by intro e;rw[e]at hn;simp at hn;omega
   obtain rfl:=hpF hne
   have hFb:=hbF hne
   have h1:((k:Int)*256)≤((k:Int)+1)*256:=by omega
   have hlc:((k:Int)+1)*256≤(capF:Int):=by omega
   have hw1:IntKind.i64.wrap ((k:Int)*256)=(k:Int)*256:=by rw[IntKind.wrap_i64];omega
   have hw2:IntKind.i64.wrap ((k:Int)+1)=(k:Int)+1:=by rw[IntKind.wrap_i64];omega
   have hw3:IntKind.i64.wrap (((k:Int)+1)*256)=((k:Int)+1)*256:=by rw[IntKind.wrap_i64];omega
   have h0:0≤(k:Int)*256:=by omega
   have h2:0≤((k:Int)+1)*256:=by omega
   have hc1:mq wr (some ⟨bF,k*256,none⟩) ((F.drop (k*256)).take 256):=fun hz=>⟨bF,k*256,rfl,Nat.lt_of_lt_of_le hFb hbel.size,fun j hj=>by
    have hj2:j < 256:=by rw[List.length_take]at hj;omega
    have hj3:k*256+j < F.length:=by omega
    have:=(hbel.cell (p:=⟨bF,k*256+j,none⟩) hFb).trans (hcF (k*256+j) hj3)
    rw[this]
    simp[List.getElem_take,List.getElem_drop]⟩
   have hlen:((F.drop (k*256)).take 256).length=256:=by rw[List.length_take,List.length_drop];omega
   have cv1:∀m,(convert 47 9 (.slice (some ⟨bF,k*256,none⟩) 256 (capF - k*256))).run Tryz.prog (wr.drewN m)= .ok (.string ⟨((F.drop (k*256)).take 256).toArray⟩) (wr.drewN m):=fun m=>by
    have:=akv (hc1.drewN m) (capF - k*256)
    rw[hlen]at this
    exact this
   have cv2:∀m,(convert 47 9 (.slice p b.length cap)).run Tryz.prog (wr.drewN m)= .ok (.string ⟨b.toArray⟩) (wr.drewN m):=fun m=>akv ((hB.below hbel).drewN m) cap
   have h3:(k:Int)*256≤max (((k:Int)+1)*256) 0:=by omega
   have e1:((k:Int)*256).toNat=k*256:=by omega
   have e2:(((k:Int)+1)*256).toNat=k*256+256:=by omega
   have hne2:¬ capF=k*256:=by omega
   go_wp2
   go_quiet (fail)
   have hfk:kC F b (n - k) k=if (F.drop (k*256)).take 256=b then(k:Int)else kC F b (n - (k+1)) (k+1):=by
    rw[show n - k=(n - (k+1))+1 by omega];rfl
   by_cases hq:(F.drop (k*256)).take 256=b
   ·have hqb:((F.drop (k*256)).take 256==b)=true:=by simpa using hq
    rw[hqb]
    rw[if_pos hq]at hfk
    clear cv1 cv2 hc1 hcF
    go_wp2
    go_ret
    exact⟨by rw[hfind,hfk];rfl,tm hbel _⟩
   ·have hqb:((F.drop (k*256)).take 256==b)=false:=by simpa using hq
    rw[hqb]
    rw[if_neg hq]at hfk
    clear cv1 cv2 hc1 hcF
    go_wp2
    exact⟨⟨k+1,by omega,by simp,tm hbel _,by rw[hfind,hfk]⟩,by simp[intOf];omega⟩
  ·obtain rfl:k=n:=by omega
   go_wp2
   go_ret
   refine⟨?_,hbel⟩
   rw[hfind,Nat.sub_self];rfl
theorem ans{w:World}{G:Gh}{t:Nat→Tag}{d1 d2:au}{vs:List Value}(h:dq w G t 0 [.cv (.val d1),.cv (.val d2)] vs):∃v1 v2,vs=[v1,v2]∧cU w G d1 v1∧cU w G d2 v2:=by
 cases h with
 |cons _ c v _ vs h1 h2=>
  cases h2 with
  |cons _ c2 v2 _ vs2 h3 h4=>cases h4;exact⟨v,v2,rfl,h1,h3⟩
theorem ahs{w:World}{G:Gh}{t:Tag}{F:List UInt8}{v:Value}(h:cp w G t 5 (F.map eU) v)(hP:G.P=Tryz.prog):∃p cap b,v= .slice p F.length cap∧F.length≤cap∧(F≠[]→p=some ⟨b,0,none⟩)∧(F≠[]→b < w.heap.size)∧∀j (hj:j < F.length),w.cell? ⟨b,j,none⟩=some (.int .u8 (F[j].toNat:Int)):=by
 rcases h with⟨h0,a,rfl⟩|⟨b,cap,arr,rfl,h2,h3,h4,h5,h6,h7,h8⟩
 ·have:F=[]:=List.map_eq_nil_iff.1 h0
  subst this
  exact⟨a,0,0,rfl,nR _,fun h=>absurd rfl h,fun h=>absurd rfl h,fun j hj=>by simp at hj⟩
 ·have hcell:G.P.cellsOf 5=1:=by rw[hP];kernel_rfl
  rw[hcell]at h4 h8
  have hlm:(F.map eU).length=F.length:=by simp
  rw[hlm]at h5 h8 ⊢
  rw[Nat.mul_one]at h8
  refine⟨some ⟨b,0,none⟩,cap,b,rfl,h5,fun _=>rfl,fun _=>(Array.getElem?_eq_some_iff.1 h3).1,fun j hj=>?_⟩
  have hvals:∀(l:List UInt8) (us:List Value),cn w G (bx (l.map eU)) us→us=l.map fun c=>Value.int .u8 (c.toNat:Int):=by
   intro l
   induction l with
   |nil=>intro us h;cases h;rfl
   |cons c l ih=>
    intro us h
    have h':cn w G (.int .u8 (c.toNat:Int)::bx (l.map eU)) us:=h
    cases h' with
    |cons _ u _ us _ h1 h2=>cases h1;rw[ih us h2];rfl
  have hv:=hvals F _ h8
  have hg:arr[j]? =some (Value.int .u8 (F[j].toNat:Int)):=by
   have:(arr.toList.take F.length)[j]? =some (Value.int .u8 (F[j].toNat:Int)):=by rw[hv];simp[hj]
   rw[List.getElem?_take,if_pos hj]at this
   simpa using this
  simp only[World.cell?,h3]
  exact hg
theorem acn{l:Nat}{t:ba}{b:List UInt8}{r:Int}{h:bn}(ho:h.at_ l=some (.cells [.row 5 (List.map eU t.First),.row 3 (List.map eI t.Like)]))(e:dc t b=some r):
  fk Tryz.prog 197 [.cv (.val (.ptr (some (l,0)))),.cv (.val (.sl (List.map eU b)))] h fun o h'=>o=[.cv (.val (.int .i64 r))]∧h'=h:=by
 unfold dc at e
 split at e
 case isFalse=>cases e
 rename_i hc
 obtain rfl:=sI e
 refine⟨⟨Tryz.f197,_,Tryz.func197,rfl,by kernel_rfl⟩,fun w G vs hP ha hh hf=>?_⟩
 obtain⟨v1,v2,rfl,hv1,hv2⟩:=ans ha
 obtain⟨hl,hobj⟩:=hh.obj l _ ho
 cases hv1 with
 |ptr _ _ hn=>
  obtain⟨hg,arr,et,fr,harr,hfr,hbl,hbox⟩:=hobj
  have hsz:arr.toList.length=2:=hbl
  have ha0:arr.toList[0]? =some (arr.toList[0]'(by omega)):=gE (by omega)
  obtain⟨hrow,_⟩:=hbox 0 _ _ rfl ha0
  obtain⟨pF,capF,bF,hv,hcap,hpF,hbF,hcF⟩:=ahs hrow hP
  obtain⟨p,cap,b0,off,rfl,hp,hb0,hcb⟩:=aon hv2
  have hbt:G.ι l < w.heap.size:=(Array.getElem?_eq_some_iff.1 harr).1
  have hcell:w.cell? ⟨G.ι l,0,none⟩=some (.slice pF t.First.length capF):=by
   simp only[World.cell?,harr]
   rw[hv,Array.getElem?_toList]at ha0
   exact ha0
  have hpl:=amZ (G.ι l) bF capF cap p t.First b (t.First.length/256) (by omega) hc.2.1 hc.2.2 w hbt pF hcell hcap hpF hbF hcF (fun hz=>⟨b0,off,hp hz,hb0 hz,hcb⟩)
  refine hpl.mono fun e w' ⟨he,hbel⟩=>?_
  have hgr:=sO (G:=G) hbel hf
  exact⟨[.int .i64 (kC t.First b (t.First.length/256) 0)],_,h,Gh.fresh G w.heap.size w'.heap.size,he,⟨rfl,rfl⟩,.cons _ _ _ _ (.int _ _) .nil,hgr.heapH rfl hh,hgr.fresh,hgr.kept⟩
end Go.Proofs.IR
namespace Go.Proofs.IR
open Go.RowKit Go.Shelf Go.Val
set_option maxRecDepth 100000
def xC:Go.Shelf.Ren:=⟨fun|166=>136|240=>201|276=>244|169=>138|n=>n,fun|0=>0|3=>3|4=>4|9=>9|20=>20|37=>47|70=>207|72=>209|75=>211|80=>215|164=>299|5=>5|127=>271|n=>n,fun|n=>n⟩
theorem aoH:Lays.n166 Tryz.prog xC:={
 mixed:=by kernel_rfl
 f166:=Tryz.func136.trans (congrArg some (by kernel_rfl))
 f240:=Tryz.func201.trans (congrArg some (by kernel_rfl))
 f276:=Tryz.func244.trans (congrArg some (by kernel_rfl))
 t0:=Tryz.underlying0
 a0:=Tryz.isAgg0
 z0:=Tryz.sizeOf0
 v0:=Tryz.zeroValue0
 t3:=Tryz.underlying3
 a3:=Tryz.isAgg3
 z3:=Tryz.sizeOf3
 v3:=Tryz.zeroValue3
 t4:=Tryz.underlying4
 a4:=Tryz.isAgg4
 z4:=Tryz.sizeOf4
 v4:=Tryz.zeroValue4
 t9:=Tryz.underlying9
 a9:=Tryz.isAgg9
 z9:=Tryz.sizeOf9
 v9:=Tryz.zeroValue9
 t20:=Tryz.underlying20
 a20:=Tryz.isAgg20
 z20:=Tryz.sizeOf20
 v20:=Tryz.zeroValue20
 t37:=Tryz.underlying47
 a37:=Tryz.isAgg47
 z37:=Tryz.sizeOf47
 v37:=Tryz.zeroValue47
 t70:=Tryz.underlying207
 a70:=Tryz.isAgg207
 z70:=Tryz.sizeOf207
 v70:=Tryz.zeroValue207
 t72:=Tryz.underlying209
 a72:=Tryz.isAgg209
 z72:=Tryz.sizeOf209
 v72:=Tryz.zeroValue209
 t75:=Tryz.underlying211
 a75:=Tryz.isAgg211
 z75:=Tryz.sizeOf211
 v75:=Tryz.zeroValue211
 t164:=Tryz.underlying299
 a164:=Tryz.isAgg299
 z164:=Tryz.sizeOf299
 v164:=Tryz.zeroValue299 }
theorem aoK:Lays.n169 Tryz.prog xC:={
 mixed:=by kernel_rfl
 f169:=Tryz.func138.trans (congrArg some (by kernel_rfl))
 t0:=Tryz.underlying0
 a0:=Tryz.isAgg0
 z0:=Tryz.sizeOf0
 v0:=Tryz.zeroValue0
 t3:=Tryz.underlying3
 a3:=Tryz.isAgg3
 z3:=Tryz.sizeOf3
 v3:=Tryz.zeroValue3
 t9:=Tryz.underlying9
 a9:=Tryz.isAgg9
 z9:=Tryz.sizeOf9
 v9:=Tryz.zeroValue9
 t37:=Tryz.underlying47
 a37:=Tryz.isAgg47
 z37:=Tryz.sizeOf47
 v37:=Tryz.zeroValue47
 t70:=Tryz.underlying207
 a70:=Tryz.isAgg207
 z70:=Tryz.sizeOf207
 v70:=Tryz.zeroValue207
 t72:=Tryz.underlying209
 a72:=Tryz.isAgg209
 z72:=Tryz.sizeOf209
 v72:=Tryz.zeroValue209
 t127:=Tryz.underlying271
 a127:=Tryz.isAgg271
 z127:=Tryz.sizeOf271
 v127:=Tryz.zeroValue271 }
theorem ar4:Builder.X72 Tryz.prog xC:=⟨by kernel_rfl,by kernel_rfl⟩
theorem aah:Builder.Extra Tryz.prog xC:={ toX72:=ar4,t5:=Tryz.underlying5,a5:=Tryz.isAgg5,z5:=Tryz.sizeOf5,v5:=Tryz.zeroValue5,infoByte:=by kernel_rfl,cellsByte:=by kernel_rfl,sizeByte:=by kernel_rfl,neB5:=by decide }
theorem xq{n:Nat}(h:n < 16):ou n=[if n < 10 then UInt8.ofNat (48+n)else UInt8.ofNat (55+n)]:=by rw[ou,dif_pos h]
theorem ami{n:Nat}(h:¬ n < 16):ou n=ou (n/16)++ou (n%16):=by rw[ou,dif_neg h]
theorem pU:∀(k n:Nat),n < 16^(k+1)→(ou n).length≤k+1
 |k,n,h=>by
  induction k generalizing n with
  |zero=>rw[xq (by simpa using h)];simp
  |succ k ih=>
   by_cases hn:n < 16
   ·rw[xq hn];simp
   ·rw[ami hn,lA,xq (Nat.mod_lt _ (by decide))]
    have:=ih (n/16) (by rw[Nat.pow_succ]at h;omega)
    simp only[lC,List.length_nil];omega
end Go.Proofs.IR
namespace Go.Proofs.IR
open Go.RowKit Go.Shelf Go.Val
set_option maxRecDepth 100000
theorem asj(w:World)(n:Nat)(h:n < 16):Calls Tryz.prog 137 #[.int .i64 (n:Int)] w fun e w'=>e= .returned (.string ⟨(ou n).toArray⟩)∧w'=w:=by
 rw[xq h]
 have:n=0∨n=1∨n=2∨n=3∨n=4∨n=5∨n=6∨n=7∨n=8∨n=9∨n=10∨n=11∨n=12∨n=13∨n=14∨n=15:=by omega
 rcases this with rfl|rfl|rfl|rfl|rfl|rfl|rfl|rfl|rfl|rfl|rfl|rfl|rfl|rfl|rfl|rfl
 all_goals
  go_enter Tryz.func137,Tryz.ntmps137
  go_wp2
 all_goals go_ret
 all_goals exact⟨rfl,rfl⟩
theorem aum(w:World)(n:Nat)(hn:n≤1114111):Calls Tryz.prog 137 #[.int .i64 (n:Int)] w fun e w'=>e= .returned (.string ⟨(ou n).toArray⟩)∧w'=w:=by
 induction n using Nat.strongRecOn with
 |_ n ih=>
  by_cases h:n < 16
  ·exact asj w n h
  ·have i1:Calls Tryz.prog 137 #[.int .i64 ((n:Int)/16)] w fun e w'=>e= .returned (.string ⟨(ou (n/16)).toArray⟩)∧w'=w:=by simpa using ih (n/16) (by omega) (by omega)
   have i2:Calls Tryz.prog 137 #[.int .i64 ((n:Int)%16)] w fun e w'=>e= .returned (.string ⟨(ou (n%16)).toArray⟩)∧w'=w:=by simpa using ih (n%16) (by omega) (by omega)
   have l1:=pU 5 (n/16) (by omega)
   have l2:=pU 5 (n%16) (by omega)
   rw[ami h]
   clear ih
   generalize ou (n/16)=s1 at*
   generalize ou (n%16)=s2 at*
   go_enter Tryz.func137,Tryz.ntmps137
   have h':¬ (n:Int) < 16:=by omega
   go_wp2_with (first|(go_at_call 137;refine i1.mono ?_;clear i1;rintro e w' ⟨rfl,rfl⟩)|(go_at_call 137;refine i2.mono ?_;clear i2;rintro e w' ⟨rfl,rfl⟩))
   go_ret
   exact⟨rfl,rfl⟩
end Go.Proofs.IR
namespace Go.Proofs.IR
open Go.RowKit Go.Shelf Go.Val
set_option maxRecDepth 100000
theorem aau(w:World)(o:Obj):(w.alloc o).heap[w.heap.size]? =some o:=Array.getElem?_push_size
theorem arx{w:World}{G:Gh}{t:Nat→Tag}{d:au}{vs:List Value}(h:dq w G t 0 [.cv (.val d)] vs):∃v,vs=[v]∧cU w G d v:=by
 cases h with
 |cons _ c v _ vs h1 h2=>cases h2;exact⟨v,rfl,h1⟩
def jD(x:ah):Str:=wb x.Low++if x.High=x.Low then []else 45::wb x.High
def axP(x:ah):Prop:=0≤x.Low∧x.Low≤1114111∧0≤x.High∧x.High≤1114111
theorem pY{n:Int}(h:n≤1114111):(wb n).length≤10:=by
 have:=pU 5 n.toNat (by omega)
 simp only[wb,lA,lC,List.length_nil];omega
theorem atF{x:ah}(h:axP x):(jD x).length≤21:=by
 have h1:=pY h.2.1;have h2:=pY h.2.2.2
 unfold jD
 rw[lA]
 split
 ·simp;omega
 ·simp only[lC];omega
theorem xi:∀(l:List ah),(∀x∈l,axP x)→(l.flatMap jD).length≤l.length*21
 | [],_=>by simp
 |x::l,h=>by
  have h1:=atF (h x (by simp));have h2:=xi l (fun y hy=>h y (List.mem_cons_of_mem _ hy))
  simp only[List.flatMap_cons,lA,lC];omega
theorem ayd(w:World)(n:Int)(h0:0≤n)(h1:n≤1114111):Calls Tryz.prog 137 #[.int .i64 n] w fun e w'=>e= .returned (.string ⟨(ou n.toNat).toArray⟩)∧w'=w:=by
 have:=aum w n.toNat (by omega)
 rwa[Int.toNat_of_nonneg h0]at this
theorem sE(B b:Nat)(pre s:List UInt8)(w:World)(h:Lib.IsBuilderF 209 5 B b (Lib.byteCells pre) w)(hl:pre.length+s.length≤140737488355328)(hB:B≤w.heap.size):
  Calls Tryz.prog 136 #[.pointer (some ⟨b,0,none⟩),.string ⟨s.toArray⟩] w fun e w'=>e= .returned (.tuple #[.int .i64 s.length,.nilIface])∧Lib.IsBuilderF 209 5 B b (Lib.byteCells (pre++s)) w'∧Below B w w'∧Lib.OthersKept 5 (some b) w w':=by
 refine(Any.Builder_WriteString_k aoH aah B b (Lib.byteCells pre) ⟨s.toArray⟩ w h (by rw[Lib.byteCells_length];exact hl) hB).mono fun e w' ⟨h1,h2,h3⟩=>⟨h1,.inr ?_,h3⟩
 rw[Lib.byteCells_append]
 exact h2
theorem ajj(B b:Nat)(pre:List UInt8)(w:World)(h:Lib.IsBuilderF 209 5 B b (Lib.byteCells pre) w)(hB:B≤w.heap.size):
  Calls Tryz.prog 138 #[.pointer (some ⟨b,0,none⟩)] w fun e w'=>e= .returned (.string ⟨pre.toArray⟩)∧Below B w w':=
 (Any.Builder_String_any_k aoK aah B b pre w h hB).mono fun e w' ⟨h1,_,h2,_⟩=>⟨h1,h2⟩
theorem wh{T e:TypeId}{B b:Nat}{bs:List Value}{w:World}(h:Lib.IsBuilderF T e B b bs w):b < w.heap.size:=by
 rcases h with h|h <;> exact h.lt
theorem aqo{b:Nat}{w w':World}{k:Nat}{c d:Value}(h:Lib.OthersKept 5 (some b) w w')(hk:w.heap[k]? =some (.cells #[c,d] 147 (0,0)))(hne:k≠b):w'.heap[k]? =some (.cells #[c,d] 147 (0,0)):=
 h k _ hk (fun e=>hne (sI e)) (fun c fz e=>by cases e)
set_option maxHeartbeats 2000000 in
theorem auM(b off cap:Nat)(p:Option Addr)(l:List ah)(hp:l≠[]→p=some ⟨b,off,none⟩)(hlen:l.length≤1200000)(hok:∀x∈l,axP x)(w:World)(hb:l≠[]→b < w.heap.size)
  (hc:∀j (h:j < l.length),w.cell? ⟨b,off+j*2,none⟩=some (.int .i64 l[j].Low)∧w.cell? ⟨b,off+j*2+1,none⟩=some (.int .i64 l[j].High)):
  Calls Tryz.prog 76 #[.slice p l.length cap] w fun e w'=>e= .returned (.string ⟨(lp l).toArray⟩)∧Below w.heap.size w w':=by
 go_enter Tryz.func76,Tryz.ntmps76
 have hB0:=Lib.IsBuilderF.of (Lib.fresh_isBuilder 209 5 w)
 have hw0:=sE w.heap.size w.heap.size [] [91] _ hB0 (by simp) (by simp)
 go_wp2_with (go_at_call 136;refine hw0.mono ?_;rintro e w1 ⟨rfl,hI1,hb1,_⟩)
 have hbel1:Below w.heap.size w w1:=((Below.refl _ w).alloc (nR _) _).trans hb1
 go_loopw [5,9] (fun v5 v9 wr=>∃k:Nat,k≤l.length∧v9= .int .i64 k∧Lib.IsBuilderF 209 5 w.heap.size w.heap.size (Lib.byteCells (91::(l.take k).flatMap jD)) wr∧Below w.heap.size w wr)
  (fun _ v9 _=>l.length - (intOf v9).toNat)
 case atStart=>exact⟨0,Nat.zero_le _,rfl,by simpa using hI1,hbel1⟩
 case round=>
  obtain⟨k,hk,rfl,hI,hbel⟩:=hrel
  by_cases hlt:k < l.length
  ·have hne:l≠[]:=by intro e;rw[e]at hlt;simp at hlt
   obtain rfl:=hp hne
   obtain⟨c1,c2⟩:=hc k hlt
   have c1':=(hbel.cell (p:=⟨b,off+k*2,none⟩) (hb hne)).trans c1
   have c2':=(hbel.cell (p:=⟨b,off+k*2+1,none⟩) (hb hne)).trans c2
   have hfx:=hok l[k] (gM hlt)
   generalize hx:l[k]=x at c1' c2' hfx
   obtain⟨f1,f2,f3,f4⟩:=hfx
   have tl:=xi (l.take k) (fun y hy=>hok y (List.mem_of_mem_take hy))
   have xl1:=pY f2
   have xl2:=pY f4
   have ul1:=pU 5 x.Low.toNat (by omega)
   have ul2:=pU 5 x.High.toNat (by omega)
   have i1:=fun W=>ayd W x.Low f1 f2
   have i2:=fun W=>ayd W x.High f3 f4
   have ll:(l.take k).length≤1200000:=by rw[List.length_take];omega
   have hI2:=hI.alloc (.cells #[.int .i64 x.Low,.int .i64 x.High] 147)
   have hw1:=sE w.heap.size w.heap.size _ (wb x.Low) _ hI2 (by simp only[lC];omega) (by have:=hbel.size;simp;omega)
   unfold wb at hw1
   have hsnoc:91::(l.take (k+1)).flatMap jD=91::(l.take k).flatMap jD++jD x:=by
    rw[List.take_succ_eq_append_getElem hlt,hx];simp
   by_cases heq:x.High=x.Low
   ·have e:jD x=[92,120,123]++ou x.Low.toNat++[125]:=by unfold jD wb;rw[if_pos heq];simp
    rw[heq]at hw1 c2'
    clear ul2 xl2 i2
    go_wp2_with (first|(go_at_call 137;refine(i1 _).mono ?_;clear i1;rintro e w' ⟨rfl,rfl⟩)|(go_at_call 136;refine hw1.mono ?_;clear hw1;rintro e w2 ⟨rfl,hI3,hb3,hk3⟩;have hB80:=aqo hk3 (aau wr _) (by have:=hbel.size;have:=wh hI;omega);have d0:w2.cell? ⟨wr.heap.size,0,none⟩=some (.int .i64 x.Low):=(by simp only[World.cell?,hB80];rfl);have d1:w2.cell? ⟨wr.heap.size,1,none⟩=some (.int .i64 x.Low):=(by simp only[World.cell?,hB80];rfl)))
    have hbel3:Below w.heap.size w w2:=(hbel.alloc hbel.size _).trans hb3
    exact⟨⟨k+1,by omega,by simp,by rw[hsnoc,e];exact hI3,hbel3⟩,by simp[intOf];omega⟩
   ·have e:jD x=([92,120,123]++ou x.Low.toNat++[125])++(45::([92,120,123]++ou x.High.toNat++[125])):=by unfold jD wb;rw[if_neg heq]
    go_wp2_with (first|(go_at_call 137;refine(i1 _).mono ?_;clear i1;rintro e w' ⟨rfl,rfl⟩)|(go_at_call 136;refine hw1.mono ?_;clear hw1;rintro e w2 ⟨rfl,hI3,hb3,hk3⟩;have hB80:=aqo hk3 (aau wr _) (by have:=hbel.size;have:=wh hI;omega);have d0:w2.cell? ⟨wr.heap.size,0,none⟩=some (.int .i64 x.Low):=(by simp only[World.cell?,hB80];rfl);have d1:w2.cell? ⟨wr.heap.size,1,none⟩=some (.int .i64 x.High):=(by simp only[World.cell?,hB80];rfl);have hw2:=sE w.heap.size w.heap.size _ (45::wb x.High) w2 hI3 (by unfold wb at xl1;simp only[lC,lA]at*;omega) (by have:=((hbel.alloc hbel.size (.cells #[.int .i64 x.Low,.int .i64 x.High] 147)).trans hb3).size;omega);unfold wb at hw2)|(go_at_call 137;refine(i2 _).mono ?_;clear i2;rintro e w' ⟨rfl,rfl⟩)|(go_at_call 136;refine hw2.mono ?_;clear hw2;rintro e w3 ⟨rfl,hI4,hb4,hk4⟩))
    have hbel3:Below w.heap.size w w3:=((hbel.alloc hbel.size _).trans hb3).trans hb4
    exact⟨⟨k+1,by omega,by simp,by rw[hsnoc,e];simpa using hI4,hbel3⟩,by simp[intOf];omega⟩
  ·obtain rfl:k=l.length:=by omega
   rw[List.take_length]at hI
   have tl:=xi l hok
   have hw1:=sE w.heap.size w.heap.size _ [93] wr hI (by simp only[lC,List.length_nil];omega) hbel.size
   go_wp2_with (first|(go_at_call 136;refine hw1.mono ?_;clear hw1;rintro e w2 ⟨rfl,hI3,hb3,hk3⟩;have hst:=ajj w.heap.size w.heap.size _ w2 hI3 (hbel.trans hb3).size)|(go_at_call 138;refine hst.mono ?_;clear hst;rintro e w3 ⟨rfl,hb4⟩))
   go_ret
   refine⟨?_,(hbel.trans hb3).trans hb4⟩
   have e:lp l=91::(l.flatMap jD++[93]):=rfl
   rw[e];rfl
def aeV(x:ah):List Value:=[.int .i64 x.Low,.int .i64 x.High]
theorem ur:∀{l:List ah} {j:Nat} (h:j < l.length),(l.flatMap aeV)[j*2]? =some (.int .i64 l[j].Low)∧(l.flatMap aeV)[j*2+1]? =some (.int .i64 l[j].High)
 |x::l,0,h=>⟨rfl,rfl⟩
 |x::l,j+1,h=>by
  have ih:=ur (l:=l) (j:=j) (by simpa using h)
  have e:(j+1)*2=j*2+2:=by omega
  simp only[List.flatMap_cons,aeV,List.cons_append,List.nil_append,e,List.getElem_cons_succ]
  exact ih
theorem aje{w:World}{G:Gh}{l:List ah}{v:Value}(h:cU w G (.sl (l.map ay)) v):∃p cap b off,v= .slice p l.length cap∧(l≠[]→p=some ⟨b,off,none⟩)∧(l≠[]→b < w.heap.size)∧
  ∀j (hj:j < l.length),w.cell? ⟨b,off+j*2,none⟩=some (.int .i64 l[j].Low)∧w.cell? ⟨b,off+j*2+1,none⟩=some (.int .i64 l[j].High):=by
 generalize hd:au.sl (l.map ay)=d at h
 cases h with
 |nilsl a cap=>
  have:l=[]:=by simpa using hd
  subst this
  exact⟨a,cap,0,0,rfl,fun h=>absurd rfl h,fun h=>absurd rfl h,fun j hj=>by simp at hj⟩
 |sl xs ad cap k vs hne hcap hg hb hs hk hr hc=>
  obtain rfl:l.map ay=xs:=by simpa using hd
  have hvs:vs=l.flatMap aeV:=by
   clear hk hc hcap hne hd
   induction l generalizing vs with
   |nil=>cases hr;rfl
   |cons x l ih=>
    have h':cn w G (.int .i64 x.Low:: .int .i64 x.High::bx (l.map ay)) vs:=hr
    cases h' with
    |cons _ u _ us _ h1 h2=>
     cases h2 with
     |cons _ u2 _ us2 _ h3 h4=>cases h1;cases h3;rw[ih us2 h4];rfl
  have addr:∀i,ad.add i=⟨ad.block,ad.off+i,none⟩:=fun i=>by
   cases ad
   simp only at hs
   subst hs
   by_cases hi:i=0
   ·subst hi;rfl
   ·simp[Addr.add,hi]
  refine⟨some ad,cap,ad.block,ad.off,by simp,fun _=>by cases ad;simp_all,fun _=>hb,fun j hj=>?_⟩
  have hc0:=hc (j*2) _ (by rw[hvs];exact(ur hj).1)
  have hc1:=hc (j*2+1) _ (by rw[hvs];exact(ur hj).2)
  rw[addr]at hc0 hc1
  exact⟨hc0,by rw[Nat.add_assoc];exact hc1⟩
 |_=>cases hd
theorem ald{l:List ah}{u:Str}{h:bn}(e:nI l=some u):fk Tryz.prog 76 [.cv (.val (.sl (List.map ay l)))] h fun o h'=>o=[.cv (.val (.str (Val.bs u)))]∧h'=h:=by
 unfold nI at e
 split at e
 case isFalse=>cases e
 rename_i hlen
 obtain rfl:=sI e
 refine⟨⟨Tryz.f76,_,Tryz.func76,rfl,by kernel_rfl⟩,fun w G vs hP ha hh hf=>?_⟩
 obtain⟨v,rfl,hv⟩:=arx ha
 obtain⟨p,cap,b0,off,rfl,hp,hb0,hc⟩:=aje hv
 refine(auM b0 off cap p l hp hlen.1 hlen.2 w hb0 hc).mono fun e w' ⟨he,hbel⟩=>?_
 have hgr:=sO (G:=G) hbel hf
 exact⟨[.string ⟨(lp l).toArray⟩],_,h,Gh.fresh G w.heap.size w'.heap.size,he,⟨rfl,rfl⟩,.cons _ _ _ _ (.str _) .nil,hgr.heapH rfl hh,hgr.fresh,hgr.kept⟩
end Go.Proofs.IR
namespace Go.Val
open Go.Proofs
def ayi(f:FuncId)(i:Nat):How:=match f,i with
 |230,0=>.move
 |_,_=>.data
def ava(f:FuncId):How:=match f with
 |230=>.move
 |_=>.data
noncomputable def CTP:Ctx:={ P:=Tryz.prog,how:=ayi,gives:=ava,ext:=fun _ _ _ _=>none,hand:=fun _ _ _ _ _=>False }
def ayo(f id:Nat)(s:St):List fb:=match f,id with
 |17,9=>match s.get 8 with
  |.cv (.val (.ptr (some (l,_))))=>(List.range 6).map (.cell l)
  |_=>[]
 |_,_=>[]
noncomputable def EP:Ev:={ C:=CTP,hand:=fun _ _=>none,plan:=fun _ _=>none,fix:=ayo,ext:=fun _ _ _ _=>none,isExt:=fun _=>false }
theorem okP:at9 EP where
 hand f a o h e:=by cases e
 ext g ds k zs ys e:=by cases e
end Go.Val
namespace Go.Val
open Go.Proofs
set_option maxRecDepth 100000
theorem alY{f:FuncId}{args out:List SV}(h:((xA EP 200 60 f args ⟨0,fun _=>none⟩).map (·.1))=some out):cq CTP f args ⟨0,fun _=>none⟩ fun o h'=>o=out:=by
 cases e:xA EP 200 60 f args ⟨0,fun _=>none⟩ with
 |none=>rw[e]at h;cases h
 |some p=>
  obtain⟨o,h'⟩:=p
  rw[e]at h
  obtain rfl:=sI h
  exact(aeA okP 60 _ _ _ _ _ e).mono fun o1 h1 ⟨e1,e2⟩=>e1
theorem aoZ:((xA EP 200 60 29 [.cv (.val (.sl (at5.map eU)))] ⟨0,fun _=>none⟩).map (·.1))=some [.cv (.val (.sl (List.map eI [97,98,32,99])))]:=by kernel_rfl
theorem amw:((xA EP 200 60 17 [.cv (.val (.sl (awW.map eU)))] ⟨0,fun _=>none⟩).map (·.1))=some [.cv (.val (gB vF)),.cv (.val (.int .i64 0)),.cv (.val (.int .i64 0))]:=by kernel_rfl
theorem ale:((xA EP 200 60 17 [.cv (.val (.sl (ax5.map eU)))] ⟨0,fun _=>none⟩).map (·.1))=some [.cv (.val (gB axX)),.cv (.val (.int .i64 0)),.cv (.val (.int .i64 0))]:=by kernel_rfl
end Go.Val
namespace Go.Proofs.IR
open Go.Val
set_option maxRecDepth 100000
theorem apX:Tryz.prog.follows .mixedOrders=true:=by kernel_rfl
theorem amu:fF CTP:=⟨fun _ _ _ _ _ e=>e.elim,fun _ _ _ _ e=>e.elim,fun _ _ _ _ _ e=>by cases e⟩
theorem rV{t:List UInt8}{p:bL}(hev:((xA EP 200 60 17 [.cv (.val (.sl (t.map eU)))] ⟨0,fun _=>none⟩).map (·.1))=some [.cv (.val (gB p)),.cv (.val (.int .i64 0)),.cv (.val (.int .i64 0))])(h:bn):
  fk Tryz.prog 17 [.cv (.val (.sl (t.map eU)))] h fun o h'=>o=[.cv (.val (gB p)),.cv (.val (.int .i64 0)),.cv (.val (.int .i64 0))]∧h'=h:=
 yp (qV amu apX (alY hev)) (fun _ _ e=>e) (fun o e=>by
  obtain rfl:=List.mem_singleton.1 e
  show(au.sl (List.map eU t)).under 0
  simp only[au.under,dL]) (fun o e=>by
  rcases List.mem_cons.1 e with rfl|e
  ·exact Enc.under (e:=gB) 0 p
  ·rcases List.mem_cons.1 e with rfl|e
   ·trivial
   ·obtain rfl:=List.mem_singleton.1 e;trivial) h
theorem abJ(h:bn):fk Tryz.prog 29 [.cv (.val (.sl (at5.map eU)))] h fun o h'=>o=[.cv (.val (.sl (List.map eI [97,98,32,99])))]∧h'=h:=
 yp (qV amu apX (alY aoZ)) (fun _ _ e=>e) (fun o e=>by
  obtain rfl:=List.mem_singleton.1 e
  show(au.sl (List.map eU at5)).under 0
  simp only[au.under,dL]) (fun o e=>by
  obtain rfl:=List.mem_singleton.1 e
  show(au.sl (List.map eI [97,98,32,99])).under 0
  simp only[au.under,dL]) h
theorem atU:∀f a h o h',CT.hand f a h o h'→fk CT.P f a h fun o1 h1=>o1=o∧h1=h':=by
 intro f a h o h' hh
 obtain⟨rfl,hh⟩:tU f a h o h':=hh
 rcases hh with⟨rfl,l,u,rfl,he,rfl⟩|⟨rfl,l,t,b,r,rfl,ho,he,rfl⟩|⟨rfl,l,u,rfl,he,rfl⟩|⟨rfl,l,u,rfl,he,rfl⟩|⟨hf,n,rfl,h0,h1,rfl⟩|⟨rfl,l,sg,A,p,q,u,rfl,hp,hq,he,rfl⟩|⟨rfl,b,r,rfl,he,rfl⟩|⟨rfl,b,r,rfl,he,rfl⟩
 ·exact wV he
 ·exact acn ho he
 ·exact ald he
 ·exact uK he
 ·rcases hf with rfl|rfl
  ·exact aa2 h0 h1
  ·exact acA h0 h1
 ·exact yY hp hq he
 ·unfold ee at he
  split at he
  ·rename_i hb
   subst hb
   obtain rfl:=sI he
   exact rV amw _
  ·split at he
   ·rename_i hb
    subst hb
    obtain rfl:=sI he
    exact rV ale _
   ·cases he
 ·unfold ef at he
  split at he
  ·rename_i hb
   subst hb
   obtain rfl:=sI he
   exact abJ _
  ·cases he
theorem arl:fF CT:=⟨atU,fun _ _ _ _ e=>e.elim,awr⟩
end Go.Proofs.IR

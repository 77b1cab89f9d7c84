/- A value semantics of the model's programs, sound against it, and functions read off the given program with the proofs that it runs so; no condition. -/
import Derived.Test.YtmfelmglmhjggaaGreatOwnC
import Derived.Sort.Defs
import Derived.Lib.BitFns
import Derived.Lib.SlicesCompact
import Derived.Test.YtmfelmglmhjggaaGreatChecked
import Derived.SizedLaws
import Derived.ChangeArms
import Derived.Shelf.SlSortCmp.NoneTotal
import Derived.Shelf.SlicesG.Cmp
import Derived.Shelf.SortG.AssemblyIn
import Derived.Shelf.SortG.SortNone
import Derived.Shelf.SlicesG.CompactI
import Derived.Sort.EveryDepth
import Derived.Shelf.SlicesE.DeleteFunc
import Derived.Shelf.SlicesQ.Reverse
import Derived.Shelf.Spec.SlicesGrow
import Derived.WalkKit
import Derived.OwnWalkIn
import Derived.TacticsInMore
import Derived.Deep.QuietTactic
import Derived.BigQuiet
import Derived.Laws.BytesArg
import Derived.Shelf.Strings.Builder2
import Derived.Shelf.Strings.BuilderK
set_option linter.all false
set_option linter.unnecessarySimpa false
set_option linter.unusedVariables false
set_option linter.unusedSimpArgs false
namespace Go.Val
structure az where
 Kind:Int
 Set:Int
 Kids:List az
instance:Inhabited az:=⟨⟨default,default,[]⟩⟩
mutual
def bR:az→ao
 | ⟨Kind,Set,Kids⟩=>.agg [.int .i64 Kind,.int .i64 Set,.sl (xr Kids)]
def xr:List az→List ao
 | []=>[]
 | x::xs=>bR x::xr xs
end
theorem uy:∀ (l:List az),xr l=List.map bR l
 | []=>rfl
 | x::xs=>by simp only[xr,List.map_cons,uy xs]
theorem gY (x:az):bR x= .agg [.int .i64 x.Kind,.int .i64 x.Set,.sl (List.map bR x.Kids)]:=by cases x;simp only[bR,uy]
mutual
theorem sH (n:Nat):∀ (x:az),(bR x).under n
 | ⟨Kind,Set,Kids⟩=>by simp only[bR,ao.under,bG,and_true,true_and];exact qn n Kids
theorem qn (n:Nat):∀ (l:List az),bG n (xr l)
 | []=>trivial
 | x::xs=>⟨sH n x,qn n xs⟩
end
instance:Enc bR 3:=⟨fun x=>by rw[gY];rfl,sH⟩
attribute [go_sem] gY
structure ak where
 Low:Int
 High:Int
 deriving DecidableEq,Inhabited
def bi (x:ak):ao:=.agg [.int .i64 x.Low,.int .i64 x.High]
instance:Enc bi 2:=⟨fun _=>rfl,fun n x=>by simp only[bi,ao.under,bG,dx,and_self]⟩
attribute [go_sem] bi
structure iV where
 Break:Bool
 Left:az
 Right:az
 deriving Inhabited
def fp (x:iV):ao:=.agg [.bool x.Break,.int .i64 x.Left.Kind,.int .i64 x.Left.Set,.sl (List.map bR x.Left.Kids),.int .i64 x.Right.Kind,.int .i64 x.Right.Set,.sl (List.map bR x.Right.Kids)]
instance:Enc fp 7:=⟨fun _=>rfl,fun n x=>by simp only[fp,ao.under,bG,dx,and_self]⟩
attribute [go_sem] fp
structure aW where
 Sets:List (List ak)
 Rules:List iV
 deriving Inhabited
def fP (x:aW):ao:=.agg [.sl (List.map (eL bi) x.Sets),.sl (List.map fp x.Rules)]
instance:Enc fP 2:=⟨fun _=>rfl,fun n x=>by simp only[fP,ao.under,bG,dx,and_self]⟩
attribute [go_sem] fP
structure aU where
 sets:Int
 met:Int
 deriving DecidableEq,Inhabited
def jy (x:aU):ao:=.agg [.int .i64 x.sets,.int .i64 x.met]
instance:Enc jy 2:=⟨fun _=>rfl,fun n x=>by simp only[jy,ao.under,bG,dx,and_self]⟩
attribute [go_sem] jy
structure cQ where
 Low:Int
 High:Int
 Value:UInt8
 deriving DecidableEq,Inhabited
def iv (x:cQ):ao:=.agg [.int .i64 x.Low,.int .i64 x.High,.int .u8 (x.Value.toNat:Int)]
instance:Enc iv 3:=⟨fun _=>rfl,fun n x=>by simp only[iv,ao.under,bG,dx,and_self]⟩
attribute [go_sem] iv
structure bB where
 like:Vector UInt8 4352
 first:List (Vector UInt8 256)
 deriving DecidableEq,Inhabited
structure aH where
 trie:bB
 masks:List Int
 least:List Int
 deriving DecidableEq,Inhabited
structure lx where
 Sets:List (List ak)
 M:List Int
 First:List Int
 deriving DecidableEq,Inhabited
def fb (x:lx):ao:=.agg [.sl (List.map (eL bi) x.Sets),.sl (List.map (eK .u64) x.M),.sl (List.map eI x.First)]
instance:Enc fb 3:=⟨fun _=>rfl,fun n x=>by simp only[fb,ao.under,bG,dx,and_self]⟩
attribute [go_sem] fb
structure gB where
 First:List UInt8
 Like:List Int
 deriving DecidableEq,Inhabited
def gw (x:gB):ao:=.agg [.sl (List.map eU x.First),.sl (List.map eI x.Like)]
instance:Enc gw 2:=⟨fun _=>rfl,fun n x=>by simp only[gw,ao.under,bG,dx,and_self]⟩
attribute [go_sem] gw
structure cu where
 Null:Bool
 Sets:List Int
 First:List Int
 Last:List Int
 Follow:List (List Int)
 deriving DecidableEq,Inhabited
def am2 (x:cu):ao:=.agg [.bool x.Null,.sl (List.map eI x.Sets),.sl (List.map eI x.First),.sl (List.map eI x.Last),.sl (List.map (eL eI) x.Follow)]
instance:Enc am2 5:=⟨fun _=>rfl,fun n x=>by simp only[am2,ao.under,bG,dx,and_self]⟩
attribute [go_sem] am2
structure ar where
 null:Bool
 first:List Int
 last:List Int
 deriving DecidableEq,Inhabited
def mq (x:ar):ao:=.agg [.bool x.null,.sl (List.map eI x.first),.sl (List.map eI x.last)]
instance:Enc mq 3:=⟨fun _=>rfl,fun n x=>by simp only[mq,ao.under,bG,dx,and_self]⟩
attribute [go_sem] mq
structure fa where
 Next:List (List Int)
 Final:List Bool
 deriving DecidableEq,Inhabited
def ay6 (x:fa):ao:=.agg [.sl (List.map (eL eI) x.Next),.sl (List.map eB x.Final)]
instance:Enc ay6 2:=⟨fun _=>rfl,fun n x=>by simp only[ay6,ao.under,bG,dx,and_self]⟩
attribute [go_sem] ay6
structure ui where
 v0:fa
 v1:fa
 deriving DecidableEq,Inhabited
def akp (x:ui):ao:=.agg [.sl (List.map (eL eI) x.v0.Next),.sl (List.map eB x.v0.Final),.sl (List.map (eL eI) x.v1.Next),.sl (List.map eB x.v1.Final)]
instance:Enc akp 4:=⟨fun _=>rfl,fun n x=>by simp only[akp,ao.under,bG,dx,and_self]⟩
attribute [go_sem] akp
structure bA where
 breaks:Bool
 states:ui
 deriving DecidableEq,Inhabited
def bD (x:bA):ao:=.agg [.bool x.breaks,.sl (List.map (eL eI) x.states.v0.Next),.sl (List.map eB x.states.v0.Final),.sl (List.map (eL eI) x.states.v1.Next),.sl (List.map eB x.states.v1.Final)]
instance:Enc bD 5:=⟨fun _=>rfl,fun n x=>by simp only[bD,ao.under,bG,dx,and_self]⟩
attribute [go_sem] bD
structure aS where
 rules:List bA
 trie:bB
 classes:Int
 deriving DecidableEq,Inhabited
structure lG where
 v0:az
 v1:az
 deriving Inhabited
def zV (x:lG):ao:=.agg [.int .i64 x.v0.Kind,.int .i64 x.v0.Set,.sl (List.map bR x.v0.Kids),.int .i64 x.v1.Kind,.int .i64 x.v1.Set,.sl (List.map bR x.v1.Kids)]
instance:Enc zV 6:=⟨fun _=>rfl,fun n x=>by simp only[zV,ao.under,bG,dx,and_self]⟩
attribute [go_sem] zV
noncomputable section
def ltR (a b:ak):Bool:=decide (a.Low < b.Low)
def ado (l:List ak):Option (List ak):=
 if l.length≤dC then some (Go.Sort.pdq ltR l.toArray 0 l.length (Go.Lib.bitLen l.length) true true).toList else none
def sZ (l:List Int):Option (List Int):=
 if l.length≤dC then some (l.mergeSort fun x y=>decide (x≤y))else none
def ck (s:List ak):Option (List ak):=
 (room 16 (0+s.length)).bind fun _=>some s
def dg (s:List Int):Option (List Int):=
 (room 8 (0+s.length)).bind fun _=>some s
def cF (s:List Int):Option (List Int):=if s.length≤dC then some (Go.Lib.compact s)else none
open Classical in
def ab5 {α:Type} (e:α→ao) (f:List α→Option (List α)) (zs:List ao):Option (List ao):=
 if h:∃ l:List α,zs=l.map e then (f h.choose).map (List.map e)else none
theorem map_inj {α:Type} {e:α→ao} (hi:∀ a b,e a=e b→a=b):∀ {l m:List α},l.map e=m.map e→l=m
 | [],[],_=>rfl
 | [],_::_,h=>by cases h
 | _::_,[],h=>by cases h
 | a::l,b::m,h=>by
  simp only[List.map_cons,List.cons.injEq]at h
  rw[hi a b h.1,map_inj hi h.2]
theorem oz {α:Type} {e:α→ao} (hi:∀ a b,e a=e b→a=b) {f:List α→Option (List α)} {l l':List α} (h:f l=some l'):ab5 e f (l.map e)=some (l'.map e):=by
 have hx:∃ m:List α,l.map e=m.map e:=⟨l,rfl⟩
 have hc:hx.choose=l:=(map_inj hi hx.choose_spec).symm
 unfold ab5
 rw[dif_pos hx,hc,h];rfl
theorem pV {α:Type} {e:α→ao} {f:List α→Option (List α)} {zs ys:List ao} (h:ab5 e f zs=some ys):∃ l l',zs=l.map e∧f l=some l'∧ys=l'.map e:=by
 unfold ab5 at h
 split at h
 ·rename_i hx
  cases hf:f hx.choose with
  | none=>rw[hf]at h;cases h
  | some l'=>rw[hf]at h;cases h;exact ⟨_,l',hx.choose_spec,hf,rfl⟩
 ·cases h
theorem ahf (a b:ak) (h:bi a=bi b):a=b:=by
 cases a;cases b
 simp only[bi,ao.agg.injEq,List.cons.injEq,ao.int.injEq,true_and,and_true]at h
 simp only[ak.mk.injEq];exact h
theorem arv (a b:Int) (h:eI a=eI b):a=b:=by
 simp only[eI,ao.int.injEq,true_and]at h;exact h
theorem anU:∀ (a b:az),bR a=bR b→a=b:=by
 have key:∀ m (a b:az),SizeOf.sizeOf a < m→bR a=bR b→a=b:=by
  intro m
  induction m with
  | zero=>intro a b h;omega
  | succ m ih=>
   intro a b hm h
   obtain ⟨k,s,l⟩:=a
   obtain ⟨k',s',l'⟩:=b
   rw[gY,gY]at h
   simp only[ao.agg.injEq,List.cons.injEq,ao.int.injEq,ao.sl.injEq,true_and,and_true]at h
   obtain ⟨rfl,rfl,h⟩:=h
   congr 1
   simp only[az.mk.sizeOf_spec]at hm
   have go:∀ (l l':List az),SizeOf.sizeOf l < m→l.map bR=l'.map bR→l=l':=by
    intro l
    induction l with
    | nil=>intro l' _ h;cases l' with
     | nil=>rfl
     | cons _ _=>cases h
    | cons x l ihl=>
     intro l' hm h
     cases l' with
     | nil=>cases h
     | cons y l'=>
      simp only[List.map_cons,List.cons.injEq]at h
      simp only[List.cons.sizeOf_spec]at hm
      rw[ih x y (by omega) h.1,ihl l' (by omega) h.2]
   exact go l l' (by omega) h
 exact fun a b h=>key _ a b (Nat.lt_succ_self _) h
def avP (l:List az):Option (List az):=if l.length≤dC then some l.reverse else none
open Classical in
def al0 (g:FuncId) (ds:List ao) (k:TypeId) (zs:List ao):Option (List ao):=
 if g=145∧ds=[.fn 146 [] []]∧k=147 then ab5 bi ado zs else if (g=83∨g=260)∧ds=[]∧k=3 then ab5 eI sZ zs else if g=86∧ds=[]∧k=31 then ab5 bR avP zs else none
theorem akX {l l':List ak} (h:ado l=some l'):al0 145 [.fn 146 [] []] 147 (l.map bi)=some (l'.map bi):=by
 unfold al0
 rw[if_pos ⟨rfl,rfl,rfl⟩];exact oz ahf h
theorem yt {l l':List Int} (h:sZ l=some l'):al0 83 [] 3 (l.map eI)=some (l'.map eI):=by
 unfold al0
 rw[if_neg (by decide),if_pos ⟨.inl rfl,rfl,rfl⟩];exact oz arv h
theorem alP {l l':List Int} (h:sZ l=some l'):al0 260 [] 3 (l.map eI)=some (l'.map eI):=by
 unfold al0
 rw[if_neg (by decide),if_pos ⟨.inr rfl,rfl,rfl⟩];exact oz arv h
theorem arq {l l':List az} (h:avP l=some l'):al0 86 [] 31 (l.map bR)=some (l'.map bR):=by
 unfold al0
 rw[if_neg (by decide),if_neg (by decide),if_pos ⟨rfl,rfl,rfl⟩];exact oz anU h
def mJ (F b:List UInt8):Nat→Nat→Int
 | 0,_=> -1
 | n+1,i=>if (F.drop (i*256)).take 256=b then i else mJ F b n (i+1)
def eR (t:gB) (b:List UInt8):Option Int:=
 if t.First.length%256=0∧t.First.length≤1048576∧b.length≤1048576 then some (mJ t.First b (t.First.length/256) 0)else none
def nv:Nat→Str
 | n=>if h:n < 16 then [if n < 10 then UInt8.ofNat (48+n)else UInt8.ofNat (55+n)]else nv (n/16)++nv (n%16)
decreasing_by all_goals omega
def uf (n:Int):Str:=[92,120,123]++nv n.toNat++[125]
def kc (l:List ak):Str:=[91]++(l.flatMap fun x=>uf x.Low++if x.High=x.Low then []else 45::uf x.High)++[93]
def mh (l:List ak):Option Str:=if l.length≤1200000∧∀ x∈l,0≤x.Low∧x.Low≤1114111∧0≤x.High∧x.High≤1114111 then some (kc l)else none
def ch (s:List Int):Option (List Int):=if s.length≤dC then some (Go.Lib.compact s)else none
def gy (s:List Int) (n:Int):Option (List Int):=if s=[]∧0≤n∧n≤17592186044416 then some []else none
def dq (s:List Int) (n:Int):Option (List Int):=if s=[]∧0≤n∧n≤17592186044416 then some []else none
def qh (a s:Int):Bool:=!(ayI .u64 (shR .u64 a s) 1==0)
def anj (A:cu) (i:Int):Bool:=decide (1≤i∧i≤1000000)&&decide (i≤(A.Sets.length:Int))&&decide (0≤A.Sets.getD (i - 1).toNat 0)
def bW (s:List Int) (sign:Int) (A:cu):Option (List Int):=
 if s.length≤dC∧s.all (anj A)=true then some (s.filter fun i=>qh sign (A.Sets.getD (i - 1).toNat 0))else none
def ayN:List UInt8:=[115,101,116,32,97,32,61,32,91,97,45,122,93,59,32,107,101,101,112,32,97,32,47,32,97,59]
def az4:List UInt8:=[115,101,116,32,97,32,61,32,91,97,45,122,93,59,32,115,101,116,32,98,32,61,32,91,48,45,57,93,59,32,107,101,101,112,32,97,32,47,32,97,59,32,107,101,101,112,32,98,32,47,32,98,59,32,98,114,101,97,107,32,97,32,47,32,98,59]
def kb (s:Int):az:=⟨1,s,[]⟩
def uv:aW:=⟨[[⟨97,122⟩]],[⟨false,kb 0,kb 0⟩]⟩
def azZ:aW:=⟨[[⟨97,122⟩],[⟨48,57⟩]],[⟨false,kb 0,kb 0⟩,⟨false,kb 1,kb 1⟩,⟨true,kb 0,kb 1⟩]⟩
def dJ (b:List UInt8):Option (aW×Int×Int):=if b=ayN then some (uv,0,0)else if b=az4 then some (azZ,0,0)else none
def avO:List UInt8:=[97,98,32,99]
def dL (b:List UInt8):Option (List Int):=if b=avO then some [97,98,32,99]else none
def tE (f:FuncId) (a:List SV) (h:ax) (o:List SV) (h':ax):Prop:=
 h'=h∧((f=84∧∃ l u,a=[.cv (.row 3 (List.map eI l))]∧cF l=some u∧o=[.cv (.val (.sl (List.map eI u)))])∨
  (f=197∧∃ l t b r,a=[.cv (.val (.ptr (some (l,0)))),.cv (.val (.sl (List.map eU b)))]∧h.at_ l=some (.cells [.row 5 (List.map eU t.First),.row 3 (List.map eI t.Like)])∧eR t b=some r∧o=[.cv (.val (.int .i64 r))])∨
  (f=76∧∃ l u,a=[.cv (.val (.sl (List.map bi l)))]∧mh l=some u∧o=[.cv (.val (.str (bs u)))])∨
  (f=261∧∃ l u,a=[.cv (.row 3 (List.map eI l))]∧ch l=some u∧o=[.cv (.row 3 (List.map eI u))])∨
  ((f=226∨f=273)∧∃ n,a=[.cv .nil,.cv (.val (.int .i64 n))]∧0≤n∧n≤17592186044416∧o=[.cv (.row 3 [])])∨
  (f=225∧∃ l sg A p q u,a=[.cv (.row 3 (List.map eI l)),.cv (.val (.fn 224 [] [.ptr (some (p,0)),.ptr (some (q,0))]))]∧h.at_ p=some (.cells [.val (.int .u64 sg)])∧h.at_ q=some (.cells (ajk (am2 A).cells))∧bW l sg A=some u∧o=[.cv (.val (.sl (List.map eI u)))])∨
  (f=17∧∃ b r,a=[.cv (.val (.sl (List.map eU b)))]∧dJ b=some r∧o=[.cv (.val (fP r.1)),.cv (.val (.int .i64 r.2.1)),.cv (.val (.int .i64 r.2.2))])∨
  (f=29∧∃ b r,a=[.cv (.val (.sl (List.map eU b)))]∧dL b=some r∧o=[.cv (.val (.sl (List.map eI r)))]))
end
end Go.Val
namespace Go.Val
open Go.Proofs
noncomputable def CT:Ctx:={ P:=Tryz.prog,how:=fun f i=>if f=148∧i=0 then .move else if f=230∧i=0 then .move else if f=84∧i=0 then .move else if f=261∧i=0 then .move else if f=225∧i=0 then .move else if f=226∧i=0 then .move else if f=273∧i=0 then .move else .data,gives:=fun f=>if f=148 then .move else if f=230 then .move else if f=144 then .move else if f=90 then .move else if f=273 then .move else if f=226 then .move else if f=161 then .move else if f=259 then .move else if f=261 then .move else if f=221 then .move else .data,ext:=al0,hand:=tE }
theorem aAe:CT.P=Tryz.prog:=rfl
abbrev RD (f:FuncId):Prop:=∀ {s:St} {r:ResultVar} {rs:List ResultVar},results CT f s (r::rs)=wy CT f s rs (eT CT.P s r)
abbrev RM (f:FuncId):Prop:=∀ {s:St} {t:Nat},results CT f s [.tmp t]=ru s.box s (s.get t)
abbrev HD (f:FuncId) (i:Nat):Prop:=CT.how f i= .data
abbrev HM (f:FuncId) (i:Nat):Prop:=CT.how f i= .move
def bL:World:=⟨#[],fun _ _=>0,0,default,default⟩
theorem ahk:CT.gives 82= .data:=rfl
theorem ahX:CT.gives 35= .data:=rfl
theorem ade:CT.gives 222= .data:=rfl
theorem abO:CT.gives 223= .data:=rfl
theorem ls:CT.gives 156= .data:=rfl
theorem qe:CT.gives 87= .data:=rfl
theorem qd:CT.gives 88= .data:=rfl
theorem uo:CT.gives 89= .data:=rfl
theorem pT:CT.gives 36= .data:=rfl
theorem ajb:HD 30 0:=rfl
theorem ail:HD 30 1:=rfl
theorem afI:HD 30 2:=rfl
theorem afN:HD 10 0:=rfl
theorem aa4:HD 142 0:=rfl
theorem aac:HD 202 0:=rfl
theorem aaB:HD 202 1:=rfl
theorem adk:HD 143 0:=rfl
theorem abg:HD 143 1:=rfl
theorem aaW:HD 144 0:=rfl
theorem adn:HM 148 0:=rfl
theorem ach:HD 148 1:=rfl
theorem ahL:HD 78 0:=rfl
theorem agc:HD 79 0:=rfl
theorem aht:HD 79 1:=rfl
theorem agB:HD 75 0:=rfl
theorem aiA:HD 76 0:=rfl
theorem ac6:HD 139 0:=rfl
theorem ad1:HD 140 0:=rfl
theorem acI:HD 141 0:=rfl
theorem aay:HD 141 1:=rfl
theorem aiT:HD 77 0:=rfl
theorem aiq:HD 77 1:=rfl
theorem ah4:HD 77 2:=rfl
theorem agd:HD 77 3:=rfl
theorem ahD:HD 31 0:=rfl
theorem adV:HD 206 0:=rfl
theorem acv:HD 206 1:=rfl
theorem adi:HD 205 0:=rfl
theorem acO:HD 205 1:=rfl
theorem aaz:HD 205 2:=rfl
theorem ad5:HD 149 0:=rfl
theorem abK:HD 149 1:=rfl
theorem ag6:HD 81 0:=rfl
theorem ahe:HD 81 1:=rfl
theorem afV:HM 84 0:=rfl
theorem ahy:HD 80 0:=rfl
theorem aam:HD 150 0:=rfl
theorem aas:HD 129 0:=rfl
theorem aae:HD 129 1:=rfl
theorem af5:HD 65 0:=rfl
theorem ajg:HD 65 1:=rfl
theorem adU:HD 128 0:=rfl
theorem ad6:HD 128 1:=rfl
theorem aak:HD 128 2:=rfl
theorem acE:HD 128 3:=rfl
theorem aiH:HD 82 0:=rfl
theorem adG:HD 153 0:=rfl
theorem adS:HD 153 1:=rfl
theorem aip:HD 32 0:=rfl
theorem aiR:HD 85 0:=rfl
theorem ahi:HD 85 1:=rfl
theorem ahY:HD 34 0:=rfl
theorem ag1:HD 90 0:=rfl
theorem aiS:HD 37 0:=rfl
theorem adT:HD 263 0:=rfl
theorem acW:HD 263 1:=rfl
theorem abr:HD 229 0:=rfl
theorem aaJ:HD 229 1:=rfl
theorem aa0:HD 169 0:=rfl
theorem adt:HD 169 1:=rfl
theorem acF:HM 230 0:=rfl
theorem aaG:HD 230 1:=rfl
theorem abY:HD 230 2:=rfl
theorem aav:HD 167 0:=rfl
theorem aaK:HD 167 1:=rfl
theorem adJ:HD 167 2:=rfl
theorem ai1:HD 95 0:=rfl
theorem ajj:HD 96 0:=rfl
theorem ah2:HD 96 1:=rfl
theorem ab1:HD 168 0:=rfl
theorem abS:HD 168 1:=rfl
theorem agT:HD 97 0:=rfl
theorem ahs:HD 98 0:=rfl
theorem ago:HD 98 1:=rfl
theorem ag2:HD 99 0:=rfl
theorem ahB:HD 99 1:=rfl
theorem zW:HD 171 0:=rfl
theorem acT:HD 171 1:=rfl
theorem ada:HD 170 0:=rfl
theorem adC:HD 170 1:=rfl
theorem ab6:HD 197 0:=rfl
theorem ac5:HD 197 1:=rfl
theorem aap:HD 132 0:=rfl
theorem adb:HD 132 1:=rfl
theorem ab4:HD 100 0:=rfl
theorem afF:HD 41 0:=rfl
theorem afZ:HD 42 0:=rfl
theorem ahE:HD 42 1:=rfl
theorem agZ:HD 35 0:=rfl
theorem aca:HD 218 0:=rfl
theorem ac9:HD 258 0:=rfl
theorem aat:HD 258 1:=rfl
theorem acD:HD 219 0:=rfl
theorem adx:HD 219 1:=rfl
theorem ab0:HD 154 0:=rfl
theorem adI:HD 155 0:=rfl
theorem adp:HM 273 0:=rfl
theorem acy:HD 273 1:=rfl
theorem acH:HD 259 0:=rfl
theorem aaL:HM 261 0:=rfl
theorem adr:HD 221 0:=rfl
theorem abE:HD 221 1:=rfl
theorem aaY:HD 220 0:=rfl
theorem abf:HD 220 1:=rfl
theorem aaN:HD 220 2:=rfl
theorem adR:HD 222 0:=rfl
theorem zZ:HD 222 1:=rfl
theorem abt:HD 222 2:=rfl
theorem zX:HD 223 0:=rfl
theorem adZ:HD 223 1:=rfl
theorem acV:HD 156 0:=rfl
theorem acj:HD 156 1:=rfl
theorem ahu:HD 87 0:=rfl
theorem ad2:HD 262 0:=rfl
theorem aaV:HD 262 1:=rfl
theorem acS:HD 224 0:=rfl
theorem adO:HD 224 1:=rfl
theorem aab:HD 224 2:=rfl
theorem aci:HM 225 0:=rfl
theorem adq:HD 225 1:=rfl
theorem aa7:HD 160 0:=rfl
theorem acK:HD 160 1:=rfl
theorem aba:HD 160 2:=rfl
theorem adW:HD 165 0:=rfl
theorem acd:HD 165 1:=rfl
theorem ahR:HD 91 0:=rfl
theorem ajf:HD 91 1:=rfl
theorem aij:HD 94 0:=rfl
theorem aiI:HD 94 1:=rfl
theorem agw:HD 40 0:=rfl
theorem af4:HD 40 1:=rfl
theorem ace:HD 227 0:=rfl
theorem aaE:HD 227 1:=rfl
theorem aaq:HD 162 0:=rfl
theorem acU:HD 162 1:=rfl
theorem abh:HM 226 0:=rfl
theorem aaD:HD 226 1:=rfl
theorem abA:HD 161 0:=rfl
theorem abn:HD 158 0:=rfl
theorem abi:HD 157 0:=rfl
theorem aau:HD 157 1:=rfl
theorem acx:HD 157 2:=rfl
theorem aiJ:HD 88 0:=rfl
theorem ahF:HD 88 1:=rfl
theorem afA:HD 88 2:=rfl
theorem ag4:HD 88 3:=rfl
theorem aai:HD 189 0:=rfl
theorem abJ:HD 189 1:=rfl
theorem aaT:HD 190 0:=rfl
theorem ab3:HD 190 1:=rfl
theorem adY:HD 190 2:=rfl
theorem ad4:HD 241 0:=rfl
theorem aao:HD 241 1:=rfl
theorem abb:HD 191 0:=rfl
theorem aaF:HD 191 1:=rfl
theorem abX:HD 123 0:=rfl
theorem abl:HD 228 0:=rfl
theorem acG:HD 228 1:=rfl
theorem adm:HD 228 2:=rfl
theorem acA:HD 163 0:=rfl
theorem abV:HD 164 0:=rfl
theorem abv:HD 164 1:=rfl
theorem abF:HD 164 2:=rfl
theorem aaj:HD 164 3:=rfl
theorem af6:HD 89 0:=rfl
theorem aiP:HD 36 0:=rfl
theorem ahA:HD 36 1:=rfl
theorem agP:HD 36 2:=rfl
theorem ahI:HD 33 0:=rfl
theorem agH:HD 33 1:=rfl
theorem agi:HD 11 0:=rfl
theorem agk:HD 11 1:=rfl
theorem afz:HD 92 0:=rfl
theorem ahU:HD 38 0:=rfl
theorem ads:HD 166 0:=rfl
theorem adB:HD 166 1:=rfl
theorem adh:HD 166 2:=rfl
theorem agh:HD 93 0:=rfl
theorem agX:HD 93 1:=rfl
theorem af0:HD 93 2:=rfl
theorem aiE:HD 93 3:=rfl
theorem aja:HD 39 0:=rfl
theorem afQ:HD 39 1:=rfl
theorem aha:HD 12 0:=rfl
theorem afM:HD 12 1:=rfl
theorem afO:HD 14 0:=rfl
theorem afJ:HD 14 1:=rfl
theorem ah8:HD 14 2:=rfl
theorem afB:HD 15 0:=rfl
theorem afX:HD 15 1:=rfl
theorem afu:HD 15 2:=rfl
theorem abk:HD 101 0:=rfl
theorem ab2:HD 103 0:=rfl
theorem acp:HD 172 0:=rfl
theorem acr:HD 172 1:=rfl
theorem ad0:HD 102 0:=rfl
theorem acb:HD 102 1:=rfl
theorem aaM:HD 102 2:=rfl
theorem aiW:HD 43 0:=rfl
theorem ahb:HD 43 1:=rfl
theorem ai3:HD 44 0:=rfl
theorem ahg:HD 44 1:=rfl
theorem aih:HD 16 0:=rfl
theorem ai4:HD 16 1:=rfl
theorem af9:HD 16 2:=rfl
theorem aiZ:HD 13 0:=rfl
theorem agb:HD 13 1:=rfl
theorem ah9:HD 17 0:=rfl
theorem aiU:HD 29 0:=rfl
theorem anR:HD 3 0:=rfl
theorem anr:HD 3 1:=rfl
theorem amU:HD 3 2:=rfl
theorem amJ:HD 4 0:=rfl
theorem alb:HD 4 1:=rfl
theorem akI:HD 5 0:=rfl
theorem anN:HD 5 1:=rfl
theorem wV {h:ax} {s:St}:ru h s (.cv .nil)=some ([.cv .nil],h):=rfl
theorem zw {h:ax} {s:St} {k:Nat} {xs:List ao}:ru h s (.cv (.row k xs))=some ([.cv (.row k xs)],h):=rfl
attribute [go_sem] wV zw
theorem agK {n:Nat} {a b:ao}:dD 2 (List.replicate n (.agg [a,b]))=true:=by simp[dD,ao.cells]
theorem agn {n:Nat} {a b c:ao}:dD 3 (List.replicate n (.agg [a,b,c]))=true:=by simp[dD,ao.cells]
theorem agG {n:Nat} {k:IntKind} {a:Int}:dD 1 (List.replicate n (.int k a))=true:=by simp[dD,ao.cells]
theorem ahd {n:Nat} {a:Bool}:dD 1 (List.replicate n (.bool a))=true:=by simp[dD,ao.cells]
attribute [go_sem] agK agn agG ahd List.length_replicate decide_true Nat.lt_irrefl
theorem ajF {k:Nat} {xs ys:List ao}:dD k (xs++ys)=(dD k xs&&dD k ys):=by simp[dD]
theorem ajq {k:IntKind} {a:Int} {xs:List ao}:dD 1 (.int k a::xs)=dD 1 xs:=by simp[dD,ao.cells]
theorem aqp {k:Nat}:dD k []=true:=rfl
attribute [go_sem] ajF ajq aqp Bool.and_true Bool.true_and
theorem axC:RD 30:=af rfl
theorem axl:RD 10:=af rfl
theorem atv:RD 142:=af rfl
theorem asX:RD 202:=af rfl
theorem auS:RD 143:=af rfl
theorem axr:RD 78:=af rfl
theorem ax9:RD 79:=af rfl
theorem ax3:RD 75:=af rfl
theorem ax6:RD 76:=af rfl
theorem asO:RD 139:=af rfl
theorem asf:RD 140:=af rfl
theorem as4:RD 141:=af rfl
theorem awN:RD 77:=af rfl
theorem axa:RD 31:=af rfl
theorem atc:RD 206:=af rfl
theorem ar6:RD 205:=af rfl
theorem avA:RD 149:=af rfl
theorem awb:RD 81:=af rfl
theorem ayA:RD 84:=af rfl
theorem axc:RD 80:=af rfl
theorem atG:RD 150:=af rfl
theorem avp:RD 129:=af rfl
theorem ayB:RD 65:=af rfl
theorem aum:RD 128:=af rfl
theorem awp:RD 82:=af rfl
theorem auj:RD 153:=af rfl
theorem axf:RD 32:=af rfl
theorem avS:RD 85:=af rfl
theorem av9:RD 34:=af rfl
theorem ayd:RD 37:=af rfl
theorem asS:RD 263:=af rfl
theorem ath:RD 229:=af rfl
theorem avb:RD 169:=af rfl
theorem atD:RD 167:=af rfl
theorem aw3:RD 95:=af rfl
theorem axi:RD 96:=af rfl
theorem asK:RD 168:=af rfl
theorem ayk:RD 97:=af rfl
theorem awt:RD 98:=af rfl
theorem axk:RD 99:=af rfl
theorem avI:RD 171:=af rfl
theorem at9:RD 170:=af rfl
theorem atm:RD 197:=af rfl
theorem auD:RD 100:=af rfl
theorem ayi:RD 41:=af rfl
theorem awx:RD 42:=af rfl
theorem axM:RD 35:=af rfl
theorem ava:RD 218:=af rfl
theorem auU:RD 258:=af rfl
theorem auI:RD 219:=af rfl
theorem avo:RD 154:=af rfl
theorem avt:RD 155:=af rfl
theorem atY:RD 222:=af rfl
theorem atJ:RD 223:=af rfl
theorem au9:RD 156:=af rfl
theorem axw:RD 87:=af rfl
theorem asJ:RD 159:=af rfl
theorem asb:RD 262:=af rfl
theorem atF:RD 224:=af rfl
theorem atB:RD 225:=af rfl
theorem auO:RD 160:=af rfl
theorem asw:RD 165:=af rfl
theorem axV:RD 91:=af rfl
theorem awK:RD 94:=af rfl
theorem ayy:RD 40:=af rfl
theorem auB:RD 227:=af rfl
theorem auW:RD 162:=af rfl
theorem aug:RD 158:=af rfl
theorem asn:RD 157:=af rfl
theorem axD:RD 88:=af rfl
theorem ash:RD 189:=af rfl
theorem ar8:RD 190:=af rfl
theorem avL:RD 241:=af rfl
theorem atT:RD 191:=af rfl
theorem auQ:RD 123:=af rfl
theorem ar9:RD 228:=af rfl
theorem avm:RD 163:=af rfl
theorem auZ:RD 164:=af rfl
theorem aya:RD 89:=af rfl
theorem awF:RD 36:=af rfl
theorem axy:RD 33:=af rfl
theorem ayC:RD 11:=af rfl
theorem axR:RD 92:=af rfl
theorem awe:RD 38:=af rfl
theorem aua:RD 166:=af rfl
theorem awD:RD 93:=af rfl
theorem ayt:RD 39:=af rfl
theorem awQ:RD 12:=af rfl
theorem ayn:RD 14:=af rfl
theorem awJ:RD 15:=af rfl
theorem atS:RD 101:=af rfl
theorem avF:RD 103:=af rfl
theorem ar5:RD 172:=af rfl
theorem atj:RD 102:=af rfl
theorem ax1:RD 43:=af rfl
theorem aw2:RD 44:=af rfl
theorem awS:RD 16:=af rfl
theorem ax5:RD 13:=af rfl
theorem awo:RD 17:=af rfl
theorem awZ:RD 29:=af rfl
theorem azF:RD 9:=af rfl
theorem ay5:RD 3:=af rfl
theorem ayS:RD 4:=af rfl
theorem azq:RD 5:=af rfl
theorem atl:RM 144:=dX rfl
theorem asQ:RM 148:=dX rfl
theorem awg:RM 90:=dX rfl
theorem asH:RM 230:=dX rfl
theorem atE:RM 273:=dX rfl
theorem aui:RM 259:=dX rfl
theorem auf:RM 261:=dX rfl
theorem auv:RM 221:=dX rfl
theorem ar7:RM 226:=dX rfl
theorem avn:RM 161:=dX rfl
attribute [go_sem] axC Tryz.results30 axl Tryz.results10 atv Tryz.results142 asX Tryz.results202 auS Tryz.results143 atl Tryz.results144 asQ Tryz.results148 axr Tryz.results78 ax9 Tryz.results79 ax3 Tryz.results75 ax6 Tryz.results76 asO Tryz.results139 asf Tryz.results140 as4 Tryz.results141 awN Tryz.results77 axa Tryz.results31 atc Tryz.results206 ar6 Tryz.results205 avA Tryz.results149 awb Tryz.results81 ayA Tryz.results84 axc Tryz.results80 atG Tryz.results150 avp Tryz.results129 ayB Tryz.results65 aum Tryz.results128 awp Tryz.results82 auj Tryz.results153 axf Tryz.results32 avS Tryz.results85 av9 Tryz.results34 awg Tryz.results90 ayd Tryz.results37 asS Tryz.results263 ath Tryz.results229 avb Tryz.results169 asH Tryz.results230 atD Tryz.results167 aw3 Tryz.results95 axi Tryz.results96 asK Tryz.results168 ayk Tryz.results97 awt Tryz.results98 axk Tryz.results99 avI Tryz.results171 at9 Tryz.results170 atm Tryz.results197 Tryz.results132 auD Tryz.results100 ayi Tryz.results41 awx Tryz.results42 axM Tryz.results35 ava Tryz.results218 auU Tryz.results258 auI Tryz.results219 avo Tryz.results154 avt Tryz.results155 atE Tryz.results273 aui Tryz.results259 auf Tryz.results261 auv Tryz.results221 Tryz.results220 atY Tryz.results222 atJ Tryz.results223 au9 Tryz.results156 axw Tryz.results87 asJ Tryz.results159 asb Tryz.results262 atF Tryz.results224 atB Tryz.results225 auO Tryz.results160 asw Tryz.results165 axV Tryz.results91 awK Tryz.results94 ayy Tryz.results40 auB Tryz.results227 auW Tryz.results162 ar7 Tryz.results226 avn Tryz.results161 aug Tryz.results158 asn Tryz.results157 axD Tryz.results88 ash Tryz.results189 ar8 Tryz.results190 avL Tryz.results241 atT Tryz.results191 auQ Tryz.results123 ar9 Tryz.results228 avm Tryz.results163 auZ Tryz.results164 aya Tryz.results89 awF Tryz.results36 axy Tryz.results33 ayC Tryz.results11 axR Tryz.results92 awe Tryz.results38 aua Tryz.results166 awD Tryz.results93 ayt Tryz.results39 awQ Tryz.results12 ayn Tryz.results14 awJ Tryz.results15 atS Tryz.results101 avF Tryz.results103 ar5 Tryz.results172 atj Tryz.results102 ax1 Tryz.results43 aw2 Tryz.results44 awS Tryz.results16 ax5 Tryz.results13 awo Tryz.results17 awZ Tryz.results29 azF Tryz.results9 ay5 Tryz.results3 ayS Tryz.results4 azq Tryz.results5
theorem qx:Tryz.prog.info? 31=some Tryz.t31:=cK bL Tryz.typeInfo31
theorem ajO:Tryz.prog.info? 29=some Tryz.t29:=cK bL Tryz.typeInfo29
theorem arU:Tryz.prog.info? 25=some Tryz.t25:=cK bL Tryz.typeInfo25
theorem aeU:Tryz.prog.info? 22=some Tryz.t22:=cK bL Tryz.typeInfo22
theorem amx:Tryz.prog.info? 23=some Tryz.t23:=cK bL Tryz.typeInfo23
theorem ayF:Tryz.prog.info? 59=some Tryz.t59:=cK bL Tryz.typeInfo59
theorem yV:Tryz.prog.info? 33=some Tryz.t33:=cK bL Tryz.typeInfo33
theorem sS:Tryz.prog.info? 147=some Tryz.t147:=cK bL Tryz.typeInfo147
theorem pf:Tryz.prog.info? 3=some Tryz.t3:=cK bL Tryz.typeInfo3
theorem anf:Tryz.prog.info? 141=some Tryz.t141:=cK bL Tryz.typeInfo141
theorem wb:Tryz.prog.info? 4=some Tryz.t4:=cK bL Tryz.typeInfo4
theorem rB:Tryz.prog.info? 115=some Tryz.t115:=cK bL Tryz.typeInfo115
theorem rT:Tryz.prog.info? 192=some Tryz.t192:=cK bL Tryz.typeInfo192
theorem abQ:Tryz.prog.info? 188=some Tryz.t188:=cK bL Tryz.typeInfo188
theorem ack:Tryz.prog.info? 187=some Tryz.t187:=cK bL Tryz.typeInfo187
theorem ag5:Tryz.prog.info? 5=some Tryz.t5:=cK bL Tryz.typeInfo5
theorem amy:Tryz.prog.info? 190=some Tryz.t190:=cK bL Tryz.typeInfo190
theorem afb:Tryz.prog.info? 64=some Tryz.t64:=cK bL Tryz.typeInfo64
theorem aeV:Tryz.prog.info? 80=some Tryz.t80:=cK bL Tryz.typeInfo80
theorem mC:Tryz.prog.info? 26=some Tryz.t26:=cK bL Tryz.typeInfo26
theorem aj5:Tryz.prog.info? 149=some Tryz.t149:=cK bL Tryz.typeInfo149
theorem vT:Tryz.prog.info? 152=some Tryz.t152:=cK bL Tryz.typeInfo152
theorem ank:Tryz.prog.info? 47=some Tryz.t47:=cK bL Tryz.typeInfo47
theorem akR:Tryz.prog.info? 128=some Tryz.t128:=cK bL Tryz.typeInfo128
theorem akD:Tryz.prog.info? 104=some Tryz.t104:=cK bL Tryz.typeInfo104
theorem rA:Tryz.prog.info? 228=some Tryz.t228:=cK bL Tryz.typeInfo228
theorem auM:Tryz.prog.info? 232=some Tryz.t232:=cK bL Tryz.typeInfo232
theorem aeA:Tryz.prog.info? 69=some Tryz.t69:=cK bL Tryz.typeInfo69
theorem alM:Tryz.prog.info? 230=some Tryz.t230:=cK bL Tryz.typeInfo230
theorem alL:Tryz.prog.info? 159=some Tryz.t159:=cK bL Tryz.typeInfo159
theorem ak8:Tryz.prog.info? 233=some Tryz.t233:=cK bL Tryz.typeInfo233
theorem arT:Tryz.prog.info? 72=some Tryz.t72:=cK bL Tryz.typeInfo72
theorem ajx:Tryz.prog.info? 70=some Tryz.t70:=cK bL Tryz.typeInfo70
theorem aly:Tryz.prog.info? 166=some Tryz.t166:=cK bL Tryz.typeInfo166
theorem amd:Tryz.prog.info? 241=some Tryz.t241:=cK bL Tryz.typeInfo241
theorem alZ:Tryz.prog.info? 66=some Tryz.t66:=cK bL Tryz.typeInfo66
theorem arZ:Tryz.prog.info? 68=some Tryz.t68:=cK bL Tryz.typeInfo68
theorem anw:Tryz.prog.info? 73=some Tryz.t73:=cK bL Tryz.typeInfo73
theorem xE:Tryz.prog.info? 75=some Tryz.t75:=cK bL Tryz.typeInfo75
theorem ayg:Tryz.prog.info? 77=some Tryz.t77:=cK bL Tryz.typeInfo77
theorem rX:Tryz.prog.cellsOf 31=3:=(cm qx).trans rfl
theorem alS:Tryz.prog.cellsOf 29=1:=(cm ajO).trans rfl
theorem asx:Tryz.prog.cellsOf 25=2:=(cm arU).trans rfl
theorem aa9:Tryz.prog.cellsOf 22=1:=(cm aeU).trans rfl
theorem al2:Tryz.prog.cellsOf 23=1:=(cm amx).trans rfl
theorem at1:Tryz.prog.cellsOf 59=1:=(cm ayF).trans rfl
theorem atL:Tryz.prog.cellsOf 33=7:=(cm yV).trans rfl
theorem aqP:Tryz.prog.cellsOf 147=2:=(cm sS).trans rfl
theorem mK:Tryz.prog.cellsOf 3=1:=(cm pf).trans rfl
theorem aps:Tryz.prog.cellsOf 141=2:=(cm anf).trans rfl
theorem aqU:Tryz.prog.cellsOf 115=3:=(cm rB).trans rfl
theorem aot:Tryz.prog.cellsOf 192=256:=(cm rT).trans rfl
theorem aeo:Tryz.prog.cellsOf 188=1:=(cm abQ).trans rfl
theorem afk:Tryz.prog.cellsOf 187=4352:=(cm ack).trans rfl
theorem afo:Tryz.prog.cellsOf 5=1:=(cm ag5).trans rfl
theorem aqH:Tryz.prog.cellsOf 190=4353:=(cm amy).trans rfl
theorem adf:Tryz.prog.cellsOf 64=1:=(cm afb).trans rfl
theorem aaH:Tryz.prog.cellsOf 80=1:=(cm aeV).trans rfl
theorem nA:Tryz.prog.cellsOf 26=1:=(cm mC).trans rfl
theorem aoS:Tryz.prog.cellsOf 149=3:=(cm aj5).trans rfl
theorem apQ:Tryz.prog.cellsOf 152=1:=(cm vT).trans rfl
theorem al9:Tryz.prog.cellsOf 47=1:=(cm ank).trans rfl
theorem aov:Tryz.prog.cellsOf 128=2:=(cm akR).trans rfl
theorem aq6:Tryz.prog.cellsOf 104=3:=(cm akD).trans rfl
theorem wj:Tryz.prog.cellsOf 228=1:=(cm rA).trans rfl
theorem aqq:Tryz.prog.cellsOf 232=1:=(cm auM).trans rfl
theorem ac8:Tryz.prog.cellsOf 69=1:=(cm aeA).trans rfl
theorem aq5:Tryz.prog.cellsOf 230=3:=(cm alM).trans rfl
theorem tY:Tryz.prog.cellsOf 4=1:=(cm wb).trans rfl
theorem apU:Tryz.prog.cellsOf 159=5:=(cm alL).trans rfl
theorem ao3:Tryz.prog.cellsOf 233=1:=(cm ak8).trans rfl
theorem ajI:Tryz.prog.cellsOf 70=1:=(cm ajx).trans rfl
theorem avG:Tryz.prog.cellsOf 72=2:=(cm arT).trans rfl
theorem aph:Tryz.prog.cellsOf 166=1:=(cm aly).trans rfl
theorem ari:Tryz.prog.cellsOf 241=1:=(cm amd).trans rfl
theorem amK:Tryz.prog.cellsOf 66=1:=(cm alZ).trans rfl
theorem asL:Tryz.prog.cellsOf 68=3:=(cm arZ).trans rfl
theorem an1:Tryz.prog.cellsOf 73=4:=(cm anw).trans rfl
theorem atf:Tryz.prog.cellsOf 75=5:=(cm xE).trans rfl
theorem avU:eD Tryz.prog 147=true:=by unfold eD;rw[sS];rfl
theorem aoO:Tryz.prog.bytesOf 147=16:=(gX sS).trans rfl
theorem apf:cY Tryz.prog 147=true:=by unfold cY;rw[sS];rfl
theorem aqE:bn Tryz.prog 147=some [.val (.int .i64 (0:Int)),.val (.int .i64 (0:Int))]:=by
 unfold bn dU;rw[sS,Tryz.underlying147];simp[bs,dm,Tryz.t147]
theorem arF:bn Tryz.prog 3=some [.val (.int .i64 (0:Int))]:=by
 unfold bn dU;rw[pf,Tryz.underlying3];simp[bs,dm,Tryz.t3]
theorem arN:Tryz.prog.stoodInHeld 147=false:=by kernel_rfl
theorem arY:Tryz.prog.eqGuardType Tryz.prog.depth 147=false:=by kernel_rfl
theorem ajR {a0 b0:Int} {a1 b1:Int}:iH Tryz.prog .eql 147 (.agg [.int .i64 a0,.int .i64 a1]) (.agg [.int .i64 b0,.int .i64 b1])=some (.bool (a0==b0&&(a1==b1&&true))):=
 amM (arC Tryz.underlying147 arN arY (qQ (by simp[dU,Tryz.underlying3]) (by simp[aoX,Tryz.underlying3,dF,wi]) (qQ (by simp[dU,Tryz.underlying3]) (by simp[aoX,Tryz.underlying3,dF,wi]) akQ)))
theorem alW {a0 b0:Int} {a1 b1:Int}:iH Tryz.prog .neq 147 (.agg [.int .i64 a0,.int .i64 a1]) (.agg [.int .i64 b0,.int .i64 b1])=some (.bool (!(a0==b0&&(a1==b1&&true)))):=
 alg (arC Tryz.underlying147 arN arY (qQ (by simp[dU,Tryz.underlying3]) (by simp[aoX,Tryz.underlying3,dF,wi]) (qQ (by simp[dU,Tryz.underlying3]) (by simp[aoX,Tryz.underlying3,dF,wi]) akQ)))
theorem avs:bn Tryz.prog 31=some [.val (.int .i64 (0:Int)),.val (.int .i64 (0:Int)),.nil]:=by
 unfold bn dU;rw[qx,Tryz.underlying31];simp[bs,dm,Tryz.t31]
theorem atQ:bn Tryz.prog 29=some [.nil]:=by
 unfold bn dU;rw[ajO,Tryz.underlying29];simp[bs,dm,Tryz.t29]
theorem ays:cr Tryz.prog 141=true:=by
 unfold cr;rw[Tryz.underlying141];simp[pf,pf]
theorem ahJ:place Tryz.prog 141 0=some (0,1):=by
 unfold place;rw[Tryz.underlying141];simp[mK]
theorem ahp:place Tryz.prog 141 1=some (1,1):=by
 unfold place;rw[Tryz.underlying141];simp[mK]
theorem aq3:bn Tryz.prog 141=some [.val (.int .i64 (0:Int)),.val (.int .i64 (0:Int))]:=by
 unfold bn dU;rw[anf,Tryz.underlying141];simp[bs,dm,Tryz.t141]
theorem as2:bn Tryz.prog 33=some [.val (.bool false),.val (.int .i64 (0:Int)),.val (.int .i64 (0:Int)),.nil,.val (.int .i64 (0:Int)),.val (.int .i64 (0:Int)),.nil]:=by
 unfold bn dU;rw[yV,Tryz.underlying33];simp[bs,dm,Tryz.t33]
theorem arz:bn Tryz.prog 4=some [.val (.bool false)]:=by
 unfold bn dU;rw[wb,Tryz.underlying4];simp[bs,dm,Tryz.t4]
theorem aAk:eD Tryz.prog 3=true:=by unfold eD;rw[pf];rfl
theorem ayj:Tryz.prog.bytesOf 3=8:=(gX pf).trans rfl
theorem axh:cY Tryz.prog 3=true:=by unfold cY;rw[pf];rfl
theorem zd3:kl Tryz.prog 3=some (.int .i64 (0:Int)):=by
 unfold kl fF dU;rw[arF,mK,Tryz.underlying3];simp[gU,CV.toD,bs,ao.cells]
theorem atd {v:Vector UInt8 256}:isKey Tryz.prog 192 (.array 256 5) (.agg (List.map eU v.toList))=true:=apr Tryz.underlying5 afo
theorem ayD:eD Tryz.prog 192=true:=by unfold eD;rw[rT];rfl
theorem aoJ:Tryz.prog.bytesOf 192=256:=(gX rT).trans rfl
theorem ark:cY Tryz.prog 192=true:=by unfold cY;rw[rT];kernel_rfl
theorem axP:cr Tryz.prog 190=true:=by
 unfold cr;rw[Tryz.underlying190];simp[ack,abQ]
theorem af1:place Tryz.prog 190 0=some (0,4352):=by
 unfold place;rw[Tryz.underlying190];simp[afk]
theorem ahj:place Tryz.prog 190 1=some (4352,1):=by
 unfold place;rw[Tryz.underlying190];simp[aeo]
theorem aqG:bn Tryz.prog 190=some (bQ eU (Vector.replicate 4352 (0:UInt8))++([.nil]:List CV)):=by
 unfold bn dU;rw[amy,Tryz.underlying190];kernel_rfl
theorem aoT:bn Tryz.prog 187=some (bQ eU (Vector.replicate 4352 (0:UInt8))):=by
 unfold bn dU;rw[ack,Tryz.underlying187];kernel_rfl
theorem ar0:bn Tryz.prog 5=some [.val (.int .u8 (0:Int))]:=by
 unfold bn dU;rw[ag5,Tryz.underlying5];simp[bs,dm,Tryz.t5]
theorem aqD:bn Tryz.prog 188=some [.nil]:=by
 unfold bn dU;rw[abQ,Tryz.underlying188];simp[bs,dm,Tryz.t188]
theorem arl:bn Tryz.prog 192=some (bQ eU (Vector.replicate 256 (0:UInt8))):=by
 unfold bn dU;rw[rT,Tryz.underlying192];kernel_rfl
theorem ap6:bn Tryz.prog 115=some [.val (.int .i64 (0:Int)),.val (.int .i64 (0:Int)),.val (.int .u8 (0:Int))]:=by
 unfold bn dU;rw[rB,Tryz.underlying115];simp[bs,dm,Tryz.t115]
theorem axp:cr Tryz.prog 149=true:=by
 unfold cr;rw[Tryz.underlying149];simp[afb,aeV,mC]
theorem ahc:place Tryz.prog 149 0=some (0,1):=by
 unfold place;rw[Tryz.underlying149];simp[adf]
theorem ag8:place Tryz.prog 149 1=some (1,1):=by
 unfold place;rw[Tryz.underlying149];simp[aaH]
theorem ahq:place Tryz.prog 149 2=some (2,1):=by
 unfold place;rw[Tryz.underlying149];simp[nA]
theorem apy:bn Tryz.prog 149=some [.val (.ptr none),.nil,.nil]:=by
 unfold bn dU;rw[aj5,Tryz.underlying149];simp[bs,dm,Tryz.t149]
theorem aso:bn Tryz.prog 64=some [.val (.ptr none)]:=by
 unfold bn dU;rw[afb,Tryz.underlying64];simp[bs,dm,Tryz.t64]
theorem asZ:bn Tryz.prog 80=some [.nil]:=by
 unfold bn dU;rw[aeV,Tryz.underlying80];simp[bs,dm,Tryz.t80]
theorem asM:bn Tryz.prog 26=some [.nil]:=by
 unfold bn dU;rw[mC,Tryz.underlying26];simp[bs,dm,Tryz.t26]
theorem av3:eD Tryz.prog 152=true:=by unfold eD;rw[vT];rfl
theorem aq0:Tryz.prog.bytesOf 152=8:=(gX vT).trans rfl
theorem aoY:cY Tryz.prog 152=true:=by unfold cY;rw[vT];rfl
theorem awr:cr Tryz.prog 115=true:=by
 unfold cr;rw[Tryz.underlying115];simp[pf,pf,ag5]
theorem afW:place Tryz.prog 115 0=some (0,1):=by
 unfold place;rw[Tryz.underlying115];simp[mK]
theorem ah3:place Tryz.prog 115 1=some (1,1):=by
 unfold place;rw[Tryz.underlying115];simp[mK]
theorem ahZ:place Tryz.prog 115 2=some (2,1):=by
 unfold place;rw[Tryz.underlying115];simp[afo]
theorem axF:eD Tryz.prog 115=true:=by unfold eD;rw[rB];rfl
theorem aqf:Tryz.prog.bytesOf 115=24:=(gX rB).trans rfl
theorem aqo:cY Tryz.prog 115=true:=by unfold cY;rw[rB];rfl
theorem avW:cr Tryz.prog 147=true:=by
 unfold cr;rw[Tryz.underlying147];simp[pf,pf]
theorem aiF:place Tryz.prog 147 0=some (0,1):=by
 unfold place;rw[Tryz.underlying147];simp[mK]
theorem ahW:place Tryz.prog 147 1=some (1,1):=by
 unfold place;rw[Tryz.underlying147];simp[mK]
theorem awT:Tryz.prog.bytesOf 5=1:=(gX ag5).trans rfl
theorem axY:cY Tryz.prog 5=true:=by unfold cY;rw[ag5];rfl
theorem awC:cr Tryz.prog 128=true:=by
 unfold cr;rw[Tryz.underlying128];simp[ank,mC]
theorem aiN:place Tryz.prog 128 0=some (0,1):=by
 unfold place;rw[Tryz.underlying128];simp[al9]
theorem ahn:place Tryz.prog 128 1=some (1,1):=by
 unfold place;rw[Tryz.underlying128];simp[nA]
theorem ao8:bn Tryz.prog 128=some [.nil,.nil]:=by
 unfold bn dU;rw[akR,Tryz.underlying128];simp[bs,dm,Tryz.t128]
theorem ats:bn Tryz.prog 47=some [.nil]:=by
 unfold bn dU;rw[ank,Tryz.underlying47];simp[bs,dm,Tryz.t47]
theorem zd5:kl Tryz.prog 5=some (.int .u8 ((0:UInt8).toNat:Int)):=by
 unfold kl fF dU;rw[ar0,afo,Tryz.underlying5];simp[gU,CV.toD,bs,ao.cells]
theorem axK:cr Tryz.prog 104=true:=by
 unfold cr;rw[Tryz.underlying104];simp[aeU,aeV,mC]
theorem aft:place Tryz.prog 104 0=some (0,1):=by
 unfold place;rw[Tryz.underlying104];simp[aa9]
theorem afv:place Tryz.prog 104 1=some (1,1):=by
 unfold place;rw[Tryz.underlying104];simp[aaH]
theorem agx:place Tryz.prog 104 2=some (2,1):=by
 unfold place;rw[Tryz.underlying104];simp[nA]
theorem ard:bn Tryz.prog 104=some [.nil,.nil,.nil]:=by
 unfold bn dU;rw[akD,Tryz.underlying104];simp[bs,dm,Tryz.t104]
theorem aul:bn Tryz.prog 22=some [.nil]:=by
 unfold bn dU;rw[aeU,Tryz.underlying22];simp[bs,dm,Tryz.t22]
theorem aza:eD Tryz.prog 31=true:=by unfold eD;rw[qx];rfl
theorem as6:Tryz.prog.bytesOf 31=40:=(gX qx).trans rfl
theorem asr:cY Tryz.prog 31=true:=by unfold cY;rw[qx];rfl
theorem azk:cr Tryz.prog 31=true:=by
 unfold cr;rw[Tryz.underlying31];simp[pf,pf,ajO]
theorem akr:place Tryz.prog 31 0=some (0,1):=by
 unfold place;rw[Tryz.underlying31];simp[mK]
theorem aju:place Tryz.prog 31 1=some (1,1):=by
 unfold place;rw[Tryz.underlying31];simp[mK]
theorem amz:place Tryz.prog 31 2=some (2,1):=by
 unfold place;rw[Tryz.underlying31];simp[alS]
theorem awc:eD Tryz.prog 228=true:=by unfold eD;rw[rA];rfl
theorem apZ:bn Tryz.prog 230=some [.val (.bool false),.nil,.nil]:=by
 unfold bn dU;rw[alM,Tryz.underlying230];simp[bs,dm,Tryz.t230]
theorem aow:bn Tryz.prog 228=some [.nil]:=by
 unfold bn dU;rw[rA,Tryz.underlying228];simp[bs,dm,Tryz.t228]
theorem ayp:cr Tryz.prog 230=true:=by
 unfold cr;rw[Tryz.underlying230];simp[wb,rA,rA]
theorem agV:place Tryz.prog 230 0=some (0,1):=by
 unfold place;rw[Tryz.underlying230];simp[tY]
theorem ah5:place Tryz.prog 230 1=some (1,1):=by
 unfold place;rw[Tryz.underlying230];simp[wj]
theorem agr:place Tryz.prog 230 2=some (2,1):=by
 unfold place;rw[Tryz.underlying230];simp[wj]
theorem azx:eD Tryz.prog 26=true:=by unfold eD;rw[mC];rfl
theorem atW:Tryz.prog.bytesOf 26=24:=(gX mC).trans rfl
theorem atH:cY Tryz.prog 26=true:=by unfold cY;rw[mC];rfl
theorem apG:bn Tryz.prog 159=some [.val (.bool false),.nil,.nil,.nil,.nil]:=by
 unfold bn dU;rw[alL,Tryz.underlying159];simp[bs,dm,Tryz.t159]
theorem ate:bn Tryz.prog 69=some [.nil]:=by
 unfold bn dU;rw[aeA,Tryz.underlying69];simp[bs,dm,Tryz.t69]
theorem axN:cr Tryz.prog 159=true:=by
 unfold cr;rw[Tryz.underlying159];simp[wb,mC,mC,mC,aeA]
theorem aim:place Tryz.prog 159 0=some (0,1):=by
 unfold place;rw[Tryz.underlying159];simp[tY]
theorem agO:place Tryz.prog 159 1=some (1,1):=by
 unfold place;rw[Tryz.underlying159];simp[nA]
theorem agz:place Tryz.prog 159 2=some (2,1):=by
 unfold place;rw[Tryz.underlying159];simp[nA]
theorem ahh:place Tryz.prog 159 3=some (3,1):=by
 unfold place;rw[Tryz.underlying159];simp[nA]
theorem ahT:place Tryz.prog 159 4=some (4,1):=by
 unfold place;rw[Tryz.underlying159];simp[ac8]
theorem aAf:eD Tryz.prog 5=true:=by unfold eD;rw[ag5];rfl
theorem aAb:aog Tryz.prog 5=true:=by unfold aog;rw[Tryz.underlying5]
theorem as3:bn Tryz.prog 72=some [.nil,.nil]:=by
 unfold bn dU;rw[arT,Tryz.underlying72];simp[bs,dm,Tryz.t72]
theorem auC:bn Tryz.prog 70=some [.nil]:=by
 unfold bn dU;rw[ajx,Tryz.underlying70];simp[bs,dm,Tryz.t70]
theorem azM:cr Tryz.prog 72=true:=by
 unfold cr;rw[Tryz.underlying72];simp[aeA,ajx]
theorem am1:place Tryz.prog 72 0=some (0,1):=by
 unfold place;rw[Tryz.underlying72];simp[ac8]
theorem amA:place Tryz.prog 72 1=some (1,1):=by
 unfold place;rw[Tryz.underlying72];simp[ajI]
theorem apg:bn Tryz.prog 233=some [.val (.map none)]:=by
 unfold bn dU;rw[ak8,Tryz.underlying233];simp[bs,dm,Tryz.t233]
theorem aAl:eD Tryz.prog 4=true:=by unfold eD;rw[wb];rfl
theorem awP:Tryz.prog.bytesOf 4=1:=(gX wb).trans rfl
theorem axv:cY Tryz.prog 4=true:=by unfold cY;rw[wb];rfl
theorem ao4:bn Tryz.prog 166=some [.val (.nilfn)]:=by
 unfold bn dU;rw[aly,Tryz.underlying166];simp[bs,dm,Tryz.t166]
theorem apO:bn Tryz.prog 241=some [.val (.map none)]:=by
 unfold bn dU;rw[amd,Tryz.underlying241];simp[bs,dm,Tryz.t241]
theorem azT:cr Tryz.prog 68=true:=by
 unfold cr;rw[Tryz.underlying68];simp[alZ,afb,pf]
theorem akF:place Tryz.prog 68 0=some (0,1):=by
 unfold place;rw[Tryz.underlying68];simp[amK]
theorem am9:place Tryz.prog 68 1=some (1,1):=by
 unfold place;rw[Tryz.underlying68];simp[adf]
theorem ak2:place Tryz.prog 68 2=some (2,1):=by
 unfold place;rw[Tryz.underlying68];simp[mK]
theorem ast:bn Tryz.prog 68=some [.nil,.val (.ptr none),.val (.int .i64 (0:Int))]:=by
 unfold bn dU;rw[arZ,Tryz.underlying68];simp[bs,dm,Tryz.t68]
theorem aus:bn Tryz.prog 66=some [.nil]:=by
 unfold bn dU;rw[alZ,Tryz.underlying66];simp[bs,dm,Tryz.t66]
theorem ay2:cr Tryz.prog 75=true:=by
 unfold cr;rw[Tryz.underlying75];simp[wb,anw]
theorem ak7:place Tryz.prog 75 0=some (0,1):=by
 unfold place;rw[Tryz.underlying75];simp[tY]
theorem ajv:place Tryz.prog 75 1=some (1,4):=by
 unfold place;rw[Tryz.underlying75];simp[an1]
theorem asA:bn Tryz.prog 75=some [.val (.bool false),.nil,.nil,.nil,.nil]:=by
 unfold bn dU;rw[xE,Tryz.underlying75];simp[bs,dm,Tryz.t75]
theorem ati:bn Tryz.prog 73=some [.nil,.nil,.nil,.nil]:=by
 unfold bn dU;rw[anw,Tryz.underlying73];simp[bs,dm,Tryz.t73]
theorem azG:cr Tryz.prog 77=true:=by
 unfold cr;rw[Tryz.underlying77];simp[qx]
theorem amR:place Tryz.prog 77 0=some (0,3):=by
 unfold place;rw[Tryz.underlying77];simp[rX]
theorem aoe:place Tryz.prog 77 1=some (3,3):=by
 unfold place;rw[Tryz.underlying77];simp[rX]
theorem atg:bn Tryz.prog 77=some [.val (.int .i64 (0:Int)),.val (.int .i64 (0:Int)),.nil,.val (.int .i64 (0:Int)),.val (.int .i64 (0:Int)),.nil]:=by
 unfold bn dU;rw[ayg,Tryz.underlying77];simp[bs,dm,Tryz.t77]
theorem ay8:eD Tryz.prog 75=true:=by unfold eD;rw[xE];rfl
theorem asp:Tryz.prog.bytesOf 75=104:=(gX xE).trans rfl
theorem as1:cY Tryz.prog 75=true:=by unfold cY;rw[xE];rfl
theorem zd4:kl Tryz.prog 4=some (.bool false):=by
 unfold kl fF dU;rw[arz,tY,Tryz.underlying4];simp[gU,CV.toD,bs,ao.cells]
theorem at8:bn Tryz.prog 25=some [.nil,.nil]:=by
 unfold bn dU;rw[arU,Tryz.underlying25];simp[bs,dm,Tryz.t25]
theorem asq:bn Tryz.prog 23=some [.nil]:=by
 unfold bn dU;rw[amx,Tryz.underlying23];simp[bs,dm,Tryz.t23]
theorem aql:iH Tryz.prog .eql 34 (.ptr none) (.ptr none)=some (.bool true):=by simp[iH,eqD,Tryz.underlying34,dF]
theorem aqr:iH Tryz.prog .neq 34 (.ptr none) (.ptr none)=some (.bool false):=by simp[iH,eqD,Tryz.underlying34,dF]
theorem are {a:Nat×Nat}:iH Tryz.prog .eql 34 (.ptr (some a)) (.ptr none)=some (.bool false):=by simp[iH,eqD,Tryz.underlying34,dF]
theorem aq1 {a:Nat×Nat}:iH Tryz.prog .neq 34 (.ptr (some a)) (.ptr none)=some (.bool true):=by simp[iH,eqD,Tryz.underlying34,dF]
theorem aqh {a:Nat×Nat}:iH Tryz.prog .eql 34 (.ptr none) (.ptr (some a))=some (.bool false):=by simp[iH,eqD,Tryz.underlying34,dF]
theorem apv {a:Nat×Nat}:iH Tryz.prog .neq 34 (.ptr none) (.ptr (some a))=some (.bool true):=by simp[iH,eqD,Tryz.underlying34,dF]
theorem azC:cr Tryz.prog 33=true:=by
 unfold cr;rw[Tryz.underlying33];simp[wb,qx,qx]
theorem akg:place Tryz.prog 33 0=some (0,1):=by
 unfold place;rw[Tryz.underlying33];simp[tY]
theorem al4:place Tryz.prog 33 1=some (1,3):=by
 unfold place;rw[Tryz.underlying33];simp[rX]
theorem amp:place Tryz.prog 33 2=some (4,3):=by
 unfold place;rw[Tryz.underlying33];simp[rX]
theorem ayW:eD Tryz.prog 33=true:=by unfold eD;rw[yV];rfl
theorem avD:Tryz.prog.bytesOf 33=88:=(gX yV).trans rfl
theorem as8:cY Tryz.prog 33=true:=by unfold cY;rw[yV];rfl
theorem ayV:cr Tryz.prog 25=true:=by
 unfold cr;rw[Tryz.underlying25];simp[aeU,amx]
theorem akm:place Tryz.prog 25 0=some (0,1):=by
 unfold place;rw[Tryz.underlying25];simp[aa9]
theorem alH:place Tryz.prog 25 1=some (1,1):=by
 unfold place;rw[Tryz.underlying25];simp[al2]
theorem aAh {a b:Bool}:iH Tryz.prog .eql 4 (.bool a) (.bool b)=some (.bool (a==b)):=by simp[iH,eqD,Tryz.underlying4,dF]
theorem aAo {a b:Bool}:iH Tryz.prog .neq 4 (.bool a) (.bool b)=some (.bool (!(a==b))):=by simp[iH,eqD,Tryz.underlying4,dF]
attribute [go_sem] aAe rX Tryz.underlying31 alS Tryz.underlying29 Tryz.underlying3 asx Tryz.underlying25 aa9 Tryz.underlying22 al2 Tryz.underlying23 at1 Tryz.underlying59 atL Tryz.underlying33 aqP Tryz.underlying147 mK avU aoO apf aqE arF ajR alW Tryz.underlying35 Tryz.underlying141 avs atQ Tryz.underlying136 Tryz.underlying9 ays ahJ ahp aq3 aps as2 Tryz.underlying4 arz Tryz.underlying186 Tryz.underlying152 Tryz.underlying26 aAk ayj axh aqU Tryz.underlying115 Tryz.underlying118 aot Tryz.underlying192 Tryz.underlying197 zd3 atd Tryz.underlying190 aeo Tryz.underlying188 ayD aoJ ark Tryz.underlying5 afk Tryz.underlying187 afo axP af1 ahj aqG aoT ar0 aqD aqH arl ap6 Tryz.underlying149 axp ahc ag8 ahq apy Tryz.underlying64 aso Tryz.underlying80 asZ asM adf aaH nA aoS Tryz.underlying150 apQ av3 aq0 aoY awr afW ah3 ahZ axF aqf aqo avW aiF ahW Tryz.underlying104 Tryz.underlying128 al9 Tryz.underlying47 awT axY awC aiN ahn ao8 ats aov zd5 axK aft afv agx ard aul aq6 aza as6 asr azk akr aju amz Tryz.underlying323 wj Tryz.underlying228 awc aqq Tryz.underlying232 Tryz.underlying159 ac8 Tryz.underlying69 aq5 Tryz.underlying230 apZ aow tY ayp agV ah5 agr azx atW atH apG ate axN aim agO agz ahh ahT apU aAf aAb ao3 Tryz.underlying233 Tryz.underlying72 as3 Tryz.underlying70 auC azM am1 amA ajI avG apg aAl awP axv aph Tryz.underlying166 ao4 ari Tryz.underlying241 apO Tryz.underlying68 azT akF am9 ak2 ast Tryz.underlying66 aus amK asL Tryz.underlying75 ay2 ak7 ajv asA Tryz.underlying73 ati an1 atf Tryz.underlying77 azG amR aoe atg ay8 asp as1 zd4 at8 asq Tryz.underlying34 aql aqr are aq1 aqh apv azC akg al4 amp ayW avD as8 ayV akm alH aAh aAo
attribute [go_sem] ajb ail afI afN aa4 aac aaB adk abg aaW adn ach ahL agc aht agB aiA ac6 ad1 acI aay aiT aiq ah4 agd ahD adV acv adi acO aaz ad5 abK ag6 ahe afV ahy aam aas aae af5 ajg adU ad6 aak acE aiH adG adS aip aiR ahi ahY ag1 aiS adT acW abr aaJ aa0 adt acF aaG abY aav aaK adJ ai1 ajj ah2 ab1 abS agT ahs ago ag2 ahB zW acT ada adC ab6 ac5 aap adb ab4 afF afZ ahE agZ aca ac9 aat acD adx ab0 adI adp acy acH aaL adr abE aaY abf aaN adR zZ abt zX adZ acV acj ahu ad2 aaV acS adO aab aci adq aa7 acK aba adW acd ahR ajf aij aiI agw af4 ace aaE aaq acU abh aaD abA abn abi aau acx aiJ ahF afA ag4 aai abJ aaT ab3 adY ad4 aao abb aaF abX abl acG adm acA abV abv abF aaj af6 aiP ahA agP ahI agH agi agk afz ahU ads adB adh agh agX af0 aiE aja afQ aha afM afO afJ ah8 afB afX afu abk ab2 acp acr ad0 acb aaM aiW ahb ai3 ahg aih ai4 af9 aiZ agb ah9 aiU anR anr amU amJ alb akI anN
end Go.Val
namespace Go.Val
open Go.Proofs
set_option maxRecDepth 100000
theorem mixed:Tryz.prog.follows .mixedOrders=true:=by kernel_rfl
theorem alX {m:Nat} {ds:List ao} (h:isT Tryz.prog m 147 ds):∃ x:ak,ds=(bi x).cells:=by
 cases m with
 | zero=>exact h.elim
 | succ m=>
 unfold isT at h
 rw[Tryz.underlying147]at h
 simp only[isF]at h
 obtain ⟨a,b,rfl,h1,c,d,rfl,h2,rfl⟩:=h
 cases m with
 | zero=>exact h1.elim
 | succ m=>
 obtain ⟨n,rfl,_⟩:=tb Tryz.underlying3 h1
 obtain ⟨k,rfl,_⟩:=tb Tryz.underlying3 h2
 exact ⟨⟨n,k⟩,rfl⟩
theorem ag0 {m:Nat} {ds:List ao} (h:isT Tryz.prog m 59 ds):∃ l:List ak,ds=[eL bi l]:=by
 cases m with
 | zero=>exact h.elim
 | succ m=>
 obtain ⟨l,h1,_⟩:=mH (en:=bi) Tryz.underlying59 h fun x hx hag _=>by
  obtain ⟨y,hy⟩:=alX hx
  obtain ⟨cs,rfl⟩:=hag (by simp[dU,Tryz.underlying147])
  exact ⟨y,by simp only[ao.cells]at hy;rw[hy];rfl⟩
 exact ⟨l,h1⟩
theorem adg {m:Nat} {ds:List ao} (h:isT Tryz.prog m 22 ds):∃ l:List (List ak),ds=[eL (eL bi) l]:=by
 cases m with
 | zero=>exact h.elim
 | succ m=>
 obtain ⟨l,h1,_⟩:=mH (en:=eL bi) Tryz.underlying22 h fun x hx _ ho=>by
  obtain ⟨l,hl⟩:=ag0 hx
  exact ⟨l,ar2 hl (ho (by simp[dU,Tryz.underlying59]))⟩
 exact ⟨l,h1⟩
theorem vZ:∀ {m:Nat} {ds:List ao},isT Tryz.prog m 31 ds→∃ x:az,ds=(bR x).cells
 | 0,ds,h=>h.elim
 | 1,ds,h=>by
  unfold isT at h
  rw[Tryz.underlying31]at h
  simp only[isF]at h
  obtain ⟨a,b,rfl,h1,_⟩:=h
  exact h1.elim
 | m+2,ds,h=>by
  have ih:=@vZ m
  unfold isT at h
  rw[Tryz.underlying31]at h
  simp only[isF]at h
  obtain ⟨a,b,rfl,h1,c,d,rfl,h2,e,f,rfl,h3,rfl⟩:=h
  obtain ⟨n,rfl,_⟩:=tb Tryz.underlying3 h1
  obtain ⟨k,rfl,_⟩:=tb Tryz.underlying3 h2
  obtain ⟨l,rfl,_⟩:=mH (en:=bR) Tryz.underlying29 h3 fun x hx hag _=>by
   obtain ⟨y,hy⟩:=ih hx
   obtain ⟨cs,rfl⟩:=hag (by simp[dU,Tryz.underlying31])
   exact ⟨y,by rw[gY]at hy ⊢;simp only[ao.cells]at hy;rw[hy]⟩
  exact ⟨⟨n,k,l⟩,by rw[gY];rfl⟩
theorem ap1 {m:Nat} {ds:List ao} (h:isT Tryz.prog m 33 ds):∃ x:iV,ds=(fp x).cells:=by
 cases m with
 | zero=>exact h.elim
 | succ m=>
 unfold isT at h
 rw[Tryz.underlying33]at h
 simp only[isF]at h
 obtain ⟨a,b,rfl,h1,c,d,rfl,h2,e,f,rfl,h3,rfl⟩:=h
 cases m with
 | zero=>exact h1.elim
 | succ m=>
 obtain ⟨n,rfl⟩:=aoo Tryz.underlying4 h1
 obtain ⟨x,rfl⟩:=vZ h2
 obtain ⟨y,rfl⟩:=vZ h3
 exact ⟨⟨n,x,y⟩,by rw[gY,gY];rfl⟩
theorem ac3 {m:Nat} {ds:List ao} (h:isT Tryz.prog m 25 ds):∃ x:aW,ds=(fP x).cells:=by
 cases m with
 | zero=>exact h.elim
 | succ m=>
 unfold isT at h
 rw[Tryz.underlying25]at h
 simp only[isF]at h
 obtain ⟨a,b,rfl,h1,c,d,rfl,h2,rfl⟩:=h
 obtain ⟨x,rfl⟩:=adg h1
 cases m with
 | zero=>exact h2.elim
 | succ m=>
 obtain ⟨y,rfl,_⟩:=mH (en:=fp) Tryz.underlying23 h2 fun x hx hag _=>by
  obtain ⟨y,hy⟩:=ap1 hx
  obtain ⟨cs,rfl⟩:=hag (by simp[dU,Tryz.underlying33])
  exact ⟨y,by simp only[ao.cells]at hy;rw[hy];rfl⟩
 exact ⟨⟨x,y⟩,rfl⟩
theorem avE:ajA Tryz.prog [25,22,23,59,147,29,31,33,3,4]=true:=by kernel_rfl
theorem aqO {m:Nat} {ds:List ao} (h:isT Tryz.prog (m+2) 26 ds):∃ l:List Int,ds=[eL eI l]∧l.length≤maxLen:=
 mH Tryz.underlying26 h fun x hx _ ho=>by
  obtain ⟨n,h1,_⟩:=tb Tryz.underlying3 hx
  exact ⟨n,ar2 h1 (ho (by simp[dU,Tryz.underlying3]))⟩
end Go.Val
namespace Go.Val
open Go.Proofs Go.Shelf
def ahx:Go.Shelf.Ren:=⟨fun | 6=>145 | 15=>152 | 14=>203 | 28=>216 | 29=>217 | 20=>245 | 21=>246 | 22=>247 | 23=>248 | 24=>249 | 25=>250 | 26=>251 | 27=>252 | 46=>269 | 47=>254 | 48=>255 | 49=>270 | 50=>271 | 57=>274 | n=>n,fun | 22=>59 | 24=>147 | 25=>222 | 3=>3 | 39=>186 | 0=>0 | 53=>284 | 55=>152 | 4=>4 | 46=>278 | 45=>277 | 50=>154 | 5=>5 | 9=>9 | 66=>306 | 70=>310 | 76=>320 | 77=>321 | n=>n,fun | n=>n⟩
theorem ars:Go.Proofs.SlLaysF0.n6 Tryz.prog ahx:={
 mixed:=by kernel_rfl
 f6:=⟨Tryz.f145.name,by decide,Tryz.func145.trans (congrArg some (by kernel_rfl))⟩
 f14:=⟨Tryz.f203.name,by decide,Tryz.func203.trans (congrArg some (by kernel_rfl))⟩
 f15:=Tryz.func152.trans (congrArg some (by kernel_rfl))
 f20:=⟨Tryz.f245.name,by decide,Tryz.func245.trans (congrArg some (by kernel_rfl))⟩
 f21:=⟨Tryz.f246.name,by decide,Tryz.func246.trans (congrArg some (by kernel_rfl))⟩
 f22:=⟨Tryz.f247.name,by decide,Tryz.func247.trans (congrArg some (by kernel_rfl))⟩
 f23:=⟨Tryz.f248.name,by decide,Tryz.func248.trans (congrArg some (by kernel_rfl))⟩
 f24:=⟨Tryz.f249.name,by decide,Tryz.func249.trans (congrArg some (by kernel_rfl))⟩
 f25:=⟨Tryz.f250.name,by decide,Tryz.func250.trans (congrArg some (by kernel_rfl))⟩
 f26:=⟨Tryz.f251.name,by decide,Tryz.func251.trans (congrArg some (by kernel_rfl))⟩
 f27:=⟨Tryz.f252.name,by decide,Tryz.func252.trans (congrArg some (by kernel_rfl))⟩
 f28:=Tryz.func216.trans (congrArg some (by kernel_rfl))
 f29:=Tryz.func217.trans (congrArg some (by kernel_rfl))
 f46:=⟨Tryz.f269.name,by decide,Tryz.func269.trans (congrArg some (by kernel_rfl))⟩
 f47:=Tryz.func254.trans (congrArg some (by kernel_rfl))
 f48:=Tryz.func255.trans (congrArg some (by kernel_rfl))
 f49:=⟨Tryz.f270.name,by decide,Tryz.func270.trans (congrArg some (by kernel_rfl))⟩
 f50:=⟨Tryz.f271.name,by decide,Tryz.func271.trans (congrArg some (by kernel_rfl))⟩
 f57:=⟨Tryz.f274.name,by decide,Tryz.func274.trans (congrArg some (by kernel_rfl))⟩
 t0:=Tryz.underlying0
 a0:=Tryz.isAgg0
 z0:=Tryz.sizeOf0
 v0:=Tryz.zeroValue0
 t3:=Tryz.underlying3
 a3:=Tryz.isAgg3
 z3:=Tryz.sizeOf3
 v3:=Tryz.zeroValue3
 t4:=Tryz.underlying4
 a4:=Tryz.isAgg4
 z4:=Tryz.sizeOf4
 v4:=Tryz.zeroValue4
 t5:=Tryz.underlying5
 a5:=Tryz.isAgg5
 z5:=Tryz.sizeOf5
 v5:=Tryz.zeroValue5
 t9:=Tryz.underlying9
 a9:=Tryz.isAgg9
 z9:=Tryz.sizeOf9
 v9:=Tryz.zeroValue9
 t22:=Tryz.underlying59
 a22:=Tryz.isAgg59
 z22:=Tryz.sizeOf59
 v22:=Tryz.zeroValue59
 t25:=Tryz.underlying222
 a25:=Tryz.isAgg222
 z25:=Tryz.sizeOf222
 v25:=Tryz.zeroValue222
 t39:=Tryz.underlying186
 a39:=Tryz.isAgg186
 z39:=Tryz.sizeOf186
 v39:=Tryz.zeroValue186
 t45:=Tryz.underlying277
 a45:=Tryz.isAgg277
 z45:=Tryz.sizeOf277
 v45:=Tryz.zeroValue277
 t46:=Tryz.underlying278
 a46:=Tryz.isAgg278
 z46:=Tryz.sizeOf278
 v46:=Tryz.zeroValue278
 t50:=Tryz.underlying154
 a50:=Tryz.isAgg154
 z50:=Tryz.sizeOf154
 v50:=Tryz.zeroValue154
 t53:=Tryz.underlying284
 a53:=Tryz.isAgg284
 z53:=Tryz.sizeOf284
 v53:=Tryz.zeroValue284
 t55:=Tryz.underlying152
 a55:=Tryz.isAgg152
 z55:=Tryz.sizeOf152
 v55:=Tryz.zeroValue152
 t66:=Tryz.underlying306
 a66:=Tryz.isAgg306
 z66:=Tryz.sizeOf306
 v66:=Tryz.zeroValue306
 t70:=Tryz.underlying310
 a70:=Tryz.isAgg310
 z70:=Tryz.sizeOf310
 v70:=Tryz.zeroValue310
 t76:=Tryz.underlying320
 a76:=Tryz.isAgg320
 z76:=Tryz.sizeOf320
 v76:=Tryz.zeroValue320
 t77:=Tryz.underlying321
 a77:=Tryz.isAgg321
 z77:=Tryz.sizeOf321
 v77:=Tryz.zeroValue321 }
def aig:Go.Shelf.Ren:=⟨fun | 5=>147 | 7=>204 | n=>n,fun | 22=>3 | 3=>3 | 4=>4 | n=>n,fun | n=>n⟩
theorem avV:Go.Proofs.SlLaysC2.n5 Tryz.prog aig:={
 mixed:=by kernel_rfl
 f5:=⟨Tryz.f147.name,by decide,Tryz.func147.trans (congrArg some (by kernel_rfl))⟩
 f7:=⟨Tryz.f204.name,by decide,Tryz.func204.trans (congrArg some (by kernel_rfl))⟩
 t3:=Tryz.underlying3
 a3:=Tryz.isAgg3
 z3:=Tryz.sizeOf3
 v3:=Tryz.zeroValue3
 t4:=Tryz.underlying4
 a4:=Tryz.isAgg4
 z4:=Tryz.sizeOf4
 v4:=Tryz.zeroValue4
 t22:=Tryz.underlying3
 a22:=Tryz.isAgg3
 z22:=Tryz.sizeOf3
 v22:=Tryz.zeroValue3 }
def ai0:Go.Shelf.Ren:=⟨fun | 53=>83 | 64=>152 | 63=>151 | 78=>216 | 79=>217 | 70=>207 | 71=>208 | 72=>209 | 73=>210 | 74=>211 | 75=>212 | 59=>213 | 76=>214 | 77=>215 | 88=>253 | 89=>254 | 90=>255 | 91=>256 | 92=>257 | 68=>204 | 96=>272 | n=>n,fun | 22=>26 | 23=>3 | 3=>3 | 51=>186 | 0=>0 | 67=>284 | 69=>152 | 4=>4 | 61=>278 | 60=>277 | 44=>154 | 5=>5 | 9=>9 | 75=>306 | 79=>310 | 83=>320 | 84=>321 | n=>n,fun | n=>n⟩
theorem uq:Go.Proofs.SlLaysN.n53 Tryz.prog ai0:={
 mixed:=by kernel_rfl
 f53:=⟨Tryz.f83.name,by decide,Tryz.func83.trans (congrArg some (by kernel_rfl))⟩
 f59:=⟨Tryz.f213.name,by decide,Tryz.func213.trans (congrArg some (by kernel_rfl))⟩
 f63:=⟨Tryz.f151.name,by decide,Tryz.func151.trans (congrArg some (by kernel_rfl))⟩
 f64:=Tryz.func152.trans (congrArg some (by kernel_rfl))
 f68:=⟨Tryz.f204.name,by decide,Tryz.func204.trans (congrArg some (by kernel_rfl))⟩
 f70:=⟨Tryz.f207.name,by decide,Tryz.func207.trans (congrArg some (by kernel_rfl))⟩
 f71:=⟨Tryz.f208.name,by decide,Tryz.func208.trans (congrArg some (by kernel_rfl))⟩
 f72:=⟨Tryz.f209.name,by decide,Tryz.func209.trans (congrArg some (by kernel_rfl))⟩
 f73:=⟨Tryz.f210.name,by decide,Tryz.func210.trans (congrArg some (by kernel_rfl))⟩
 f74:=⟨Tryz.f211.name,by decide,Tryz.func211.trans (congrArg some (by kernel_rfl))⟩
 f75:=⟨Tryz.f212.name,by decide,Tryz.func212.trans (congrArg some (by kernel_rfl))⟩
 f76:=⟨Tryz.f214.name,by decide,Tryz.func214.trans (congrArg some (by kernel_rfl))⟩
 f77:=⟨Tryz.f215.name,by decide,Tryz.func215.trans (congrArg some (by kernel_rfl))⟩
 f78:=Tryz.func216.trans (congrArg some (by kernel_rfl))
 f79:=Tryz.func217.trans (congrArg some (by kernel_rfl))
 f88:=⟨Tryz.f253.name,by decide,Tryz.func253.trans (congrArg some (by kernel_rfl))⟩
 f89:=Tryz.func254.trans (congrArg some (by kernel_rfl))
 f90:=Tryz.func255.trans (congrArg some (by kernel_rfl))
 f91:=⟨Tryz.f256.name,by decide,Tryz.func256.trans (congrArg some (by kernel_rfl))⟩
 f92:=⟨Tryz.f257.name,by decide,Tryz.func257.trans (congrArg some (by kernel_rfl))⟩
 f96:=⟨Tryz.f272.name,by decide,Tryz.func272.trans (congrArg some (by kernel_rfl))⟩
 t0:=Tryz.underlying0
 a0:=Tryz.isAgg0
 z0:=Tryz.sizeOf0
 v0:=Tryz.zeroValue0
 t3:=Tryz.underlying3
 a3:=Tryz.isAgg3
 z3:=Tryz.sizeOf3
 v3:=Tryz.zeroValue3
 t4:=Tryz.underlying4
 a4:=Tryz.isAgg4
 z4:=Tryz.sizeOf4
 v4:=Tryz.zeroValue4
 t5:=Tryz.underlying5
 a5:=Tryz.isAgg5
 z5:=Tryz.sizeOf5
 v5:=Tryz.zeroValue5
 t9:=Tryz.underlying9
 a9:=Tryz.isAgg9
 z9:=Tryz.sizeOf9
 v9:=Tryz.zeroValue9
 t22:=Tryz.underlying26
 a22:=Tryz.isAgg26
 z22:=Tryz.sizeOf26
 v22:=Tryz.zeroValue26
 t23:=Tryz.underlying3
 a23:=Tryz.isAgg3
 z23:=Tryz.sizeOf3
 v23:=Tryz.zeroValue3
 t44:=Tryz.underlying154
 a44:=Tryz.isAgg154
 z44:=Tryz.sizeOf154
 v44:=Tryz.zeroValue154
 t51:=Tryz.underlying186
 a51:=Tryz.isAgg186
 z51:=Tryz.sizeOf186
 v51:=Tryz.zeroValue186
 t60:=Tryz.underlying277
 a60:=Tryz.isAgg277
 z60:=Tryz.sizeOf277
 v60:=Tryz.zeroValue277
 t61:=Tryz.underlying278
 a61:=Tryz.isAgg278
 z61:=Tryz.sizeOf278
 v61:=Tryz.zeroValue278
 t67:=Tryz.underlying284
 a67:=Tryz.isAgg284
 z67:=Tryz.sizeOf284
 v67:=Tryz.zeroValue284
 t69:=Tryz.underlying152
 a69:=Tryz.isAgg152
 z69:=Tryz.sizeOf152
 v69:=Tryz.zeroValue152
 t75:=Tryz.underlying306
 a75:=Tryz.isAgg306
 z75:=Tryz.sizeOf306
 v75:=Tryz.zeroValue306
 t79:=Tryz.underlying310
 a79:=Tryz.isAgg310
 z79:=Tryz.sizeOf310
 v79:=Tryz.zeroValue310
 t83:=Tryz.underlying320
 a83:=Tryz.isAgg320
 z83:=Tryz.sizeOf320
 v83:=Tryz.zeroValue320
 t84:=Tryz.underlying321
 a84:=Tryz.isAgg321
 z84:=Tryz.sizeOf321
 v84:=Tryz.zeroValue321 }
def vq:Go.Shelf.Ren:=⟨fun | 43=>84 | n=>n,fun | 22=>26 | 23=>3 | 3=>3 | 4=>4 | 0=>0 | n=>n,fun | n=>n⟩
theorem zE:Go.Proofs.SlLaysN.n43 Tryz.prog vq:={
 mixed:=by kernel_rfl
 f43:=⟨Tryz.f84.name,by decide,Tryz.func84.trans (congrArg some (by kernel_rfl))⟩
 t0:=Tryz.underlying0
 a0:=Tryz.isAgg0
 z0:=Tryz.sizeOf0
 v0:=Tryz.zeroValue0
 t3:=Tryz.underlying3
 a3:=Tryz.isAgg3
 z3:=Tryz.sizeOf3
 v3:=Tryz.zeroValue3
 t4:=Tryz.underlying4
 a4:=Tryz.isAgg4
 z4:=Tryz.sizeOf4
 v4:=Tryz.zeroValue4
 t22:=Tryz.underlying26
 a22:=Tryz.isAgg26
 z22:=Tryz.sizeOf26
 v22:=Tryz.zeroValue26
 t23:=Tryz.underlying3
 a23:=Tryz.isAgg3
 z23:=Tryz.sizeOf3
 v23:=Tryz.zeroValue3
 i23:=by kernel_rfl }
def vD:Go.Shelf.Ren:=⟨fun | 43=>261 | n=>n,fun | 22=>228 | 23=>3 | 3=>3 | 4=>4 | 0=>0 | n=>n,fun | n=>n⟩
theorem yL:Go.Proofs.SlLaysN.n43 Tryz.prog vD:={
 mixed:=by kernel_rfl
 f43:=⟨Tryz.f261.name,by decide,Tryz.func261.trans (congrArg some (by kernel_rfl))⟩
 t0:=Tryz.underlying0
 a0:=Tryz.isAgg0
 z0:=Tryz.sizeOf0
 v0:=Tryz.zeroValue0
 t3:=Tryz.underlying3
 a3:=Tryz.isAgg3
 z3:=Tryz.sizeOf3
 v3:=Tryz.zeroValue3
 t4:=Tryz.underlying4
 a4:=Tryz.isAgg4
 z4:=Tryz.sizeOf4
 v4:=Tryz.zeroValue4
 t22:=Tryz.underlying228
 a22:=Tryz.isAgg228
 z22:=Tryz.sizeOf228
 v22:=Tryz.zeroValue228
 t23:=Tryz.underlying3
 a23:=Tryz.isAgg3
 z23:=Tryz.sizeOf3
 v23:=Tryz.zeroValue3
 i23:=by kernel_rfl }
def ajY:Go.Shelf.Ren:=⟨fun | 35=>86 | n=>n,fun | 22=>29 | 23=>31 | 3=>3 | 4=>4 | 0=>0 | n=>n,fun | n=>n⟩
theorem awY:Go.Proofs.SlLaysE0.n35 Tryz.prog ajY:={
 mixed:=by kernel_rfl
 f35:=⟨Tryz.f86.name,by decide,Tryz.func86.trans (congrArg some (by kernel_rfl))⟩
 t0:=Tryz.underlying0
 a0:=Tryz.isAgg0
 z0:=Tryz.sizeOf0
 v0:=Tryz.zeroValue0
 t3:=Tryz.underlying3
 a3:=Tryz.isAgg3
 z3:=Tryz.sizeOf3
 v3:=Tryz.zeroValue3
 t4:=Tryz.underlying4
 a4:=Tryz.isAgg4
 z4:=Tryz.sizeOf4
 v4:=Tryz.zeroValue4
 t22:=Tryz.underlying29
 a22:=Tryz.isAgg29
 z22:=Tryz.sizeOf29
 v22:=Tryz.zeroValue29 }
def aoa:Go.Shelf.Ren:=⟨fun | 10=>225 | 6=>262 | n=>n,fun | 22=>228 | 23=>3 | 25=>166 | 3=>3 | 4=>4 | 0=>0 | n=>n,fun | n=>n⟩
theorem av8:Go.Proofs.SlLaysH.n10 Tryz.prog aoa:={
 mixed:=by kernel_rfl
 f6:=⟨Tryz.f262.name,by decide,Tryz.func262.trans (congrArg some (by kernel_rfl))⟩
 f10:=⟨Tryz.f225.name,by decide,Tryz.func225.trans (congrArg some (by kernel_rfl))⟩
 t0:=Tryz.underlying0
 a0:=Tryz.isAgg0
 z0:=Tryz.sizeOf0
 v0:=Tryz.zeroValue0
 t3:=Tryz.underlying3
 a3:=Tryz.isAgg3
 z3:=Tryz.sizeOf3
 v3:=Tryz.zeroValue3
 t4:=Tryz.underlying4
 a4:=Tryz.isAgg4
 z4:=Tryz.sizeOf4
 v4:=Tryz.zeroValue4
 t22:=Tryz.underlying228
 a22:=Tryz.isAgg228
 z22:=Tryz.sizeOf228
 v22:=Tryz.zeroValue228
 a23:=Tryz.isAgg3
 z23:=Tryz.sizeOf3
 t25:=Tryz.underlying166
 a25:=Tryz.isAgg166
 z25:=Tryz.sizeOf166
 v25:=Tryz.zeroValue166 }
def af2:Go.Shelf.Ren:=⟨fun | 4=>226 | n=>n,fun | 22=>26 | 25=>3 | 3=>3 | 4=>4 | 9=>9 | 20=>20 | 0=>0 | n=>n,fun | n=>n⟩
theorem arA:Go.Proofs.Lays8.n4 Tryz.prog af2:={
 mixed:=by kernel_rfl
 f4:=⟨Tryz.f226.name,by decide,Tryz.func226.trans (congrArg some (by kernel_rfl))⟩
 t0:=Tryz.underlying0
 a0:=Tryz.isAgg0
 z0:=Tryz.sizeOf0
 v0:=Tryz.zeroValue0
 t3:=Tryz.underlying3
 a3:=Tryz.isAgg3
 z3:=Tryz.sizeOf3
 v3:=Tryz.zeroValue3
 t4:=Tryz.underlying4
 a4:=Tryz.isAgg4
 z4:=Tryz.sizeOf4
 v4:=Tryz.zeroValue4
 t9:=Tryz.underlying9
 a9:=Tryz.isAgg9
 z9:=Tryz.sizeOf9
 v9:=Tryz.zeroValue9
 t20:=Tryz.underlying20
 a20:=Tryz.isAgg20
 z20:=Tryz.sizeOf20
 v20:=Tryz.zeroValue20
 t22:=Tryz.underlying26
 a22:=Tryz.isAgg26
 z22:=Tryz.sizeOf26
 v22:=Tryz.zeroValue26 }
def aiy:Go.Shelf.Ren:=⟨fun | 4=>273 | n=>n,fun | 22=>228 | 25=>3 | 3=>3 | 4=>4 | 9=>9 | 20=>20 | 0=>0 | n=>n,fun | n=>n⟩
theorem arS:Go.Proofs.Lays8.n4 Tryz.prog aiy:={
 mixed:=by kernel_rfl
 f4:=⟨Tryz.f273.name,by decide,Tryz.func273.trans (congrArg some (by kernel_rfl))⟩
 t0:=Tryz.underlying0
 a0:=Tryz.isAgg0
 z0:=Tryz.sizeOf0
 v0:=Tryz.zeroValue0
 t3:=Tryz.underlying3
 a3:=Tryz.isAgg3
 z3:=Tryz.sizeOf3
 v3:=Tryz.zeroValue3
 t4:=Tryz.underlying4
 a4:=Tryz.isAgg4
 z4:=Tryz.sizeOf4
 v4:=Tryz.zeroValue4
 t9:=Tryz.underlying9
 a9:=Tryz.isAgg9
 z9:=Tryz.sizeOf9
 v9:=Tryz.zeroValue9
 t20:=Tryz.underlying20
 a20:=Tryz.isAgg20
 z20:=Tryz.sizeOf20
 v20:=Tryz.zeroValue20
 t22:=Tryz.underlying228
 a22:=Tryz.isAgg228
 z22:=Tryz.sizeOf228
 v22:=Tryz.zeroValue228 }
end Go.Val
namespace Go.Proofs.IR
open Go.Shelf Go.RowKit Go.Lib Go.Sort Go.Val
set_option maxRecDepth 100000
def wT (x:ak):List Value:=[.int .i64 x.Low,.int .i64 x.High]
set_option maxHeartbeats 1000000 in
theorem ajh (x y:ak) (W:World):Calls Tryz.prog 146 #[.agg #[.int .i64 x.Low,.int .i64 x.High],.agg #[.int .i64 y.Low,.int .i64 y.High]] W fun e w'=>e= .returned (.int .i64 (Lib.compareInt x.Low y.Low))∧∃ q os',w'=Sort.grow (W.drewN q) os':=by
 have hcon:=fun W'=>AnyG.cmp_Compare_int avV x.Low y.Low W'
 change ∀ W',Calls Tryz.prog 147 _ _ _ at hcon
 generalize Lib.compareInt x.Low y.Low=r at hcon ⊢
 go_enter Tryz.func146,Tryz.ntmps146
 go_wp2_with (go_at_call 147;refine (hcon _).mono ?_;rintro e w' ⟨rfl,rfl⟩)
 go_ret
 exact ⟨rfl,0,_,by rw[alloc_eq_grow,alloc_eq_grow,grow_grow];rfl⟩
theorem aiB (blk off size:Nat) (w:World):CmpLays Tryz.prog 146 #[] wT 2 (fun x y=>Lib.compareInt x.Low y.Low) blk off size w:=
 fun _ _ _ _ x y=>ajh x y _
theorem axn:ltOf (fun x y:ak=>Lib.compareInt x.Low y.Low)=ltR:=by
 funext x y
 unfold ltOf Lib.compareInt ltR
 by_cases h1:x.Low < y.Low
 ·simp[h1]
 ·by_cases h2:y.Low < x.Low <;> simp[h1,h2]
theorem az8:SWO ltR where
 irrefl x:=by simp[ltR]
 trans x y z h1 h2:=by simp[ltR]at*;omega
 ntrans x y z h1 h2:=by simp[ltR]at*;omega
theorem ln {α:Type} [Inhabited α] (enc:α→Value) (d:Array α) (arr:Array Value) (h:d.size≤arr.size):(putCells enc 0 d arr).toList.take d.size=d.toList.map enc:=by
 apply List.ext_getElem?
 intro j
 rw[List.getElem?_take]
 by_cases hj:j < d.size
 ·rw[if_pos hj]
  have hja:j < arr.size:=by omega
  simp only[Array.getElem?_toList,putCells,Array.getElem?_mapIdx,Array.getElem?_eq_getElem hja,Option.map_some,Nat.zero_le,true_and,Nat.sub_zero]
  rw[if_pos (by omega),List.getElem?_map,Array.getElem?_toList,Array.getElem?_eq_getElem hj,Option.map_some]
  rw[getElem!_pos d j hj]
 ·rw[if_neg hj,gN (by simp;omega)]
variable {w w':World} {G:Gh}
theorem vC {α:Type} [Inhabited α] {enc:α→Value} {d:Array α} {b:Nat} {arr:Array Value} {k:TypeId} {os:Array Obj} (h3:w.heap[b]? =some (.cells arr k (0,0))) (hh:w'.heap=w.heap.modify b (onCells (putCells enc 0 d))++os):
  w'.heap[b]? =some (.cells (putCells enc 0 d arr) k (0,0))∧w.heap.size≤w'.heap.size∧∀ b',b' < w.heap.size→b'≠b→w'.heap[b']? =w.heap[b']? :=by
 have hb:=gv h3
 refine ⟨?_,by rw[hh];simp,fun b' hb' hne=>?_⟩
 ·rw[hh,Array.getElem?_append,if_pos (by simpa using hb),Array.getElem?_modify,if_pos rfl,h3];rfl
 ·rw[hh,Array.getElem?_append,if_pos (by simpa using hb'),Array.getElem?_modify,if_neg (Ne.symm hne)]
def ans (g:FuncId) (ds:List ao) (k:TypeId) (zs ys:List ao):Prop:=Val.Enters CT.P g∧
 ∀ (w:World) (G:Gh) (t:Tag) (v:Value) (vs:List Value),G.P=CT.P→bS w G t k zs v→bO w G ds vs→
  Calls CT.P g (v::vs).toArray w fun e w'=>e= .returned (.tuple #[])∧w'.os=w.os∧w'.tape=w.tape∧w'.output=w.output∧w.heap.size≤w'.heap.size∧
   ((zs=[]∧ys=[]∧∀ b,b < w.heap.size→w'.heap[b]? =w.heap[b]?)∨
    zs≠[]∧∃ b cap arr arr',v= .slice (some ⟨b,0,none⟩) zs.length cap∧w.heap[b]? =some (.cells arr k (0,0))∧w'.heap[b]? =some (.cells arr' k (0,0))∧arr'.size=arr.size∧ys.length=zs.length∧
     (∀ y∈ys,y.cells.length=CT.P.cellsOf k)∧bO w G (bh ys) (arr'.toList.take (ys.length*CT.P.cellsOf k))∧∀ b',b' < w.heap.size→b'≠b→w'.heap[b']? =w.heap[b']?)
theorem va {g:FuncId} {ds:List ao} {k:TypeId} {zs ys:List ao} {c:Nat} (hE:Val.Enters CT.P g) (hc:CT.P.cellsOf k=c) (hzl:zs.length≤140737488355328) (hyl:ys.length=zs.length) (hyc:∀ y∈ys,y.cells.length=c)
  (hnone:zs=[]→∀ (w:World) (G:Gh) (vs:List Value),bO w G ds vs→∀ (p:Option Addr) (cap:Nat),Calls CT.P g (.slice p 0 cap::vs).toArray w fun e w'=>e= .returned (.tuple #[])∧w'=w)
  (hsome:zs≠[]→∀ (w:World) (G:Gh) (vs:List Value) (b cap:Nat) (arr:Array Value),G.P=CT.P→bO w G ds vs→w.heap[b]? =some (.cells arr k (0,0))→zs.length*c≤arr.size→zs.length≤cap→bO w G (bh zs) (arr.toList.take (zs.length*c))→
   Calls CT.P g (.slice (some ⟨b,0,none⟩) zs.length cap::vs).toArray w fun e w'=>e= .returned (.tuple #[])∧w'.os=w.os∧w'.tape=w.tape∧w'.output=w.output∧∃ (us:List Value) (os:Array Obj) (arr':Array Value),bO w G (bh ys) us∧us.length=ys.length*c∧arr'.size=arr.size∧arr'.toList.take us.length=us∧
    w'.heap[b]? =some (.cells arr' k (0,0))∧w.heap.size≤w'.heap.size∧∀ b',b' < w.heap.size→b'≠b→w'.heap[b']? =w.heap[b']?):
  ans g ds k zs ys:=by
 refine ⟨hE,fun w G t v vs hP hrow hvs=>?_⟩
 by_cases hl:zs=[]
 ·obtain ⟨p,cap,rfl⟩:∃ p cap,v= .slice p 0 cap:=by
   rcases hrow with ⟨_,a,e⟩ | ⟨b,cap,arr,e,_⟩
   ·exact ⟨a,0,e⟩
   ·rw[hl]at e;exact ⟨_,cap,e⟩
  refine (hnone hl w G vs hvs p cap).mono fun e w' ⟨h1,h2⟩=>?_
  subst h2
  exact ⟨h1,rfl,rfl,rfl,Nat.le_refl _,Or.inl ⟨hl,List.length_eq_zero_iff.1 (by rw[hyl,hl];rfl),fun _ _=>rfl⟩⟩
 ·rcases hrow with ⟨h0,_⟩ | ⟨b,cap,arr,rfl,h2,h3,h4,h5,h6,h7,h8⟩
  ·exact absurd h0 hl
  ·have hcell:G.P.cellsOf k=c:=by rw[hP];exact hc
   rw[hcell]at h4 h8
   have hle:zs.length*c≤arr.size:=by rw[h4];exact Nat.mul_le_mul_right _ h5
   refine (hsome hl w G vs b cap arr hP hvs h3 hle h5 h8).mono fun e w' ⟨he,i1,i2,i3,us,os,arr',j1,j2,j3,j4,j5,j6,j7⟩=>?_
   refine ⟨he,i1,i2,i3,j6,.inr ⟨hl,b,cap,arr,arr',rfl,h3,j5,j3,hyl,fun y hy=>by rw[hc];exact hyc y hy,?_,j7⟩⟩
   rw[hc,← j2,j4];exact j1
theorem aml:∀ {l:List ak} {vs:List Value},bO w G (bh (l.map bi)) vs→vs=l.flatMap wT
 | [],vs,h=>by
  have h':bO w G [] vs:=h
  cases h';rfl
 | a::l,vs,h=>by
  have h':bO w G (.int .i64 a.Low:: .int .i64 a.High::bh (l.map bi)) vs:=h
  cases h' with
  | cons _ v _ vs _ h1 h2=>
   cases h2 with
   | cons _ v2 _ vs2 _ h3 h4=>
    cases h1;cases h3
    rw[aml h4];rfl
theorem arH:∀ (l:List ak),bO w G (bh (l.map bi)) (l.flatMap wT)
 | []=>.nil
 | a::l=>.cons _ _ _ _ rfl (.int _ _) (.cons _ _ _ _ rfl (.int _ _) (arH l))
theorem rj:∀ (l:List ak),(l.flatMap wT).length=l.length*2
 | []=>rfl
 | a::l=>by simp only[List.flatMap_cons,List.length_append,rj l,List.length_cons,wT];simp;omega
theorem pA {α:Type} [Inhabited α] {enc:α→List Value} {k:Nat} (hk:∀ x,(enc x).length=k) (h0:0 < k):∀ (l:List α),(flatK enc k l.toArray).toList=l.flatMap enc:=by
 intro l
 apply List.ext_getElem?
 intro t
 have hlen:(l.flatMap enc).length=l.length*k:=by
  induction l with
  | nil=>simp
  | cons a l ih=>rw[List.flatMap_cons,List.length_append,hk,ih,List.length_cons,Nat.succ_mul];omega
 by_cases ht:t < l.length*k
 ·have h1:(flatK enc k l.toArray).toList[t]? =some ((flatK enc k l.toArray)[t]!):=by
   have hs:t < (flatK enc k l.toArray).size:=by simpa using ht
   rw[Array.getElem?_toList,Array.getElem?_eq_getElem hs,getElem!_pos _ t hs]
  rw[h1,get_flatK _ _ _ _ (by simpa using ht)]
  clear h1
  induction l generalizing t with
  | nil=>simp at ht
  | cons a l ih=>
   rw[List.flatMap_cons]
   by_cases h:t < k
   ·have e1:t/k=0:=Nat.div_eq_of_lt h
    have e2:t%k=t:=Nat.mod_eq_of_lt h
    have e3:(a::l).toArray[0]! =a:=by simp
    rw[e1,e2,e3,List.getElem?_append_left (by rw[hk];exact h),gE (by rw[hk];exact h),getElem!_pos _ t (by rw[hk];exact h)]
   ·rw[List.getElem?_append_right (by rw[hk];omega),hk]
    have e1:t/k=(t - k)/k+1:=by
     rw[← Nat.add_div_right _ h0];congr 1;omega
    have e2:t%k=(t - k)%k:=by
     conv=>lhs;rw[show t=(t - k)+k by omega]
     rw[Nat.add_mod_right]
    have e3:(a::l).toArray[(t - k)/k+1]! =l.toArray[(t - k)/k]! :=by simp[Array.getElem!_eq_getD,Array.getD_eq_getD_getElem?]
    rw[e1,e2,e3]
    have hlen':(l.flatMap enc).length=l.length*k:=by
     rw[List.flatMap_cons,List.length_append,hk,List.length_cons,Nat.succ_mul]at hlen;omega
    exact ih (t - k) hlen' (by rw[List.length_cons,Nat.succ_mul]at ht;omega)
 ·rw[gN (by simpa using ht),gN (by omega)]
theorem xq {α:Type} [Inhabited α] {enc:α→List Value} {k:Nat} {ty:TypeId} (hk:∀ x,(enc x).length=k) (h0:0 < k) {b:Nat} {arr:Array Value} {l:List α} (h3:w.heap[b]? =some (.cells arr ty (0,0))) (hv:arr.toList.take (l.length*k)=l.flatMap enc) (hle:l.length*k≤arr.size):HoldsK enc k w b 0 l.toArray:=fun j hj=>by
 have hj':j < l.length*k:=by simpa using hj
 refine ⟨?_,by simp[World.frozen?,h3]⟩
 simp only[World.cell?,h3,Nat.zero_add]
 have h1:(flatK enc k l.toArray).toList[j]? =some ((flatK enc k l.toArray)[j]!):=by
  rw[Array.getElem?_toList,Array.getElem?_eq_getElem hj,getElem!_pos _ j hj]
 rw[pA hk h0,← hv,List.getElem?_take,if_pos hj',Array.getElem?_toList]at h1
 exact h1
theorem uc {α:Type} [Inhabited α] {enc:α→List Value} {k:Nat} (hk:∀ x,(enc x).length=k) (h0:0 < k) (d:List α) (arr:Array Value) (hle:d.length*k≤arr.size):(putCells id 0 (flatK enc k d.toArray) arr).toList.take (d.flatMap enc).length=d.flatMap enc:=by
 have h:=ln id (flatK enc k d.toArray) arr (by simpa using hle)
 have hs:(flatK enc k d.toArray).size=(d.flatMap enc).length:=by rw[← pA hk h0];simp
 rw[hs,List.map_id,pA hk h0]at h
 exact h
theorem ai5 {l l':List ak} (hs:ado l=some l'):ans 145 [.fn 146 [] []] 147 (l.map bi) (l'.map bi):=by
 unfold ado at hs
 split at hs
 case isFalse=>cases hs
 rename_i hlen
 have hro:dC=140737488355328:=rfl
 obtain rfl:=Option.some.inj hs
 clear hs
 have hp:=(pdq_sorts ltR az8 l.toArray 0 l.length (Lib.bitLen l.length) true true (Nat.zero_le _) (by simp) (Or.inl rfl)).1.1
 have hvs':∀ {w:World} {G:Gh} {vs:List Value},bO w G [.fn 146 [] []] vs→vs=[.func (.func 146) #[] #[]]:=fun {w G vs} hvs=>by
  cases hvs with
  | cons _ v _ vs _ h1 h2=>
   cases h2
   cases h1 with
   | fn _ _ _ us vs k1 k2=>
    have e1:us= #[]:=by
     cases hu:us.toList with
     | nil=>exact Array.toList_inj.1 hu
     | cons u l=>rw[hu]at k1;cases k1
    have e2:vs= #[]:=by
     cases hu:vs.toList with
     | nil=>exact Array.toList_inj.1 hu
     | cons u l=>rw[hu]at k2;cases k2
    rw[e1,e2]
 have hps:(pdq ltR l.toArray 0 l.length (Lib.bitLen l.length) true true).size=l.length:=by simpa using hp
 refine va (c:=2) ⟨Tryz.f145,_,Tryz.func145,rfl,by kernel_rfl⟩ (by kernel_rfl) (by simp;omega) (by simpa using hps) (fun y hy=>by obtain ⟨x,_,rfl⟩:=List.mem_map.1 hy;rfl) ?_ ?_
 ·intro hz w G vs hvs p cap
  rw[hvs' hvs]
  exact AnyF.slices_SortFunc_none ars p cap _ w
 ·intro hz w G vs b cap arr hP hvs h3 hle hcap hrel
  rw[hvs' hvs]
  have hlm:(l.map bi).length=l.length:=by simp
  rw[hlm]at hle hcap hrel ⊢
  have hvals:=aml hrel
  have hH:HoldsK wT 2 w b 0 l.toArray:=xq (k:=2) (fun _=>rfl) (by decide) h3 hvals hle
  have eg:∀ args w,(callFunc 146 args).run Tryz.prog w= .ok (.enter 146 args) w:=enters_of Tryz.func146 (by kernel_rfl) rfl
  have hcon:=AnyQ.slices_SortFunc_eq ars 2 Tryz.isAgg147 Tryz.sizeOf147 wT (fun _=>rfl) (fun x v hv=>by simp[wT]at hv;rcases hv with rfl | rfl <;> rfl) (fun x y=>Lib.compareInt x.Low y.Low) (by rw[axn];exact az8) 146 #[] b 0 cap l.toArray w eg (aiB b 0 _ w) hH (gv h3) (by simp;omega)
  rw[axn,List.size_toArray]at hcon
  change Calls Tryz.prog 145 _ _ _ at hcon
  refine Calls.mono (P:=Tryz.prog) hcon fun e w' ⟨he,n,os,hw⟩=>?_
  generalize pdq ltR l.toArray 0 l.length (Lib.bitLen l.length) true true=d' at hps hw ⊢
  have hheap:w'.heap=(w.heap.modify b (onCells (putCells id 0 (flatK wT 2 d'))))++os:=by rw[hw];rfl
  have hdl:d'.toList.length=l.length:=by simpa using hps
  have hpt:=uc (enc:=wT) (k:=2) (fun _=>rfl) (by decide) d'.toList arr (by rw[hdl];exact hle)
  refine ⟨he,by rw[hw];rfl,by rw[hw];rfl,by rw[hw];rfl,d'.toList.flatMap wT,os,_,arH _,by rw[rj];simp,by simp[putCells],hpt,vC h3 hheap⟩
end Go.Proofs.IR
namespace Go.Proofs.IR
open Go.Shelf Go.RowKit Go.Lib Go.Sort Go.Val
set_option maxRecDepth 100000
variable {w w':World} {G:Gh}
theorem qX:∀ {l:List Int} {vs:List Value},bO w G (bh (l.map eI)) vs→vs=l.map (Value.int .i64)
 | [],vs,h=>by
  have h':bO w G [] vs:=h
  cases h';rfl
 | a::l,vs,h=>by
  have h':bO w G (.int .i64 a::bh (l.map eI)) vs:=h
  cases h' with
  | cons _ v _ vs _ h1 h2=>
   cases h1
   rw[qX h2];rfl
theorem acm:∀ (l:List Int),bO w G (bh (l.map eI)) (l.map (Value.int .i64))
 | []=>.nil
 | a::l=>.cons _ _ _ _ rfl (.int _ _) (acm l)
theorem zK {b:Nat} {arr:Array Value} {ty:TypeId} {l:List Int} (h3:w.heap[b]? =some (.cells arr ty (0,0))) (hv:arr.toList.take l.length=l.map (Value.int .i64)):Go.Sort.Holds (Value.int .i64) w b 0 l.toArray:=fun j hj=>by
 have hj':j < l.length:=by simpa using hj
 refine ⟨?_,by simp[World.frozen?,h3]⟩
 simp only[World.cell?,h3,Nat.zero_add]
 have h1:(arr.toList.take l.length)[j]? =some (Value.int .i64 l[j]):=by rw[hv];simp[hj']
 rw[List.getElem?_take,if_pos hj',Array.getElem?_toList]at h1
 rw[h1]
 simp[hj']
theorem ahG (p:Option Addr) (cap:Nat) (w:World):Calls Tryz.prog 260 #[.slice p 0 cap] w fun e w'=>e= .returned (.tuple #[])∧w'=w:=by
 have hlen:∀ w,Calls Tryz.prog 152 #[.int .u64 0] w fun e w'=>e= .returned (.int .i64 0)∧w'=w:=fun w=>calls_of_every_depth fun D=>AnySG.bits_LenIn { uq with } D 0 w (by omega) (by omega)
 have hpdq:∀ w,Calls Tryz.prog 151 #[.slice p 0 cap,.int .i64 0,.int .i64 0,.int .i64 0] w fun e w'=>e= .returned (.tuple #[])∧w'=w:=fun w=>calls_of_every_depth fun D=>AnySG.pdqsort_int_none_in { uq with } D p cap w
 have e1:∀ args w,(callFunc 152 args).run Tryz.prog w= .ok (.enter 152 args) w:=enters_of Tryz.func152 (by kernel_rfl) rfl
 have e2:∀ args w,(callFunc 151 args).run Tryz.prog w= .ok (.enter 151 args) w:=enters_of Tryz.func151 (by kernel_rfl) rfl
 go_enter Tryz.func260,Tryz.ntmps260
 go_wp2_with (first
  | (go_at_call 152;refine (hlen _).mono ?_;rintro e w' ⟨rfl,rfl⟩)
  | (go_at_call 151;refine (hpdq _).mono ?_;rintro e w' ⟨rfl,rfl⟩))
 go_end0
 exact ⟨rfl,rfl⟩
theorem ah0 (b cap:Nat) (l:List Int) (w:World) (hH:Go.Sort.Holds (Value.int .i64) w b 0 l.toArray) (hb:b < w.heap.size) (hsz:l.length < 4611686018427387904):
  Calls Tryz.prog 260 #[.slice (some ⟨b,0,none⟩) l.length cap] w fun e w'=>e= .returned (.tuple #[])∧∃ n os,w'=grow (putRow (Value.int .i64) (Sort.ahead w n) b 0 (l.mergeSort fun x y=>decide (x≤y)).toArray) os:=by
 have hk:bitsLen l.length≤62:=(bitsLen_le_iff l.length 62).2 (by omega)
 have hdp:=pdqDepth_le_59 ltInt l.toArray 0 l.length (bitsLen l.length) true true (by simp;omega)
 have hlen:∀ w,Calls Tryz.prog 152 #[.int .u64 (l.length:Int)] w fun e w'=>e= .returned (.int .i64 (bitsLen l.length:Nat))∧w'=w:=fun w=>calls_of_every_depth fun D=>lenWalkInAllG { uq with } D l.length w hsz
 have hpdq:Calls Tryz.prog 151 #[.slice (some ⟨b,0,none⟩) l.toArray.size cap,.int .i64 ((0:Nat):Int),.int .i64 (l.length:Int),.int .i64 (bitsLen l.length:Nat)] w fun e w'=>e= .returned (.tuple #[])∧∃ n os,w'=grow (putRow (Value.int .i64) (Sort.ahead w n) b 0 (Sort.pdq ltInt l.toArray 0 l.length (bitsLen l.length) true true)) os:=
  calls_of_every_depth fun D=>pdqWalkInIntG { uq with } D 65 b 0 cap 0 l.length (bitsLen l.length) l.toArray w (by omega) hH hb (Nat.zero_le _) (by simp) (by simpa using hsz) (by omega) (Or.inl rfl)
 have hms:Sort.pdq ltInt l.toArray 0 l.length (bitsLen l.length) true true=(l.mergeSort fun x y=>decide (x≤y)).toArray:=by
  rw[← sort_int_eqDG];unfold Sort.sort;simp
 rw[hms,List.size_toArray]at hpdq
 generalize (l.mergeSort fun x y=>decide (x≤y)).toArray=d at hpdq ⊢
 generalize bitsLen l.length=bl at hlen hpdq hk
 clear hms hdp hH
 have e1:∀ args w,(callFunc 152 args).run Tryz.prog w= .ok (.enter 152 args) w:=enters_of Tryz.func152 (by kernel_rfl) rfl
 have e2:∀ args w,(callFunc 151 args).run Tryz.prog w= .ok (.enter 151 args) w:=enters_of Tryz.func151 (by kernel_rfl) rfl
 go_enter Tryz.func260,Tryz.ntmps260
 go_wp2_with (first
  | (go_at_call 152;refine (hlen _).mono ?_;rintro e w' ⟨rfl,rfl⟩)
  | (go_at_call 151;refine hpdq.mono ?_;rintro e w' ⟨rfl,n,os,rfl⟩))
 go_end0
 exact ⟨rfl,n,os,rfl⟩
theorem aeE {g:FuncId} {l l':List Int} (hs:sZ l=some l') (hE:Val.Enters CT.P g) (hnone:∀ (p:Option Addr) (cap:Nat) (w:World),Calls Tryz.prog g #[.slice p 0 cap] w fun e w'=>e= .returned (.tuple #[])∧w'=w)
  (hsome:∀ (b cap:Nat) (l:List Int) (w:World),Go.Sort.Holds (Value.int .i64) w b 0 l.toArray→b < w.heap.size→l.length < 4611686018427387904→
   Calls Tryz.prog g #[.slice (some ⟨b,0,none⟩) l.length cap] w fun e w'=>e= .returned (.tuple #[])∧∃ n os,w'=grow (putRow (Value.int .i64) (Sort.ahead w n) b 0 (l.mergeSort fun x y=>decide (x≤y)).toArray) os):ans g [] 3 (l.map eI) (l'.map eI):=by
 unfold sZ at hs
 split at hs
 case isFalse=>cases hs
 rename_i hlen
 have hro:dC=140737488355328:=rfl
 have hs':=Option.some.inj hs
 clear hs
 have hlen':l'.length=l.length:=by rw[← hs',List.length_mergeSort]
 have hnil:∀ {w:World} {G:Gh} {vs:List Value},bO w G [] vs→vs=[]:=fun {w G vs} h=>by cases h;rfl
 refine va (c:=1) hE (by kernel_rfl) (by simp;omega) (by simpa using hlen') (fun y hy=>by obtain ⟨x,_,rfl⟩:=List.mem_map.1 hy;rfl) ?_ ?_
 ·intro hz w G vs hvs p cap
  rw[hnil hvs]
  exact hnone p cap w
 ·intro hz w G vs b cap arr hP hvs h3 hle hcap hrel
  rw[hnil hvs]
  have hlm:(l.map eI).length=l.length:=by simp
  rw[hlm]at hle hcap hrel ⊢
  rw[Nat.mul_one]at hle hrel
  have hvals:=qX hrel
  have hcon:=hsome b cap l w (zK h3 hvals) (gv h3) (by omega)
  rw[hs']at hcon
  refine Calls.mono (P:=Tryz.prog) hcon fun e w' ⟨he,n,os,hw⟩=>?_
  have hheap:w'.heap=(w.heap.modify b (onCells (putCells (Value.int .i64) 0 l'.toArray)))++os:=by rw[hw];rfl
  have hpt:=ln (Value.int .i64) l'.toArray arr (by simp;omega)
  refine ⟨he,by rw[hw];rfl,by rw[hw];rfl,by rw[hw];rfl,l'.map (Value.int .i64),os,_,acm _,by simp,by simp[putCells],?_,vC h3 hheap⟩
  simpa using hpt
inductive ald {α β:Type} (R:α→β→Prop):List α→List β→Prop
 | nil:ald R [] []
 | cons {a:α} {b:β} {l:List α} {m:List β}:R a b→ald R l m→ald R (a::l) (b::m)
abbrev V1:={ v:Value // v.oneCell'=true }
instance:Inhabited V1:=⟨⟨.int .i64 0,rfl⟩⟩
def aj6 (x:V1×V1×V1):List Value:=[x.1.1,x.2.1.1,x.2.2.1]
def axd (w:World) (G:Gh) (n:az) (x:V1×V1×V1):Prop:=bO w G (bR n).cells (aj6 x)
theorem yQ:∀ {l:List az} {vs:List Value},bO w G (bh (l.map bR)) vs→∃ xs:List (V1×V1×V1),vs=xs.flatMap aj6∧ald (axd w G) l xs
 | [],vs,h=>by
  have h':bO w G [] vs:=h
  cases h';exact ⟨[],rfl,.nil⟩
 | a::l,vs,h=>by
  have e:bh ((a::l).map bR)= .int .i64 a.Kind:: .int .i64 a.Set:: .sl (a.Kids.map bR)::bh (l.map bR):=by
   show (bR a).cells++bh (l.map bR)=_
   rw[show bR a=bR ⟨a.Kind,a.Set,a.Kids⟩ by cases a;rfl,gY];rfl
  rw[e]at h
  cases h with
  | cons _ v1 _ vs o1 h1 k1=>
   cases k1 with
   | cons _ v2 _ vs o2 h2 k2=>
    cases k2 with
    | cons _ v3 _ vs o3 h3 k3=>
     obtain ⟨xs,rfl,h4⟩:=yQ k3
     refine ⟨(⟨v1,h1.oneV o1⟩,⟨v2,h2.oneV o2⟩,⟨v3,h3.oneV o3⟩)::xs,rfl,.cons ?_ h4⟩
     show bO w G (bR a).cells [v1,v2,v3]
     rw[show bR a=bR ⟨a.Kind,a.Set,a.Kids⟩ by cases a;rfl,gY]
     exact .cons _ _ _ _ o1 h1 (.cons _ _ _ _ o2 h2 (.cons _ _ _ _ o3 h3 .nil))
theorem yh:∀ {a:List ao} {u:List Value} {b:List ao} {v:List Value},bO w G a u→bO w G b v→bO w G (a++b) (u++v)
 | _,_,_,_,.nil,h=>h
 | _,_,_,_,.cons d x ds xs o h1 h2,h=>.cons d x _ _ o h1 (yh h2 h)
theorem tZ:∀ {l:List az} {xs:List (V1×V1×V1)},ald (axd w G) l xs→bO w G (bh (l.map bR)) (xs.flatMap aj6)
 | _,_,.nil=>.nil
 | a::l,x::xs,.cons h1 h2=>by
  rw[List.flatMap_cons]
  show bO w G ((bR a).cells++bh (l.map bR)) _
  exact yh h1 (tZ h2)
theorem an5 {α β:Type} {R:α→β→Prop}:∀ {l:List α} {m:List β},ald R l m→l.length=m.length
 | _,_,.nil=>rfl
 | _,_,.cons _ h=>by simp[an5 h]
theorem ajT {α β:Type} {R:α→β→Prop}:∀ {l:List α} {m:List β} {a:List α} {b:List β},ald R l m→ald R a b→ald R (l++a) (m++b)
 | _,_,_,_,.nil,h=>h
 | _,_,_,_,.cons h1 h2,h=>.cons h1 (ajT h2 h)
theorem anz {α β:Type} {R:α→β→Prop}:∀ {l:List α} {m:List β},ald R l m→ald R l.reverse m.reverse
 | _,_,.nil=>.nil
 | a::l,b::m,.cons h1 h2=>by rw[List.reverse_cons,List.reverse_cons];exact ajT (anz h2) (.cons h1 .nil)
theorem zf:∀ (l:List (V1×V1×V1)),(l.flatMap aj6).length=l.length*3
 | []=>rfl
 | a::l=>by simp only[List.flatMap_cons,List.length_append,zf l,List.length_cons,aj6];simp;omega
theorem anu {l l':List az} (hs:avP l=some l'):ans 86 [] 31 (l.map bR) (l'.map bR):=by
 unfold avP at hs
 split at hs
 case isFalse=>cases hs
 rename_i hlen
 have hro:dC=140737488355328:=rfl
 obtain rfl:=Option.some.inj hs
 have hnil:∀ {w:World} {G:Gh} {vs:List Value},bO w G [] vs→vs=[]:=fun {w G vs} h=>by cases h;rfl
 refine va (c:=3) ⟨Tryz.f86,_,Tryz.func86,rfl,by kernel_rfl⟩ (by kernel_rfl) (by simp;omega) (by simp) (fun y hy=>by
  obtain ⟨x,_,rfl⟩:=List.mem_map.1 hy
  rw[show bR x=bR ⟨x.Kind,x.Set,x.Kids⟩ by cases x;rfl,gY];rfl) ?_ ?_
 ·intro hz w G vs hvs p cap
  rw[hnil hvs]
  exact AnyQ.slices_Reverse_empty awY p cap w
 ·intro hz w G vs b cap arr hP hvs h3 hle hcap hrel
  rw[hnil hvs]
  have hlm:(l.map bR).length=l.length:=by simp
  rw[hlm]at hle hcap hrel ⊢
  obtain ⟨xs,hxs,hfa⟩:=yQ hrel
  have hxl:=an5 hfa
  rw[hxl]at hxs hle ⊢
  have hH:HoldsK aj6 3 w b 0 xs.toArray:=xq (k:=3) (fun _=>rfl) (by decide) h3 hxs hle
  have hcon:=AnyQ.slices_Reverse awY 3 Tryz.isAgg31 Tryz.sizeOf31 aj6 (fun _=>rfl) (fun x v hv=>by
   simp only[aj6,List.mem_cons,List.not_mem_nil,or_false]at hv
   rcases hv with rfl | rfl | rfl
   ·exact x.1.2
   ·exact x.2.1.2
   ·exact x.2.2.2) b 0 cap xs.toArray w hH (by simp;omega)
  rw[List.size_toArray]at hcon
  change Calls Tryz.prog 86 _ _ _ at hcon
  refine Calls.mono (P:=Tryz.prog) hcon fun e w' ⟨he,n,hw⟩=>?_
  have hr:xs.toArray.reverse=xs.reverse.toArray:=by simp
  rw[hr]at hw
  have hheap:w'.heap=(w.heap.modify b (onCells (putCells id 0 (flatK aj6 3 xs.reverse.toArray))))++ #[]:=by rw[hw,Array.append_empty];rfl
  have hpt:=uc (enc:=aj6) (k:=3) (fun _=>rfl) (by decide) xs.reverse arr (by simpa using hle)
  refine ⟨he,by rw[hw];rfl,by rw[hw];rfl,by rw[hw];rfl,xs.reverse.flatMap aj6,#[],_,tZ (anz hfa),by rw[zf];simp[hxl],by simp[putCells],hpt,vC h3 hheap⟩
theorem axj:∀ g ds k zs ys,CT.ext g ds k zs=some ys→ans g ds k zs ys:=by
 intro g ds k zs ys he
 have he':al0 g ds k zs=some ys:=he
 unfold al0 at he'
 split at he'
 ·rename_i hc
  obtain ⟨rfl,rfl,rfl⟩:=hc
  obtain ⟨l,l',rfl,hs,rfl⟩:=pV he'
  exact ai5 hs
 ·split at he'
  ·rename_i hc
   obtain ⟨hg,rfl,rfl⟩:=hc
   obtain ⟨l,l',rfl,hs,rfl⟩:=pV he'
   rcases hg with rfl | rfl
   ·exact aeE hs ⟨Tryz.f83,_,Tryz.func83,rfl,by kernel_rfl⟩ (fun p cap w=>AnyG.slices_Sort_int_none uq p cap w) (fun b cap l w h1 h2 h3=>calls_of_every_depth fun D=>AnySG.slices_Sort_int_in uq D b 0 cap l w h1 h2 h3)
   ·exact aeE hs ⟨Tryz.f260,_,Tryz.func260,rfl,by kernel_rfl⟩ ahG ah0
  ·split at he'
   ·rename_i hc
    obtain ⟨rfl,rfl,rfl⟩:=hc
    obtain ⟨l,l',rfl,hs,rfl⟩:=pV he'
    exact anu hs
   ·cases he'
end Go.Proofs.IR
namespace Go.Proofs.IR
open Go.Shelf Go.RowKit Go.Lib Go.Sort Go.Val
set_option maxRecDepth 100000
theorem rJ (l:List Int):(Lib.compact l).length≤l.length:=by
 unfold Lib.compact Lib.compactUpTo
 rw[List.length_map]
 exact Nat.le_trans (List.length_filter_le _ _) (by simp)
theorem abp {w:World} {G:Gh} {h:ax} {v:Value} {l u:List Int} {f:FuncId} {args:Array Value} (hlen:l.length≤dC) (hul:u.length≤l.length) (hrow:bS w G (.slot 0) 3 (l.map eI) v) (hP:G.P=CT.P) (hh:my w G h)
  (hnone:∀ (p:Option Addr) (cap:Nat),l=[]→v= .slice p 0 cap→Calls Tryz.prog f args w fun e w'=>e= .returned v∧w'=w)
  (hsome:∀ (b cap:Nat) (arr:Array Value),l≠[]→v= .slice (some ⟨b,0,none⟩) l.length cap→G.g b= .slot 0→w.heap[b]? =some (.cells arr 3 (0,0))→l.length≤arr.size→Go.Sort.Holds (Value.int .i64) w b 0 l.toArray→l.length≤cap→
   Calls Tryz.prog f args w fun e w'=>e= .returned (.slice (some ⟨b,0,none⟩) u.length cap)∧∃ q,w'=putRow (Value.int .i64) (Sort.ahead w q) b 0 (u++List.replicate (l.length - u.length) 0).toArray):
  Calls Tryz.prog f args w fun e w'=>∃ v',e= .returned v'∧bS w' G (.slot 0) 3 (u.map eI) v'∧my w' G h∧Kept w G w' G∧w'.heap.size=w.heap.size:=by
 by_cases hl:l=[]
 ·obtain ⟨p,cap,hv⟩:∃ p cap,v= .slice p 0 cap:=by
   rcases hrow with ⟨_,a,e⟩ | ⟨b,cap,arr,e,_⟩
   ·exact ⟨a,0,e⟩
   ·rw[hl]at e;exact ⟨_,cap,e⟩
  refine (hnone p cap hl hv).mono fun e w' ⟨h1,h2⟩=>?_
  subst h2
  have hu:u=[]:=List.length_eq_zero_iff.1 (by have:l.length=0:=(by rw[hl];rfl);omega)
  refine ⟨v,h1,?_,hh,Kept.refl _ _,rfl⟩
  rw[hu]
  rw[hl]at hrow
  exact hrow
 rcases hrow with ⟨h0,_⟩ | ⟨b,cap,arr,rfl,h2,h3,h4,h5,h6,h7,h8⟩
 ·exact absurd (List.map_eq_nil_iff.1 h0) hl
 have hcell:G.P.cellsOf 3=1:=by rw[hP];kernel_rfl
 rw[hcell]at h4 h7 h8
 have hlm:(l.map eI).length=l.length:=by simp
 rw[hlm,Nat.mul_one]at h8
 rw[hlm]at h5
 have hvals:=qX h8
 refine (hsome b cap arr hl (by rw[hlm]) h2 h3 (by omega) (zK h3 hvals) h5).mono fun e w' ⟨he,q,hw⟩=>?_
 generalize hz:u++List.replicate (l.length - u.length) 0=z at hw
 have hzl:z.length=l.length:=by rw[← hz];simp;omega
 have hheap:w'.heap=w.heap.modify b (onCells (putCells (Value.int .i64) 0 z.toArray)):=by rw[hw];rfl
 have hnew:w'.heap[b]? =some (.cells (putCells (Value.int .i64) 0 z.toArray arr) 3 (0,0)):=by
  rw[hheap,Array.getElem?_modify,if_pos rfl,h3];rfl
 have W:mX w G b w' G:=⟨by rw[hw];rfl,by rw[hw];rfl,by rw[hw];rfl,by rw[hheap];simp,fun k hk=>by rw[hheap,Array.getElem?_modify,if_neg (Ne.symm hk)],⟨(by rw[h2];intro e;cases e),(by rw[h2];intro e;cases e)⟩,fun _ _=>rfl,rfl,fun _=>rfl,rfl⟩
 refine ⟨_,he,?_,⟨hh.n,fun m o ho=>⟨(hh.obj m o ho).1,W.obj (hh.obj m o ho).2 (by rw[h2];intro e;cases e) (fun j=>by rw[h2];intro e;cases e)⟩⟩,W.kept,W.size⟩
 refine .inr ⟨b,cap,_,by simp,h2,hnew,by rw[hcell];simp[putCells,h4],by simp;omega,h6,fun x hx=>?_,?_⟩
 ·rw[hcell]
  obtain ⟨y,_,rfl⟩:=List.mem_map.1 hx
  rfl
 ·have e:(putCells (Value.int .i64) 0 z.toArray arr).toList.take ((u.map eI).length*G.P.cellsOf 3)=u.map (Value.int .i64):=by
   rw[hcell,Nat.mul_one]
   have hpt:=ln (Value.int .i64) z.toArray arr (by simp;omega)
   rw[List.size_toArray]at hpt
   have h9:((putCells (Value.int .i64) 0 z.toArray arr).toList.take z.length).take u.length=(z.map (Value.int .i64)).take u.length:=by rw[hpt]
   have hz2:z.take u.length=u:=by rw[← hz];simp
   rw[List.take_take,Nat.min_eq_left (by omega),← List.map_take,hz2]at h9
   simpa using h9
  rw[e]
  exact acm _
theorem anp {w w':World} {G:Gh} {h:ax} {u:List Int} {v':Value} {e:Ending} (hf:∀ b,w.heap.size≤b→G.g b= .other) (he:e= .returned v') (hr:bS w' G (.slot 0) 3 (u.map eI) v') (hh:my w' G h) (hk:Kept w G w' G) (hs:w'.heap.size=w.heap.size):
  ∃ us out h' G',e= .returned (om us)∧(out=[.cv (.val (.sl (List.map eI u)))]∧h'=h)∧di w' G' out us∧my w' G' h'∧(∀ b,w'.heap.size≤b→G'.g b= .other)∧Kept w G w' G':=by
 refine ⟨[v'],_,h,G.re (.slot 0) .imm,he,⟨rfl,rfl⟩,.cons _ _ _ _ (hr.fixed (by intro e;cases e)) .nil,hh.re (by intro e;cases e) (by intro l e;cases e) (by intro l i e;cases e),fun b hb=>?_,hk.trans (me w' G (by intro e;cases e) (by intro e;cases e))⟩
 have:=hf b (by omega)
 simp only[Gh.re,this];rfl
theorem ax4 {w w':World} {G:Gh} {h:ax} {u:List Int} {v':Value} {e:Ending} (hf:∀ b,w.heap.size≤b→G.g b= .other) (he:e= .returned v') (hr:bS w' G (.slot 0) 3 (u.map eI) v') (hh:my w' G h) (hk:Kept w G w' G) (hs:w'.heap.size=w.heap.size):
  ∃ us out h' G',e= .returned (om us)∧(out=[.cv (.row 3 (List.map eI u))]∧h'=h)∧di w' G' out us∧my w' G' h'∧(∀ b,w'.heap.size≤b→G'.g b= .other)∧Kept w G w' G':=by
 refine ⟨[v'],_,h,G.re (.slot 0) .ret,he,⟨rfl,rfl⟩,.cons _ _ _ _ (bS.retag hr (by intro e;cases e)) .nil,hh.re (by intro e;cases e) (by intro l e;cases e) (by intro l i e;cases e),fun b hb=>?_,hk.trans (me w' G (by intro e;cases e) (by intro e;cases e))⟩
 have:=hf b (by omega)
 simp only[Gh.re,this];rfl
theorem akJ {w:World} {G:Gh} {l:List Int} {vs:List Value} (ha:cX w G .slot 0 [.cv (.row 3 (List.map eI l))] vs):∃ v,vs=[v]∧bS w G (.slot 0) 3 (l.map eI) v:=by
 cases ha with
 | cons _ c v _ vs h1 h2=>cases h2;exact ⟨v,rfl,h1⟩
theorem wh {l u:List Int} {h:ax} (e:cF l=some u):eG Tryz.prog 84 [.cv (.row 3 (List.map eI l))] h fun o h'=>o=[.cv (.val (.sl (List.map eI u)))]∧h'=h:=by
 unfold cF at e
 split at e
 case isFalse=>cases e
 rename_i hlen
 obtain rfl:=Option.some.inj e
 have hro:dC=140737488355328:=rfl
 refine ⟨⟨Tryz.f84,_,Tryz.func84,rfl,by kernel_rfl⟩,fun w G vs hP ha hh hf=>?_⟩
 obtain ⟨v,rfl,hrow⟩:=akJ ha
 refine (abp (f:=84) (args:=#[v]) hlen (rJ l) hrow hP hh (fun p cap _ hv=>by
  rw[hv];exact AnyG.slices_Compact_int_empty zE p cap w) (fun b cap arr _ hv _ _ _ hH hc=>by
  rw[hv];exact AnyG.slices_Compact_int zE b 0 cap l w hH (by omega) hc)).mono fun e w' ⟨v',he,hr,hh',hk,hs⟩=>anp hf he hr hh' hk hs
theorem tF {l u:List Int} {h:ax} (e:ch l=some u):eG Tryz.prog 261 [.cv (.row 3 (List.map eI l))] h fun o h'=>o=[.cv (.row 3 (List.map eI u))]∧h'=h:=by
 unfold ch at e
 split at e
 case isFalse=>cases e
 rename_i hlen
 obtain rfl:=Option.some.inj e
 have hro:dC=140737488355328:=rfl
 refine ⟨⟨Tryz.f261,_,Tryz.func261,rfl,by kernel_rfl⟩,fun w G vs hP ha hh hf=>?_⟩
 obtain ⟨v,rfl,hrow⟩:=akJ ha
 refine (abp (f:=261) (args:=#[v]) hlen (rJ l) hrow hP hh (fun p cap _ hv=>by
  rw[hv];exact AnyG.slices_Compact_int_empty yL p cap w) (fun b cap arr _ hv _ _ _ hH hc=>by
  rw[hv];exact AnyG.slices_Compact_int yL b 0 cap l w hH (by omega) hc)).mono fun e w' ⟨v',he,hr,hh',hk,hs⟩=>ax4 hf he hr hh' hk hs
end Go.Proofs.IR
namespace Go.Proofs.IR
open Go.Shelf Go.RowKit Go.Lib Go.Sort Go.Val
set_option maxRecDepth 100000
set_option maxHeartbeats 1000000 in
theorem afD (W:World) (bp bq bs os:Nat) (ns cs:Nat) (sg i s:Int) (h1:W.cell? ⟨bp,0,none⟩=some (.int .u64 sg)) (h2:W.cell? ⟨bq,1,none⟩=some (.slice (some ⟨bs,os,none⟩) ns cs)) (hi:1≤i) (hi2:i≤(ns:Int)) (h3:W.cell? ⟨bs,os+(i.toNat - 1),none⟩=some (.int .i64 s)) (hs:0≤s) (hb:i≤1000000):
  Calls Tryz.prog 224 #[.int .i64 i,.pointer (some ⟨bp,0,none⟩),.pointer (some ⟨bq,0,none⟩)] W fun e w'=>e= .returned (.bool (!qh sg s))∧∃ q,w'=W.drewN q:=by
 have hw:IntKind.i64.wrap (i - 1)=i - 1:=by rw[IntKind.wrap_i64];omega
 have hlt:i - 1 < (ns:Int):=by omega
 have h0:0≤i - 1:=by omega
 have mixed:Tryz.prog.follows .mixedOrders=true:=by kernel_rfl
 go_enter Tryz.func224,Tryz.ntmps224
 go_wp2
 go_quiet (fail)
 go_wp2
 go_ret
 refine ⟨?_,_,rfl⟩
 have:(bits BinOp.and IntKind.u64 (sg/2^min s.toNat 64) 1==0)= !qh sg s:=by
  unfold qh ayI shR bits
  rw[Bool.not_not]
  have e:sg.fdiv (2^min s.toNat IntKind.u64.bits)=sg/2^min s.toNat 64:=by
   rw[Int.fdiv_eq_ediv_of_nonneg _ (by exact Int.pow_nonneg (by decide))];rfl
  rw[e]
 rw[this];rfl
structure Seen (w:World) (b:Nat) (bp bq bs os ns cs:Nat) (sg:Int) (S:List Int):Prop where
 p:bp < w.heap.size∧bp≠b∧w.cell? ⟨bp,0,none⟩=some (.int .u64 sg)
 q:bq < w.heap.size∧bq≠b∧w.cell? ⟨bq,1,none⟩=some (.slice (some ⟨bs,os,none⟩) ns cs)
 s:bs < w.heap.size∧bs≠b∧∀ k,(hk:k < S.length)→w.cell? ⟨bs,os+k,none⟩=some (.int .i64 S[k])
 len:ns=S.length
def aom (S:List Int) (i:Int):Prop:=(1≤i∧i≤1000000)∧i≤(S.length:Int)∧0≤S.getD (i - 1).toNat 0
def jm (sg:Int) (S:List Int) (i:Int):Bool:=qh sg (S.getD (i - 1).toNat 0)
theorem uS {w W:World} {b bp bq bs os ns cs:Nat} {sg:Int} {S:List Int} (h:Seen w b bp bq bs os ns cs sg S) (hW:∀ k,k < w.heap.size→k≠b→W.heap[k]? =w.heap[k]?) {i:Int} (hi:aom S i):
  Calls Tryz.prog 224 #[.int .i64 i,.pointer (some ⟨bp,0,none⟩),.pointer (some ⟨bq,0,none⟩)] W fun e w'=>e= .returned (.bool (!jm sg S i))∧∃ q,w'=W.drewN q:=by
 have hc:∀ (a:Addr),a.block < w.heap.size→a.block≠b→W.cell? a=w.cell? a:=fun a h1 h2=>kF (hW _ h1 h2)
 obtain ⟨⟨h1,hb⟩,h2,h3⟩:=hi
 have hk:i.toNat - 1 < S.length:=by omega
 have he:(i - 1).toNat=i.toNat - 1:=by omega
 have hg:S.getD (i - 1).toNat 0=S[i.toNat - 1]:=by rw[he,gD,gE hk];rfl
 have:=afD W bp bq bs os ns cs sg i (S.getD (i - 1).toNat 0) ((hc _ h.p.1 h.p.2.1).trans h.p.2.2) ((hc _ h.q.1 h.q.2.1).trans h.q.2.2) h1 (by rw[h.len];exact h2) (by rw[hc _ h.s.1 h.s.2.1,h.s.2.2 _ hk,hg]) h3 hb
 exact this
end Go.Proofs.IR
namespace Go.Proofs.IR
open Go.Shelf Go.RowKit Go.Lib Go.Sort Go.Val
abbrev Pl (S:List Int):={ i:Int // aom S i }
theorem qS (eq:Int→Bool):∀ (l:List Int) (i:Nat),(Lib.idxByFrom (fun _ y=>eq y) (default:Int) l i= -1∧∀ j,j < l.length→eq l[j]! =false)∨∃ k,k < l.length∧Lib.idxByFrom (fun _ y=>eq y) (default:Int) l i=((i+k:Nat):Int)∧eq l[k]! =true∧∀ j,j < k→eq l[j]! =false:=fun l i=>idxByFrom_spec (fun _ y=>eq y) default l i
theorem arx {S:List Int} [Inhabited (Pl S)] (p:Int→Bool):∀ (zs:List (Pl S)) (i:Nat) (d:Pl S),Lib.idxByFrom (fun _ y=>p y.1) d zs i=Lib.idxByFrom (fun _ y=>p y) (default:Int) (zs.map fun z=>z.1) i
 | [],_,_=>rfl
 | z::zs,i,d=>by rw[List.map_cons,Lib.idxByFrom,Lib.idxByFrom,arx p zs (i+1)]
theorem agp {w:World} {b bp bq bs os ns cs:Nat} {sg:Int} {S:List Int} (h:Seen w b bp bq bs os ns cs sg S) {cap:Nat} {l:List Int} (hl:l≠[]) (hd:∀ i∈l,aom S i) (hH:Go.Sort.Holds (Value.int .i64) w b 0 l.toArray) (hsz:l.length≤140737488355328):
  Calls Tryz.prog 262 #[.slice (some ⟨b,0,none⟩) l.length cap,.func (.func 224) #[] #[.pointer (some ⟨bp,0,none⟩),.pointer (some ⟨bq,0,none⟩)]] w fun e w'=>e= .returned (.int .i64 (Lib.idxByFrom (fun _ y=>!jm sg S y) (default:Int) l 0))∧∃ q,w'=w.drewN q:=by
 obtain ⟨zs,hzs⟩:∃ zs:List (Pl S),zs.map (fun z=>z.1)=l:=⟨l.attachWith _ hd,by simp⟩
 have hz0:zs≠[]:=fun e=>hl (by rw[← hzs,e];rfl)
 haveI:Inhabited (Pl S):=⟨zs.head hz0⟩
 have hzl:zs.length=l.length:=by rw[← hzs];simp
 have eg:∀ args w,(callFunc 224 args).run Tryz.prog w= .ok (.enter 224 args) w:=enters_of Tryz.func224 (by kernel_rfl) rfl
 have hp:PredAt Tryz.prog 224 #[.pointer (some ⟨bp,0,none⟩),.pointer (some ⟨bq,0,none⟩)] (fun z:Pl S=>Value.int .i64 z.1) (fun z=>!jm sg S z.1) w:=fun W x hb=>
  uS h (fun k hk _=>hb.block k hk) x.2
 have hcl:∀ j,j < zs.length→w.cell? ⟨b,0+j,none⟩=some (Value.int .i64 (zs[j]!).1):=fun j hj=>by
  have hj':j < l.length:=by omega
  have h1:=(hH j (by simpa using hj')).1
  rw[h1]
  have:l[j]? =some (zs[j]!).1:=by
   rw[← hzs,List.getElem?_map,List.getElem!_eq_getElem?_getD,gE hj];rfl
  simp[this]
 have hcon:=AnyE.slices_IndexFunc { av8 with } (fun z:Pl S=>Value.int .i64 z.1) (fun z=>!jm sg S z.1) 224 #[.pointer (some ⟨bp,0,none⟩),.pointer (some ⟨bq,0,none⟩)] eg b 0 l.length cap zs w hp (by omega) (by omega) hcl
 have hidx:Lib.idxBy (fun _ y=>!jm sg S y.1) (zs.take l.length) (default:Pl S)=Lib.idxByFrom (fun _ y=>!jm sg S y) (default:Int) l 0:=by
  rw[List.take_of_length_le (by omega),Lib.idxBy,arx (fun i=>!jm sg S i),hzs]
 rw[hidx]at hcon
 exact hcon
set_option maxHeartbeats 4000000 in
set_option maxRecDepth 1000000 in
theorem alF {w:World} {b bp bq bs os ns cs:Nat} {sg:Int} {S:List Int} (h:Seen w b bp bq bs os ns cs sg S) {cap:Nat} {l:List Int} (hl:l≠[]) (hd:∀ i∈l,aom S i) (hH:Go.Sort.Holds (Value.int .i64) w b 0 l.toArray) (hsz:l.length≤140737488355328) (hcap:l.length≤cap):
  Calls Tryz.prog 225 #[.slice (some ⟨b,0,none⟩) l.length cap,.func (.func 224) #[] #[.pointer (some ⟨bp,0,none⟩),.pointer (some ⟨bq,0,none⟩)]] w fun e w'=>e= .returned (.slice (some ⟨b,0,none⟩) (l.filter (jm sg S)).length cap)∧
   ∃ q,w'=putRow (Value.int .i64) (Sort.ahead w q) b 0 (l.filter (jm sg S)++List.replicate (l.length - (l.filter (jm sg S)).length) 0).toArray:=by
 have hIF:=agp h (cap:=cap) hl hd hH hsz
 obtain ⟨d,HD⟩:∃ d:Array Int,Hid (d=l.toArray):=⟨_,rfl⟩
 have hds:l.length=d.size:=by rw[HD.out];simp
 obtain ⟨kp,HK⟩:∃ kp:Nat→Bool,Hid (kp=fun j=>jm sg S d[j]!):=⟨_,rfl⟩
 have hfil:l.filter (jm sg S)=keptUpTo kp d d.size:=by rw[HK.out,keptUpTo_filter (jm sg S) d,HD.out]
 have tl:∀ j,j < d.size→l[j]! =d[j]! :=fun j hj=>by rw[HD.out];simp[Array.getElem!_eq_getD,Array.getD_eq_getD_getElem?,List.getElem!_eq_getElem?_getD]
 have hdd:∀ j,j < d.size→aom S d[j]! :=fun j hj=>by
  rw[← tl j hj,List.getElem!_eq_getElem?_getD,gE (by omega)]
  exact hd _ (gM _)
 rw[← HD.out]at hH
 rw[hfil,hds]
 have eg:∀ args w,(callFunc 224 args).run Tryz.prog w= .ok (.enter 224 args) w:=enters_of Tryz.func224 (by kernel_rfl) rfl
 have ei:∀ args w,(callFunc 262 args).run Tryz.prog w= .ok (.enter 262 args) w:=enters_of Tryz.func262 (by kernel_rfl) rfl
 have mixed:Tryz.prog.follows .mixedOrders=true:=by kernel_rfl
 rcases qS (fun i=>!jm sg S i) l 0 with ⟨e1,hall⟩ | ⟨k0,hk0,e1,ht,hall⟩
 ·rw[e1,hds]at hIF
  have hkeep:∀ j,j < d.size→kp j=true:=fun j hj=>by
   have:=hall j (by omega)
   rw[HK.out];show jm sg S d[j]! =true;rw[← tl j hj];simpa using this
  have e3:keptUpTo kp d d.size=d.toList:=by rw[keptUpTo_all kp d _ hkeep,range_map_get]
  have HH:Aside (Go.Sort.Holds (Value.int .i64) w b 0 d):=hH
  clear hH hall h hdd
  go_enter Tryz.func225,Tryz.ntmps225
  go_wp2_with (go_at_call 262;refine hIF.mono ?_;rintro e w' ⟨rfl,q0,rfl⟩)
  go_ret
  rw[e3]
  refine ⟨by simp,q0,?_⟩
  simp only[Array.length_toList,Nat.sub_self,List.replicate_zero,List.append_nil,Array.toArray_toList]
  exact (putRow_self _ (Sort.ahead w q0) b 0 d (holds_ahead _ w q0 b 0 d HH.out)).symm
 ·have hk0':k0 < d.size:=by omega
  rw[e1,hds,Nat.zero_add]at hIF
  have hkeep:∀ j,j < k0→kp j=true:=fun j hj=>by
   have:=hall j hj
   rw[HK.out];show jm sg S d[j]! =true;rw[← tl j (by omega)];simpa using this
  have hdrop:kp k0=false:=by rw[HK.out];show jm sg S d[k0]! =false;rw[← tl k0 hk0'];simpa using ht
  have hne1:((k0:Int)== -1)=false:=beq_eq_false_iff_ne.2 (by omega)
  have hcallAt:∀ (dk:Array Int) (u:Int) (q:Nat),aom S u→Calls Tryz.prog 224 #[.int .i64 u,.pointer (some ⟨bp,0,none⟩),.pointer (some ⟨bq,0,none⟩)] (putRow (Value.int .i64) (Sort.ahead w q) b 0 dk) fun e w'=>e= .returned (.bool (!jm sg S u))∧∃ qq,w'=(putRow (Value.int .i64) (Sort.ahead w q) b 0 dk).drewN qq:=fun dk u q hu=>
   uS h (fun k hk hne=>by
    show (w.heap.modify b (onCells (putCells (Value.int .i64) 0 dk)))[k]? =_
    rw[Array.getElem?_modify,if_neg (Ne.symm hne)]) hu
  have HC:Aside _:=hcallAt
  have HH:Aside (Go.Sort.Holds (Value.int .i64) w b 0 d):=hH
  have HE:Aside _:=hdd
  clear hcallAt h hH hall ht e1 tl hdd hd
  go_enter Tryz.func225,Tryz.ntmps225
  go_wp2_with (go_at_call 262;refine hIF.mono ?_;rintro e w' ⟨rfl,q0,rfl⟩)
  go_loopw [5,6,7] (fun s5 s6 _ wr=>∃ (i j q:Nat) (dk:Array Int),s5= .int .i64 i∧s6= .int .i64 j∧j≤d.size∧wr=putRow (Value.int .i64) (Sort.ahead w q) b 0 dk∧Aside (KeptInv kp d j i dk)) (fun _ s6 _ _=>d.size - (intOf s6).toNat)
  case atStart=>exact ⟨k0,k0+1,q0,d,rfl,by simp,by omega,(putRow_self _ (Sort.ahead w q0) b 0 d (holds_ahead _ w q0 b 0 d HH.out)).symm,KeptInv.start hkeep hdrop⟩
  case round=>
   obtain ⟨i,j,q,dk,rfl,rfl,hjd,hwr,I2⟩:=hrel
   have hI:=I2.out
   have hij:=hI.lt
   have hdz:=hI.size
   have hHk:Go.Sort.Holds (Value.int .i64) wr b 0 dk:=by rw[hwr];exact holds_putRow _ _ b 0 d dk (holds_ahead _ w q b 0 d HH.out) hdz
   have W2:Aside (wr=putRow (Value.int .i64) (Sort.ahead w q) b 0 dk):=hwr
   by_cases hlt:j < d.size
   ·have hltz:(j:Int) < (d.size:Int):=by omega
    obtain ⟨cj,_⟩:=hHk j (by omega)
    obtain ⟨ci,fi⟩:=hHk i (by omega)
    rw[hI.high j (by omega)]at cj
    rw[Nat.zero_add]at ci cj fi
    have hcall:=HC.out dk d[j]! q (HE.out j hlt)
    rw[← hwr]at hcall
    clear hHk hI hwr
    generalize hu:d[j]! =u at cj hcall
    generalize dk[i]! =old at ci
    have C:Aside (d[j]! =u):=hu
    clear hu
    have hj1:IntKind.i64.wrap ((j:Int)+1)=(j:Int)+1:=by rw[IntKind.wrap_i64];omega
    have hi1:IntKind.i64.wrap ((i:Int)+1)=(i:Int)+1:=by rw[IntKind.wrap_i64];omega
    cases hq:jm sg S u with
    | true=>
     rw[hq]at hcall
     go_wp2_with (go_at_call 224;refine hcall.mono ?_;rintro e w' ⟨rfl,qq,rfl⟩)
     refine ⟨⟨i+1,j+1,q+qq,dk.setIfInBounds i u,by simp,by simp,by omega,?_,(show Aside _ from ?_)⟩,by simp[intOf];omega⟩
     ·rw[W2.out,show (putRow (Value.int .i64) (Sort.ahead w q) b 0 dk).drewN qq=putRow (Value.int .i64) (Sort.ahead w (q+qq)) b 0 dk from putRow_drewN _ _ _ _ _ _ _]
      have:=putRow_set (Value.int .i64) (Sort.ahead w (q+qq)) b 0 dk i u (by omega)
      rw[Nat.zero_add]at this
      exact this
     ·have:=I2.out.keep hlt (by rw[HK.out];show jm sg S d[j]! =true;rw[C.out,hq])
      rwa[C.out]at this
    | false=>
     rw[hq]at hcall
     go_wp2_with (go_at_call 224;refine hcall.mono ?_;rintro e w' ⟨rfl,qq,rfl⟩)
     exact ⟨⟨i,j+1,q+qq,dk,rfl,by simp,by omega,by rw[W2.out];exact putRow_drewN _ _ _ _ _ _ _,I2.out.skip (by rw[HK.out];show jm sg S d[j]! =false;rw[C.out,hq])⟩,by simp[intOf];omega⟩
   ·obtain rfl:j=d.size:=by omega
    have hltz:¬ (d.size:Int) < (d.size:Int):=by omega
    have hcl:∀ ty,(Builtin.clear_ #[228] ty #[.slice (some ⟨b,i,none⟩) (d.size - i) (cap - i)]).run Tryz.prog wr= .ok (.tuple #[]) (wr.setCells b i (List.replicate (d.size - i) (.int .i64 0))):=
     fun ty=>Lib.run_clear_slice wr _ _ ty _ Tryz.underlying228 Tryz.zeroValue3 rfl rfl b i _ _ (by omega) (fun t ht=>by
      have:=(hHk (i+t) (by omega)).1
      rw[Nat.zero_add]at this
      rw[this];rfl) (fun t ht=>by
      have:=(hHk (i+t) (by omega)).2
      rwa[Nat.zero_add]at this)
    clear hHk hI hwr
    go_wp2
    go_ret
    have hI:=I2.out
    refine ⟨by rw[hI.len];rfl,q,?_⟩
    have hp:=putRow_setCells (Value.int .i64) (Sort.ahead w q) b 0 (List.replicate (d.size - i) (0:Int)) dk i (by simp;omega)
    rw[Nat.zero_add,List.map_replicate]at hp
    rw[hI.len,← hI.done (0:Int),← hp,← W2.out]
end Go.Proofs.IR
namespace Go.Proofs.IR
open Go.Shelf Go.RowKit Go.Lib Go.Sort Go.Val
set_option maxRecDepth 100000
theorem auR {w:World} {G:Gh} {v:Value} {p q:Nat} (h:cC w G (.fn 224 [] [.ptr (some (p,0)),.ptr (some (q,0))]) v):v= .func (.func 224) #[] #[.pointer (some ⟨G.ι p,0,none⟩),.pointer (some ⟨G.ι q,0,none⟩)]:=by
 cases h with
 | fn _ _ _ us vs k1 k2=>
  have e1:us= #[]:=by
   cases hu:us.toList with
   | nil=>exact Array.toList_inj.1 hu
   | cons u l=>rw[hu]at k1;cases k1
  have e2:vs= #[.pointer (some ⟨G.ι p,0,none⟩),.pointer (some ⟨G.ι q,0,none⟩)]:=by
   apply Array.toList_inj.1
   generalize vs.toList=ws at k2
   cases k2 with
   | cons _ _ _ _ _ p1 p2=>
    cases p2 with
    | cons _ _ _ _ _ q1 q2=>cases q2;cases p1;cases q1;rfl
  rw[e1,e2]
theorem aej {w:World} {G:Gh} {h:ax} (hh:my w G h) {l i:Nat} {cs:List CV} {c:CV} (ho:h.at_ l=some (.cells cs)) (hc:cs[i]? =some c):G.g (G.ι l)= .box l∧G.ι l < w.heap.size∧∃ v,w.cell? ⟨G.ι l,i,none⟩=some v∧dv w G (.cell l i) c v:=by
 obtain ⟨_,hbx,arr,ty,fr,hheap,_,hbl,hbc⟩:=hh.obj l _ ho
 have hi:i < cs.length:=(List.getElem?_eq_some_iff.1 hc).1
 have hia:i < arr.toList.length:=by rw[hbl];exact hi
 have hv:arr.toList[i]? =some (arr.toList[i]):=gE hia
 refine ⟨hbx,gv hheap,arr.toList[i],?_,(hbc i c _ hc hv).1⟩
 simp only[World.cell?,hheap]
 rw[← Array.getElem?_toList];exact hv
theorem ints_at {w:World} {G:Gh} {S:List Int} {v:Value} (h:cC w G (.sl (S.map eI)) v) (hS:S≠[]):∃ bs os cs,v= .slice (some ⟨bs,os,none⟩) S.length cs∧G.g bs= .imm∧bs < w.heap.size∧∀ k,(hk:k < S.length)→w.cell? ⟨bs,os+k,none⟩=some (.int .i64 S[k]):=by
 generalize hd:ao.sl (S.map eI)=d at h
 cases h with
 | nilsl a cap=>
  have:S=[]:=by simpa using hd
  exact absurd this hS
 | sl xs ad cap k vs hne hcap hg hb hsp hk hr hc=>
  obtain rfl:S.map eI=xs:=by simpa using hd
  have hvs:=qX hr
  obtain ⟨blk,off,sp⟩:=ad
  simp only at hsp
  subst hsp
  refine ⟨blk,off,cap,by simp,hg,hb,fun k hk=>?_⟩
  have:=hc k (.int .i64 S[k]) (by rw[hvs];simp[hk])
  rw[← this]
  congr 1
  by_cases h0:k=0
  ·rw[h0];simp only[Addr.add,if_true];rfl
  ·simp only[Addr.add,h0,if_false]
 | _=>cases hd
theorem ajZ (p:Option Addr) (cap:Nat) (lb:Array Value) (w:World):Calls Tryz.prog 225 #[.slice p 0 cap,.func (.func 224) #[] lb] w fun e w'=>e= .returned (.slice p 0 cap)∧w'=w:=by
 have hIF:Calls Tryz.prog 262 #[.slice p 0 cap,.func (.func 224) #[] lb] w fun e w'=>e= .returned (.int .i64 (-1))∧w'=w:=AnyE.slices_IndexFunc_empty { av8 with } p cap _ w
 have ei:∀ args w,(callFunc 262 args).run Tryz.prog w= .ok (.enter 262 args) w:=enters_of Tryz.func262 (by kernel_rfl) rfl
 have mixed:Tryz.prog.follows .mixedOrders=true:=by kernel_rfl
 go_enter Tryz.func225,Tryz.ntmps225
 go_wp2_with (go_at_call 262;refine hIF.mono ?_;rintro e w' ⟨rfl,rfl⟩)
 go_ret
 exact ⟨rfl,rfl⟩
theorem amV {A:cu} {i:Int}:anj A i=true↔aom A.Sets i:=by
 unfold anj aom
 simp only[Bool.and_eq_true,decide_eq_true_eq]
 constructor
 ·rintro ⟨⟨h1,h2⟩,h3⟩;exact ⟨h1,h2,h3⟩
 ·rintro ⟨h1,h2,h3⟩;exact ⟨⟨h1,h2⟩,h3⟩
theorem yD {l u:List Int} {sg:Int} {A:cu} {p q:Nat} {h:ax} (hp:h.at_ p=some (.cells [.val (.int .u64 sg)])) (hq:h.at_ q=some (.cells (ajk (am2 A).cells))) (e:bW l sg A=some u):
  eG Tryz.prog 225 [.cv (.row 3 (List.map eI l)),.cv (.val (.fn 224 [] [.ptr (some (p,0)),.ptr (some (q,0))]))] h fun o h'=>o=[.cv (.val (.sl (List.map eI u)))]∧h'=h:=by
 unfold bW at e
 split at e
 case isFalse=>cases e
 rename_i hc
 obtain ⟨hlen,hall⟩:=hc
 obtain rfl:=Option.some.inj e
 have hro:dC=140737488355328:=rfl
 have hdel:∀ i∈l,aom A.Sets i:=fun i hi=>amV.1 (List.all_eq_true.1 hall i hi)
 refine ⟨⟨Tryz.f225,_,Tryz.func225,rfl,by kernel_rfl⟩,fun w G vs hP ha hh hf=>?_⟩
 obtain ⟨v,vf,rfl,hrow,hvf⟩:∃ v vf,vs=[v,vf]∧bS w G (.slot 0) 3 (l.map eI) v∧cC w G (.fn 224 [] [.ptr (some (p,0)),.ptr (some (q,0))]) vf:=by
  cases ha with
  | cons _ c v _ vs h1 h2=>
   cases h2 with
   | cons _ c2 v2 _ vs2 h3 h4=>cases h4;exact ⟨v,v2,rfl,h1,h3⟩
 obtain rfl:=auR hvf
 have hu:(l.filter (jm sg A.Sets)).length≤l.length:=List.length_filter_le _ _
 refine (abp (u:=l.filter (jm sg A.Sets)) (f:=225) (args:=#[v,.func (.func 224) #[] #[.pointer (some ⟨G.ι p,0,none⟩),.pointer (some ⟨G.ι q,0,none⟩)]]) hlen hu hrow hP hh (fun pp cap hl hv=>?_) (fun b cap arr hl hv hg h3 _ hH hcap=>?_)).mono fun e w' ⟨v',he,hr,hh',hk,hs⟩=>anp hf he hr hh' hk hs
 ·rw[hv]
  exact ajZ pp cap _ w
 ·rw[hv]
  obtain ⟨a1,a2,v1,a3,a4⟩:=aej hh hp (i:=0) rfl
  obtain ⟨b1,b2,v2,b3,b4⟩:=aej hh hq (i:=1) (c:=.val (.sl (List.map eI A.Sets))) rfl
  have hS:A.Sets≠[]:=fun e=>by
   obtain ⟨x,hx⟩:=List.exists_mem_of_ne_nil _ hl
   have:=hdel x hx
   unfold aom at this
   rw[e]at this
   simp at this
   omega
  obtain ⟨bs,os,cs,c1,c2,c3,c4⟩:=ints_at b4 hS
  have a4':cC w G (.int .u64 sg) v1:=a4
  cases a4'
  rw[c1]at b3
  have hne:∀ k,G.g k≠ .slot 0→k≠b:=fun k hk e=>hk (by rw[e];exact hg)
  exact alF (S:=A.Sets) ⟨⟨a2,hne _ (by rw[a1];intro e;cases e),a3⟩,⟨b2,hne _ (by rw[b1];intro e;cases e),b3⟩,⟨c3,hne _ (by rw[c2];intro e;cases e),c4⟩,rfl⟩ hl hdel hH (by omega) hcap
theorem tM {g:FuncId} {n:Int} {h:ax} (hE:Val.Enters CT.P g) (h0:0≤n) (h1:n≤17592186044416)
  (hroom:∀ (base:Option Addr) (w:World),Calls Tryz.prog g #[.slice base 0 0,.int .i64 0] w fun e w'=>e= .returned (.slice base 0 0)∧w'=w)
  (hgrow:∀ (base:Option Addr) (m:Nat) (w:World),0 < m→m≤17592186044416→Calls Tryz.prog g #[.slice base 0 0,.int .i64 (m:Int)] w fun e w'=>∃ ce:Array Value,e= .returned (.slice (some ⟨w.heap.size,0,none⟩) 0 ce.size)∧ce.size≤maxLen∧w'=w.drew.alloc (.cells ce 3)):
  eG Tryz.prog g [.cv .nil,.cv (.val (.int .i64 n))] h fun o h'=>o=[.cv (.row 3 [])]∧h'=h:=by
 refine ⟨hE,fun w G vs hP ha hh hf=>?_⟩
 obtain ⟨a,rfl⟩:∃ a,vs=[.slice a 0 0,.int .i64 n]:=by
  cases ha with
  | cons _ c v _ vs h1 h2=>
   cases h2 with
   | cons _ c2 v2 _ vs2 h3 h4=>
    cases h4
    obtain ⟨a,rfl⟩:∃ a,v= .slice a 0 0:=h1
    have h3':cC w G (.int .i64 n) v2:=h3
    cases h3'
    exact ⟨a,rfl⟩
 by_cases hn:n=0
 ·subst hn
  refine (hroom a w).mono fun e w' ⟨he,hw⟩=>?_
  subst hw
  exact ⟨[_],_,h,G,he,⟨rfl,rfl⟩,.cons _ _ _ _ (.inl ⟨rfl,a,rfl⟩) .nil,hh,hf,Kept.refl _ _⟩
 ·obtain ⟨m,rfl⟩:∃ m:Nat,n=(m:Int):=⟨n.toNat,by omega⟩
  refine (hgrow a m w (by omega) (by omega)).mono fun e w' ⟨ce,he,hcap,hw⟩=>?_
  have hgr:=uE (lk (w:=w.drew) (G:=G) hf (.cells ce 3) .ret)
  rw[← hw]at hgr
  refine ⟨[_],_,h,G.set w.drew.heap.size .ret,he,⟨rfl,rfl⟩,.cons _ _ _ _ (.inr ⟨w.heap.size,ce.size,ce,rfl,by simp only[Gh.set];exact if_pos rfl,?_,?_,Nat.zero_le _,hcap,fun x hx=>(by cases hx),?_⟩) .nil,hgr.heapH rfl hh,hgr.fresh,hgr.kept⟩
  ·rw[hw]
   exact Array.getElem?_push_size
  ·show ce.size=ce.size*(G.set w.drew.heap.size .ret).P.cellsOf 3
   have hcell:G.P.cellsOf 3=1:=by rw[hP];kernel_rfl
   show ce.size=ce.size*G.P.cellsOf 3
   rw[hcell,Nat.mul_one]
  ·simp only[List.length_nil,Nat.zero_mul,List.take_zero]
   exact .nil
theorem af8 (base:Option Addr) (w:World):Calls Tryz.prog 226 #[.slice base 0 0,.int .i64 0] w fun e w'=>e= .returned (.slice base 0 0)∧w'=w:=
 Any8.slices_Grow_room arA base 0 0 0 w (by omega) (by omega) (by omega) (by omega)
theorem agF (base:Option Addr) (w:World):Calls Tryz.prog 273 #[.slice base 0 0,.int .i64 0] w fun e w'=>e= .returned (.slice base 0 0)∧w'=w:=
 Any8.slices_Grow_room arS base 0 0 0 w (by omega) (by omega) (by omega) (by omega)
theorem mM (w:World) (m c:Nat) (hc:m≤c):(#[]++Builtin.zeroCells (Value.int .i64 0).cells (m - 0)++Builtin.zeroCells (Value.int .i64 0).cells (c - m):Array Value).size=c:=by
 have h:∀ n,(Builtin.zeroCells (Value.int .i64 0).cells n).size=n:=fun n=>by simp[Builtin.zeroCells,Value.cells]
 rw[Array.size_append,Array.size_append,h,h];simp;omega
theorem agS (base:Option Addr) (m:Nat) (w:World) (h0:0 < m) (h1:m≤17592186044416):Calls Tryz.prog 226 #[.slice base 0 0,.int .i64 (m:Int)] w fun e w'=>∃ ce:Array Value,e= .returned (.slice (some ⟨w.heap.size,0,none⟩) 0 ce.size)∧ce.size≤maxLen∧w'=w.drew.alloc (.cells ce 3):=by
 have hi:∃ i0,Tryz.prog.info? 3=some i0∧i0.zero=some (.int .i64 0)∧i0.size=1∧i0.bytes=8:=⟨Tryz.t3,by kernel_rfl,by kernel_rfl,by kernel_rfl,by kernel_rfl⟩
 obtain ⟨i0,a1,a2,a3,a4⟩:=hi
 have hcon:=Any8.slices_Grow_grow arA i0 (.int .i64 0) a1 a2 (by omega) base 0 0 m [] w (by omega) (by omega) (by rw[a4];omega) (by omega) (by rw[a3];rfl) (fun _=>rfl) (fun _ _ j v h=>by simp at h)
 rw[Nat.zero_add]at hcon
 refine Calls.mono hcon fun e w' ⟨he,hw⟩=>⟨_,?_,?_,hw⟩
 ·rw[he]
  congr 2
  exact (mM w m _ (grownCap_ge w m 0 3)).symm
 ·have:=mM w m _ (grownCap_ge w m 0 3)
  show (#[]++Builtin.zeroCells (Value.int .i64 0).cells (m - 0)++Builtin.zeroCells (Value.int .i64 0).cells (grownCap w m 0 3 - m):Array Value).size≤maxLen
  rw[this]
  exact grownCap_le_maxLen w m 0 3 (by simp only[maxLen];omega)
theorem ahM (base:Option Addr) (m:Nat) (w:World) (h0:0 < m) (h1:m≤17592186044416):Calls Tryz.prog 273 #[.slice base 0 0,.int .i64 (m:Int)] w fun e w'=>∃ ce:Array Value,e= .returned (.slice (some ⟨w.heap.size,0,none⟩) 0 ce.size)∧ce.size≤maxLen∧w'=w.drew.alloc (.cells ce 3):=by
 have hi:∃ i0,Tryz.prog.info? 3=some i0∧i0.zero=some (.int .i64 0)∧i0.size=1∧i0.bytes=8:=⟨Tryz.t3,by kernel_rfl,by kernel_rfl,by kernel_rfl,by kernel_rfl⟩
 obtain ⟨i0,a1,a2,a3,a4⟩:=hi
 have hcon:=Any8.slices_Grow_grow arS i0 (.int .i64 0) a1 a2 (by omega) base 0 0 m [] w (by omega) (by omega) (by rw[a4];omega) (by omega) (by rw[a3];rfl) (fun _=>rfl) (fun _ _ j v h=>by simp at h)
 rw[Nat.zero_add]at hcon
 refine Calls.mono hcon fun e w' ⟨he,hw⟩=>⟨_,?_,?_,hw⟩
 ·rw[he]
  congr 2
  exact (mM w m _ (grownCap_ge w m 0 3)).symm
 ·have:=mM w m _ (grownCap_ge w m 0 3)
  show (#[]++Builtin.zeroCells (Value.int .i64 0).cells (m - 0)++Builtin.zeroCells (Value.int .i64 0).cells (grownCap w m 0 3 - m):Array Value).size≤maxLen
  rw[this]
  exact grownCap_le_maxLen w m 0 3 (by simp only[maxLen];omega)
theorem acJ {n:Int} {h:ax} (h0:0≤n) (h1:n≤17592186044416):eG Tryz.prog 226 [.cv .nil,.cv (.val (.int .i64 n))] h fun o h'=>o=[.cv (.row 3 [])]∧h'=h:=
 tM ⟨Tryz.f226,_,Tryz.func226,rfl,by kernel_rfl⟩ h0 h1 af8 agS
theorem aaX {n:Int} {h:ax} (h0:0≤n) (h1:n≤17592186044416):eG Tryz.prog 273 [.cv .nil,.cv (.val (.int .i64 n))] h fun o h'=>o=[.cv (.row 3 [])]∧h'=h:=
 tM ⟨Tryz.f273,_,Tryz.func273,rfl,by kernel_rfl⟩ h0 h1 agF ahM
end Go.Proofs.IR
namespace Go.Proofs.IR
open Go.Shelf Go.RowKit Go.Lib Go.Sort Go.Val
set_option maxRecDepth 100000
section
variable {w w':World} {G:Gh}
def Gh.fresh (G:Gh) (n m:Nat):Gh:=⟨G.P,fun b=>if n≤b∧b < m then .imm else G.g b,G.ι,G.n⟩
theorem tk (hb:Below w.heap.size w w') (hf:∀ b,w.heap.size≤b→G.g b= .other):iq w G w' (Gh.fresh G w.heap.size w'.heap.size) where
 os:=hb.os
 tape:=hb.tape
 output:=hb.output
 size:=hb.size
 heap:=hb.block
 g b h:=by simp only[Gh.fresh];rw[if_neg (by omega)]
 fresh b h:=by simp only[Gh.fresh];rw[if_neg (by omega)];exact hf b (Nat.le_trans hb.size h)
 n:=Nat.le_refl _
 ι _ _:=rfl
 P:=rfl
theorem ao1 {b:List UInt8} {v:Value} (h:cC w G (.sl (b.map eU)) v):∃ p cap b0 off,v= .slice p b.length cap∧(b≠[]→p=some ⟨b0,off,none⟩)∧(b≠[]→b0 < w.heap.size)∧∀ j (hj:j < b.length),w.cell? ⟨b0,off+j,none⟩=some (.int .u8 (b[j].toNat:Int)):=by
 generalize hd:ao.sl (b.map eU)=d at h
 cases h with
 | nilsl a cap=>
  have:b=[]:=by simpa using hd
  subst this
  exact ⟨a,cap,0,0,rfl,fun h=>absurd rfl h,fun h=>absurd rfl h,fun j hj=>by simp at hj⟩
 | sl xs ad cap k vs hne hcap hg hb hs hk hr hc=>
  obtain rfl:b.map eU=xs:=by simpa using hd
  have hvs:vs=b.map fun c=>Value.int .u8 (c.toNat:Int):=by
   clear hk hc hcap hne hd
   induction b generalizing vs with
   | nil=>cases hr;rfl
   | cons c b ih=>
    have h':bO w G (.int .u8 (c.toNat:Int)::bh (b.map eU)) vs:=hr
    cases h' with
    | cons _ u _ us _ h1 h2=>cases h1;rw[ih us h2];rfl
  refine ⟨some ad,cap,ad.block,ad.off,by simp,fun _=>by cases ad;simp_all,fun _=>hb,fun j hj=>?_⟩
  have:=hc j (.int .u8 (b[j].toNat:Int)) (by rw[hvs];simp[hj])
  rw[← this]
  congr 1
  cases ad
  simp only at hs
  subst hs
  by_cases hj0:j=0
  ·subst hj0;rfl
  ·simp[Addr.add,hj0]
 | _=>cases hd
end
def lg (w:World) (p:Option Addr) (zs:List UInt8):Prop:=zs≠[]→∃ b off,p=some ⟨b,off,none⟩∧b < w.heap.size∧∀ j (hj:j < zs.length),w.cell? ⟨b,off+j,none⟩=some (.int .u8 (zs[j].toNat:Int))
theorem strOf (zs:List UInt8):strOfNums (zs.map fun c=>(c.toNat:Int))=⟨zs.toArray⟩:=by
 unfold strOfNums
 congr 2
 rw[List.map_map]
 have:((fun n:Int=>UInt8.ofNat n.toNat)∘fun c:UInt8=>(c.toNat:Int))=id:=by funext c;simp
 rw[this,List.map_id]
theorem anP {w:World} {p:Option Addr} {zs:List UInt8} (h:lg w p zs) (cap:Nat):(convert 47 9 (.slice p zs.length cap)).run Tryz.prog w= .ok (.string ⟨zs.toArray⟩) w:=by
 by_cases hz:zs=[]
 ·subst hz
  cases p with
  | none=>exact run_convert_bytes_nil w 47 5 Tryz.underlying47 Tryz.underlying5 0 cap 9 Tryz.underlying9
  | some a=>
   have hl:(loadCells a 0).run Tryz.prog w= .ok (([]:List Int).map (Value.int .u8)).toArray w:=by
    simpa using run_loadCells_list (P:=Tryz.prog) w a [] (fun j v hj=>by simp at hj)
   show (convert 47 9 (.slice (some a) 0 cap)).run Tryz.prog w=_
   rw[run_convert_bytes_string w 47 9 5 _ 0 cap Tryz.underlying47 Tryz.underlying5 Tryz.underlying9,run_bytesToString w a 0 cap [] hl]
   rfl
 ·obtain ⟨b,off,rfl,hb,hc⟩:=h hz
  rw[← strOf zs]
  exact run_convert_bytes_arg w 47 5 Tryz.underlying47 Tryz.underlying5 b off zs.length cap (zs.map fun c=>(c.toNat:Int)) (by simp) (fun i hi=>by
   rw[hc i hi]
   simp[gD,gE hi]) 9 Tryz.underlying9
theorem lg.below {w w':World} {p:Option Addr} {zs:List UInt8} (h:lg w p zs) (hb:Below w.heap.size w w'):lg w' p zs:=fun hz=>by
 obtain ⟨b,off,h1,h2,h3⟩:=h hz
 exact ⟨b,off,h1,Nat.lt_of_lt_of_le h2 hb.size,fun j hj=>(hb.cell (p:=⟨b,off+j,none⟩) h2).trans (h3 j hj)⟩
theorem lg.drewN {w:World} {p:Option Addr} {zs:List UInt8} (h:lg w p zs) (m:Nat):lg (w.drewN m) p zs:=fun hz=>by
 obtain ⟨b,off,h1,h2,h3⟩:=h hz
 exact ⟨b,off,h1,h2,fun j hj=>h3 j hj⟩
theorem tj {n:Nat} {A B:World} (h:RowKit.Below n A B) (m:Nat):RowKit.Below n A (B.drewN m):=by
 cases h;constructor <;> assumption
theorem apn (bt bF capF cap:Nat) (p:Option Addr) (F b:List UInt8) (n:Nat) (hn:F.length=n*256) (hF:F.length≤1048576) (hb:b.length≤1048576) (w:World) (hbt:bt < w.heap.size)
  (pF:Option Addr) (hcell:w.cell? ⟨bt,0,none⟩=some (.slice pF F.length capF)) (hcap:F.length≤capF) (hpF:F≠[]→pF=some ⟨bF,0,none⟩) (hbF:F≠[]→bF < w.heap.size)
  (hcF:∀ j (hj:j < F.length),w.cell? ⟨bF,j,none⟩=some (.int .u8 (F[j].toNat:Int))) (hB:lg w p b):
  Calls Tryz.prog 197 #[.pointer (some ⟨bt,0,none⟩),.slice p b.length cap] w fun e w'=>e= .returned (.int .i64 (mJ F b n 0))∧Below w.heap.size w w':=by
 have mixed:Tryz.prog.follows .mixedOrders=true:=by kernel_rfl
 go_enter Tryz.func197,Tryz.ntmps197
 go_wp2
 go_loopw [5] (fun v5 wr=>∃ k:Nat,k≤n∧v5= .int .i64 k∧Below w.heap.size w wr∧mJ F b n 0=mJ F b (n - k) k) (fun v5 _=>n - (intOf v5).toNat)
 case atStart=>exact ⟨0,Nat.zero_le _,rfl,Below.refl _ _,rfl⟩
 case round=>
  obtain ⟨k,hk,rfl,hbel,hfind⟩:=hrel
  have c0:=(hbel.cell (p:=⟨bt,0,none⟩) hbt).trans hcell
  by_cases hlt:k < n
  ·have hne:F≠[]:=by intro e;rw[e]at hn;simp at hn;omega
   obtain rfl:=hpF hne
   have hFb:=hbF hne
   have h1:((k:Int)*256)≤((k:Int)+1)*256:=by omega
   have hlc:((k:Int)+1)*256≤(capF:Int):=by omega
   have hw1:IntKind.i64.wrap ((k:Int)*256)=(k:Int)*256:=by rw[IntKind.wrap_i64];omega
   have hw2:IntKind.i64.wrap ((k:Int)+1)=(k:Int)+1:=by rw[IntKind.wrap_i64];omega
   have hw3:IntKind.i64.wrap (((k:Int)+1)*256)=((k:Int)+1)*256:=by rw[IntKind.wrap_i64];omega
   have h0:0≤(k:Int)*256:=by omega
   have h2:0≤((k:Int)+1)*256:=by omega
   have hc1:lg wr (some ⟨bF,k*256,none⟩) ((F.drop (k*256)).take 256):=fun hz=>⟨bF,k*256,rfl,Nat.lt_of_lt_of_le hFb hbel.size,fun j hj=>by
    have hj2:j < 256:=by rw[List.length_take]at hj;omega
    have hj3:k*256+j < F.length:=by omega
    have:=(hbel.cell (p:=⟨bF,k*256+j,none⟩) hFb).trans (hcF (k*256+j) hj3)
    rw[this]
    simp[List.getElem_take,List.getElem_drop]⟩
   have hlen:((F.drop (k*256)).take 256).length=256:=by rw[List.length_take,List.length_drop];omega
   have cv1:∀ m,(convert 47 9 (.slice (some ⟨bF,k*256,none⟩) 256 (capF - k*256))).run Tryz.prog (wr.drewN m)= .ok (.string ⟨((F.drop (k*256)).take 256).toArray⟩) (wr.drewN m):=fun m=>by
    have:=anP (hc1.drewN m) (capF - k*256)
    rw[hlen]at this
    exact this
   have cv2:∀ m,(convert 47 9 (.slice p b.length cap)).run Tryz.prog (wr.drewN m)= .ok (.string ⟨b.toArray⟩) (wr.drewN m):=fun m=>anP ((hB.below hbel).drewN m) cap
   have h3:(k:Int)*256≤max (((k:Int)+1)*256) 0:=by omega
   have e1:((k:Int)*256).toNat=k*256:=by omega
   have e2:(((k:Int)+1)*256).toNat=k*256+256:=by omega
   have hne2:¬ capF=k*256:=by omega
   go_wp2
   go_quiet (fail)
   have hfk:mJ F b (n - k) k=if (F.drop (k*256)).take 256=b then (k:Int)else mJ F b (n - (k+1)) (k+1):=by
    rw[show n - k=(n - (k+1))+1 by omega];rfl
   by_cases hq:(F.drop (k*256)).take 256=b
   ·have hqb:((F.drop (k*256)).take 256==b)=true:=by simpa using hq
    rw[hqb]
    rw[if_pos hq]at hfk
    clear cv1 cv2 hc1 hcF
    go_wp2
    go_ret
    exact ⟨by rw[hfind,hfk];rfl,tj hbel _⟩
   ·have hqb:((F.drop (k*256)).take 256==b)=false:=by simpa using hq
    rw[hqb]
    rw[if_neg hq]at hfk
    clear cv1 cv2 hc1 hcF
    go_wp2
    exact ⟨⟨k+1,by omega,by simp,tj hbel _,by rw[hfind,hfk]⟩,by simp[intOf];omega⟩
  ·obtain rfl:k=n:=by omega
   go_wp2
   go_ret
   refine ⟨?_,hbel⟩
   rw[hfind,Nat.sub_self];rfl
theorem aqu {w:World} {G:Gh} {t:Nat→Tag} {d1 d2:ao} {vs:List Value} (h:cX w G t 0 [.cv (.val d1),.cv (.val d2)] vs):∃ v1 v2,vs=[v1,v2]∧cC w G d1 v1∧cC w G d2 v2:=by
 cases h with
 | cons _ c v _ vs h1 h2=>
  cases h2 with
  | cons _ c2 v2 _ vs2 h3 h4=>cases h4;exact ⟨v,v2,rfl,h1,h3⟩
theorem ahz {w:World} {G:Gh} {t:Tag} {F:List UInt8} {v:Value} (h:bS w G t 5 (F.map eU) v) (hP:G.P=Tryz.prog):∃ p cap b,v= .slice p F.length cap∧F.length≤cap∧(F≠[]→p=some ⟨b,0,none⟩)∧(F≠[]→b < w.heap.size)∧∀ j (hj:j < F.length),w.cell? ⟨b,j,none⟩=some (.int .u8 (F[j].toNat:Int)):=by
 rcases h with ⟨h0,a,rfl⟩ | ⟨b,cap,arr,rfl,h2,h3,h4,h5,h6,h7,h8⟩
 ·have:F=[]:=List.map_eq_nil_iff.1 h0
  subst this
  exact ⟨a,0,0,rfl,Nat.le_refl _,fun h=>absurd rfl h,fun h=>absurd rfl h,fun j hj=>by simp at hj⟩
 ·have hcell:G.P.cellsOf 5=1:=by rw[hP];kernel_rfl
  rw[hcell]at h4 h8
  have hlm:(F.map eU).length=F.length:=by simp
  rw[hlm]at h5 h8 ⊢
  rw[Nat.mul_one]at h8
  refine ⟨some ⟨b,0,none⟩,cap,b,rfl,h5,fun _=>rfl,fun _=>(Array.getElem?_eq_some_iff.1 h3).1,fun j hj=>?_⟩
  have hvals:∀ (l:List UInt8) (us:List Value),bO w G (bh (l.map eU)) us→us=l.map fun c=>Value.int .u8 (c.toNat:Int):=by
   intro l
   induction l with
   | nil=>intro us h;cases h;rfl
   | cons c l ih=>
    intro us h
    have h':bO w G (.int .u8 (c.toNat:Int)::bh (l.map eU)) us:=h
    cases h' with
    | cons _ u _ us _ h1 h2=>cases h1;rw[ih us h2];rfl
  have hv:=hvals F _ h8
  have hg:arr[j]? =some (Value.int .u8 (F[j].toNat:Int)):=by
   have:(arr.toList.take F.length)[j]? =some (Value.int .u8 (F[j].toNat:Int)):=by rw[hv];simp[hj]
   rw[List.getElem?_take,if_pos hj]at this
   simpa using this
  simp only[World.cell?,h3]
  exact hg
theorem aco {l:Nat} {t:gB} {b:List UInt8} {r:Int} {h:ax} (ho:h.at_ l=some (.cells [.row 5 (List.map eU t.First),.row 3 (List.map eI t.Like)])) (e:eR t b=some r):
  eG Tryz.prog 197 [.cv (.val (.ptr (some (l,0)))),.cv (.val (.sl (List.map eU b)))] h fun o h'=>o=[.cv (.val (.int .i64 r))]∧h'=h:=by
 unfold eR at e
 split at e
 case isFalse=>cases e
 rename_i hc
 obtain rfl:=Option.some.inj e
 refine ⟨⟨Tryz.f197,_,Tryz.func197,rfl,by kernel_rfl⟩,fun w G vs hP ha hh hf=>?_⟩
 obtain ⟨v1,v2,rfl,hv1,hv2⟩:=aqu ha
 obtain ⟨hl,hobj⟩:=hh.obj l _ ho
 cases hv1 with
 | ptr _ _ hn=>
  obtain ⟨hg,arr,et,fr,harr,hfr,hbl,hbox⟩:=hobj
  have hsz:arr.toList.length=2:=hbl
  have ha0:arr.toList[0]? =some (arr.toList[0]'(by omega)):=gE (by omega)
  obtain ⟨hrow,_⟩:=hbox 0 _ _ rfl ha0
  obtain ⟨pF,capF,bF,hv,hcap,hpF,hbF,hcF⟩:=ahz hrow hP
  obtain ⟨p,cap,b0,off,rfl,hp,hb0,hcb⟩:=ao1 hv2
  have hbt:G.ι l < w.heap.size:=(Array.getElem?_eq_some_iff.1 harr).1
  have hcell:w.cell? ⟨G.ι l,0,none⟩=some (.slice pF t.First.length capF):=by
   simp only[World.cell?,harr]
   rw[hv,Array.getElem?_toList]at ha0
   exact ha0
  have hpl:=apn (G.ι l) bF capF cap p t.First b (t.First.length/256) (by omega) hc.2.1 hc.2.2 w hbt pF hcell hcap hpF hbF hcF (fun hz=>⟨b0,off,hp hz,hb0 hz,hcb⟩)
  refine hpl.mono fun e w' ⟨he,hbel⟩=>?_
  have hgr:=tk (G:=G) hbel hf
  exact ⟨[.int .i64 (mJ t.First b (t.First.length/256) 0)],_,h,Gh.fresh G w.heap.size w'.heap.size,he,⟨rfl,rfl⟩,.cons _ _ _ _ (.int _ _) .nil,hgr.heapH rfl hh,hgr.fresh,hgr.kept⟩
end Go.Proofs.IR
namespace Go.Proofs.IR
open Go.RowKit Go.Shelf Go.Val
set_option maxRecDepth 100000
def wD:Go.Shelf.Ren:=⟨fun | 166=>136 | 240=>201 | 276=>244 | 169=>138 | n=>n,fun | 0=>0 | 3=>3 | 4=>4 | 9=>9 | 20=>20 | 37=>47 | 70=>207 | 72=>209 | 75=>211 | 80=>215 | 164=>299 | 5=>5 | 127=>271 | n=>n,fun | n=>n⟩
theorem aoW:Lays.n166 Tryz.prog wD:={
 mixed:=by kernel_rfl
 f166:=Tryz.func136.trans (congrArg some (by kernel_rfl))
 f240:=Tryz.func201.trans (congrArg some (by kernel_rfl))
 f276:=Tryz.func244.trans (congrArg some (by kernel_rfl))
 t0:=Tryz.underlying0
 a0:=Tryz.isAgg0
 z0:=Tryz.sizeOf0
 v0:=Tryz.zeroValue0
 t3:=Tryz.underlying3
 a3:=Tryz.isAgg3
 z3:=Tryz.sizeOf3
 v3:=Tryz.zeroValue3
 t4:=Tryz.underlying4
 a4:=Tryz.isAgg4
 z4:=Tryz.sizeOf4
 v4:=Tryz.zeroValue4
 t9:=Tryz.underlying9
 a9:=Tryz.isAgg9
 z9:=Tryz.sizeOf9
 v9:=Tryz.zeroValue9
 t20:=Tryz.underlying20
 a20:=Tryz.isAgg20
 z20:=Tryz.sizeOf20
 v20:=Tryz.zeroValue20
 t37:=Tryz.underlying47
 a37:=Tryz.isAgg47
 z37:=Tryz.sizeOf47
 v37:=Tryz.zeroValue47
 t70:=Tryz.underlying207
 a70:=Tryz.isAgg207
 z70:=Tryz.sizeOf207
 v70:=Tryz.zeroValue207
 t72:=Tryz.underlying209
 a72:=Tryz.isAgg209
 z72:=Tryz.sizeOf209
 v72:=Tryz.zeroValue209
 t75:=Tryz.underlying211
 a75:=Tryz.isAgg211
 z75:=Tryz.sizeOf211
 v75:=Tryz.zeroValue211
 t164:=Tryz.underlying299
 a164:=Tryz.isAgg299
 z164:=Tryz.sizeOf299
 v164:=Tryz.zeroValue299 }
theorem aqk:Lays.n169 Tryz.prog wD:={
 mixed:=by kernel_rfl
 f169:=Tryz.func138.trans (congrArg some (by kernel_rfl))
 t0:=Tryz.underlying0
 a0:=Tryz.isAgg0
 z0:=Tryz.sizeOf0
 v0:=Tryz.zeroValue0
 t3:=Tryz.underlying3
 a3:=Tryz.isAgg3
 z3:=Tryz.sizeOf3
 v3:=Tryz.zeroValue3
 t9:=Tryz.underlying9
 a9:=Tryz.isAgg9
 z9:=Tryz.sizeOf9
 v9:=Tryz.zeroValue9
 t37:=Tryz.underlying47
 a37:=Tryz.isAgg47
 z37:=Tryz.sizeOf47
 v37:=Tryz.zeroValue47
 t70:=Tryz.underlying207
 a70:=Tryz.isAgg207
 z70:=Tryz.sizeOf207
 v70:=Tryz.zeroValue207
 t72:=Tryz.underlying209
 a72:=Tryz.isAgg209
 z72:=Tryz.sizeOf209
 v72:=Tryz.zeroValue209
 t127:=Tryz.underlying271
 a127:=Tryz.isAgg271
 z127:=Tryz.sizeOf271
 v127:=Tryz.zeroValue271 }
theorem atK:Builder.X72 Tryz.prog wD:=⟨by kernel_rfl,by kernel_rfl⟩
theorem zr:Builder.Extra Tryz.prog wD:={ toX72:=atK,t5:=Tryz.underlying5,a5:=Tryz.isAgg5,z5:=Tryz.sizeOf5,v5:=Tryz.zeroValue5,infoByte:=by kernel_rfl,cellsByte:=by kernel_rfl,sizeByte:=by kernel_rfl,neB5:=by decide }
theorem vM {n:Nat} (h:n < 16):nv n=[if n < 10 then UInt8.ofNat (48+n)else UInt8.ofNat (55+n)]:=by rw[nv,dif_pos h]
theorem anW {n:Nat} (h:¬ n < 16):nv n=nv (n/16)++nv (n%16):=by rw[nv,dif_neg h]
theorem oM:∀ (k n:Nat),n < 16^(k+1)→(nv n).length≤k+1
 | k,n,h=>by
  induction k generalizing n with
  | zero=>rw[vM (by simpa using h)];simp
  | succ k ih=>
   by_cases hn:n < 16
   ·rw[vM hn];simp
   ·rw[anW hn,List.length_append,vM (Nat.mod_lt _ (by decide))]
    have:=ih (n/16) (by rw[Nat.pow_succ]at h;omega)
    simp only[List.length_cons,List.length_nil];omega
end Go.Proofs.IR
namespace Go.Proofs.IR
open Go.RowKit Go.Shelf Go.Val
set_option maxRecDepth 100000
theorem aun (w:World) (n:Nat) (h:n < 16):Calls Tryz.prog 137 #[.int .i64 (n:Int)] w fun e w'=>e= .returned (.string ⟨(nv n).toArray⟩)∧w'=w:=by
 rw[vM h]
 have:n=0∨n=1∨n=2∨n=3∨n=4∨n=5∨n=6∨n=7∨n=8∨n=9∨n=10∨n=11∨n=12∨n=13∨n=14∨n=15:=by omega
 rcases this with rfl | rfl | rfl | rfl | rfl | rfl | rfl | rfl | rfl | rfl | rfl | rfl | rfl | rfl | rfl | rfl
 all_goals
  go_enter Tryz.func137,Tryz.ntmps137
  go_wp2
 all_goals go_ret
 all_goals exact ⟨rfl,rfl⟩
theorem axt (w:World) (n:Nat) (hn:n≤1114111):Calls Tryz.prog 137 #[.int .i64 (n:Int)] w fun e w'=>e= .returned (.string ⟨(nv n).toArray⟩)∧w'=w:=by
 induction n using Nat.strongRecOn with
 | _ n ih=>
  by_cases h:n < 16
  ·exact aun w n h
  ·have i1:Calls Tryz.prog 137 #[.int .i64 ((n:Int)/16)] w fun e w'=>e= .returned (.string ⟨(nv (n/16)).toArray⟩)∧w'=w:=by simpa using ih (n/16) (by omega) (by omega)
   have i2:Calls Tryz.prog 137 #[.int .i64 ((n:Int)%16)] w fun e w'=>e= .returned (.string ⟨(nv (n%16)).toArray⟩)∧w'=w:=by simpa using ih (n%16) (by omega) (by omega)
   have l1:=oM 5 (n/16) (by omega)
   have l2:=oM 5 (n%16) (by omega)
   rw[anW h]
   clear ih
   generalize nv (n/16)=s1 at*
   generalize nv (n%16)=s2 at*
   go_enter Tryz.func137,Tryz.ntmps137
   have h':¬ (n:Int) < 16:=by omega
   go_wp2_with (first | (go_at_call 137;refine i1.mono ?_;clear i1;rintro e w' ⟨rfl,rfl⟩) | (go_at_call 137;refine i2.mono ?_;clear i2;rintro e w' ⟨rfl,rfl⟩))
   go_ret
   exact ⟨rfl,rfl⟩
end Go.Proofs.IR
namespace Go.Proofs.IR
open Go.RowKit Go.Shelf Go.Val
set_option maxRecDepth 100000
theorem zm (w:World) (o:Obj):(w.alloc o).heap[w.heap.size]? =some o:=Array.getElem?_push_size
theorem avd {w:World} {G:Gh} {t:Nat→Tag} {d:ao} {vs:List Value} (h:cX w G t 0 [.cv (.val d)] vs):∃ v,vs=[v]∧cC w G d v:=by
 cases h with
 | cons _ c v _ vs h1 h2=>cases h2;exact ⟨v,rfl,h1⟩
def iU (x:ak):Str:=uf x.Low++if x.High=x.Low then []else 45::uf x.High
def azs (x:ak):Prop:=0≤x.Low∧x.Low≤1114111∧0≤x.High∧x.High≤1114111
theorem oE {n:Int} (h:n≤1114111):(uf n).length≤10:=by
 have:=oM 5 n.toNat (by omega)
 simp only[uf,List.length_append,List.length_cons,List.length_nil];omega
theorem avv {x:ak} (h:azs x):(iU x).length≤21:=by
 have h1:=oE h.2.1;have h2:=oE h.2.2.2
 unfold iU
 rw[List.length_append]
 split
 ·simp;omega
 ·simp only[List.length_cons];omega
theorem wH:∀ (l:List ak),(∀ x∈l,azs x)→(l.flatMap iU).length≤l.length*21
 | [],_=>by simp
 | x::l,h=>by
  have h1:=avv (h x (by simp));have h2:=wH l (fun y hy=>h y (List.mem_cons_of_mem _ hy))
  simp only[List.flatMap_cons,List.length_append,List.length_cons];omega
theorem az9 (w:World) (n:Int) (h0:0≤n) (h1:n≤1114111):Calls Tryz.prog 137 #[.int .i64 n] w fun e w'=>e= .returned (.string ⟨(nv n.toNat).toArray⟩)∧w'=w:=by
 have:=axt w n.toNat (by omega)
 rwa[Int.toNat_of_nonneg h0]at this
theorem qW (B b:Nat) (pre s:List UInt8) (w:World) (h:Lib.IsBuilderF 209 5 B b (Lib.byteCells pre) w) (hl:pre.length+s.length≤140737488355328) (hB:B≤w.heap.size):
  Calls Tryz.prog 136 #[.pointer (some ⟨b,0,none⟩),.string ⟨s.toArray⟩] w fun e w'=>e= .returned (.tuple #[.int .i64 s.length,.nilIface])∧Lib.IsBuilderF 209 5 B b (Lib.byteCells (pre++s)) w'∧Below B w w'∧Lib.OthersKept 5 (some b) w w':=by
 refine (Any.Builder_WriteString_k aoW zr B b (Lib.byteCells pre) ⟨s.toArray⟩ w h (by rw[Lib.byteCells_length];exact hl) hB).mono fun e w' ⟨h1,h2,h3⟩=>⟨h1,.inr ?_,h3⟩
 rw[Lib.byteCells_append]
 exact h2
theorem ak5 (B b:Nat) (pre:List UInt8) (w:World) (h:Lib.IsBuilderF 209 5 B b (Lib.byteCells pre) w) (hB:B≤w.heap.size):
  Calls Tryz.prog 138 #[.pointer (some ⟨b,0,none⟩)] w fun e w'=>e= .returned (.string ⟨pre.toArray⟩)∧Below B w w':=
 (Any.Builder_String_any_k aqk zr B b pre w h hB).mono fun e w' ⟨h1,_,h2,_⟩=>⟨h1,h2⟩
theorem uK {T e:TypeId} {B b:Nat} {bs:List Value} {w:World} (h:Lib.IsBuilderF T e B b bs w):b < w.heap.size:=by
 rcases h with h | h <;> exact h.lt
theorem arw {b:Nat} {w w':World} {k:Nat} {c d:Value} (h:Lib.OthersKept 5 (some b) w w') (hk:w.heap[k]? =some (.cells #[c,d] 147 (0,0))) (hne:k≠b):w'.heap[k]? =some (.cells #[c,d] 147 (0,0)):=
 h k _ hk (fun e=>hne (Option.some.inj e)) (fun c fz e=>by cases e)
set_option maxHeartbeats 2000000 in
theorem ax7 (b off cap:Nat) (p:Option Addr) (l:List ak) (hp:l≠[]→p=some ⟨b,off,none⟩) (hlen:l.length≤1200000) (hok:∀ x∈l,azs x) (w:World) (hb:l≠[]→b < w.heap.size)
  (hc:∀ j (h:j < l.length),w.cell? ⟨b,off+j*2,none⟩=some (.int .i64 l[j].Low)∧w.cell? ⟨b,off+j*2+1,none⟩=some (.int .i64 l[j].High)):
  Calls Tryz.prog 76 #[.slice p l.length cap] w fun e w'=>e= .returned (.string ⟨(kc l).toArray⟩)∧Below w.heap.size w w':=by
 go_enter Tryz.func76,Tryz.ntmps76
 have hB0:=Lib.IsBuilderF.of (Lib.fresh_isBuilder 209 5 w)
 have hw0:=qW w.heap.size w.heap.size [] [91] _ hB0 (by simp) (by simp)
 go_wp2_with (go_at_call 136;refine hw0.mono ?_;rintro e w1 ⟨rfl,hI1,hb1,_⟩)
 have hbel1:Below w.heap.size w w1:=((Below.refl _ w).alloc (Nat.le_refl _) _).trans hb1
 go_loopw [5,9] (fun v5 v9 wr=>∃ k:Nat,k≤l.length∧v9= .int .i64 k∧Lib.IsBuilderF 209 5 w.heap.size w.heap.size (Lib.byteCells (91::(l.take k).flatMap iU)) wr∧Below w.heap.size w wr)
  (fun _ v9 _=>l.length - (intOf v9).toNat)
 case atStart=>exact ⟨0,Nat.zero_le _,rfl,by simpa using hI1,hbel1⟩
 case round=>
  obtain ⟨k,hk,rfl,hI,hbel⟩:=hrel
  by_cases hlt:k < l.length
  ·have hne:l≠[]:=by intro e;rw[e]at hlt;simp at hlt
   obtain rfl:=hp hne
   obtain ⟨c1,c2⟩:=hc k hlt
   have c1':=(hbel.cell (p:=⟨b,off+k*2,none⟩) (hb hne)).trans c1
   have c2':=(hbel.cell (p:=⟨b,off+k*2+1,none⟩) (hb hne)).trans c2
   have hfx:=hok l[k] (gM hlt)
   generalize hx:l[k]=x at c1' c2' hfx
   obtain ⟨f1,f2,f3,f4⟩:=hfx
   have tl:=wH (l.take k) (fun y hy=>hok y (List.mem_of_mem_take hy))
   have xl1:=oE f2
   have xl2:=oE f4
   have ul1:=oM 5 x.Low.toNat (by omega)
   have ul2:=oM 5 x.High.toNat (by omega)
   have i1:=fun W=>az9 W x.Low f1 f2
   have i2:=fun W=>az9 W x.High f3 f4
   have ll:(l.take k).length≤1200000:=by rw[List.length_take];omega
   have hI2:=hI.alloc (.cells #[.int .i64 x.Low,.int .i64 x.High] 147)
   have hw1:=qW w.heap.size w.heap.size _ (uf x.Low) _ hI2 (by simp only[List.length_cons];omega) (by have:=hbel.size;simp;omega)
   unfold uf at hw1
   have hsnoc:91::(l.take (k+1)).flatMap iU=91::(l.take k).flatMap iU++iU x:=by
    rw[List.take_succ_eq_append_getElem hlt,hx];simp
   by_cases heq:x.High=x.Low
   ·have e:iU x=[92,120,123]++nv x.Low.toNat++[125]:=by unfold iU uf;rw[if_pos heq];simp
    rw[heq]at hw1 c2'
    clear ul2 xl2 i2
    go_wp2_with (first | (go_at_call 137;refine (i1 _).mono ?_;clear i1;rintro e w' ⟨rfl,rfl⟩) | (go_at_call 136;refine hw1.mono ?_;clear hw1;rintro e w2 ⟨rfl,hI3,hb3,hk3⟩;have hB80:=arw hk3 (zm wr _) (by have:=hbel.size;have:=uK hI;omega);have d0:w2.cell? ⟨wr.heap.size,0,none⟩=some (.int .i64 x.Low):=(by simp only[World.cell?,hB80];rfl);have d1:w2.cell? ⟨wr.heap.size,1,none⟩=some (.int .i64 x.Low):=(by simp only[World.cell?,hB80];rfl)))
    have hbel3:Below w.heap.size w w2:=(hbel.alloc hbel.size _).trans hb3
    exact ⟨⟨k+1,by omega,by simp,by rw[hsnoc,e];exact hI3,hbel3⟩,by simp[intOf];omega⟩
   ·have e:iU x=([92,120,123]++nv x.Low.toNat++[125])++(45::([92,120,123]++nv x.High.toNat++[125])):=by unfold iU uf;rw[if_neg heq]
    go_wp2_with (first | (go_at_call 137;refine (i1 _).mono ?_;clear i1;rintro e w' ⟨rfl,rfl⟩) | (go_at_call 136;refine hw1.mono ?_;clear hw1;rintro e w2 ⟨rfl,hI3,hb3,hk3⟩;have hB80:=arw hk3 (zm wr _) (by have:=hbel.size;have:=uK hI;omega);have d0:w2.cell? ⟨wr.heap.size,0,none⟩=some (.int .i64 x.Low):=(by simp only[World.cell?,hB80];rfl);have d1:w2.cell? ⟨wr.heap.size,1,none⟩=some (.int .i64 x.High):=(by simp only[World.cell?,hB80];rfl);have hw2:=qW w.heap.size w.heap.size _ (45::uf x.High) w2 hI3 (by unfold uf at xl1;simp only[List.length_cons,List.length_append]at*;omega) (by have:=((hbel.alloc hbel.size (.cells #[.int .i64 x.Low,.int .i64 x.High] 147)).trans hb3).size;omega);unfold uf at hw2) | (go_at_call 137;refine (i2 _).mono ?_;clear i2;rintro e w' ⟨rfl,rfl⟩) | (go_at_call 136;refine hw2.mono ?_;clear hw2;rintro e w3 ⟨rfl,hI4,hb4,hk4⟩))
    have hbel3:Below w.heap.size w w3:=((hbel.alloc hbel.size _).trans hb3).trans hb4
    exact ⟨⟨k+1,by omega,by simp,by rw[hsnoc,e];simpa using hI4,hbel3⟩,by simp[intOf];omega⟩
  ·obtain rfl:k=l.length:=by omega
   rw[List.take_length]at hI
   have tl:=wH l hok
   have hw1:=qW w.heap.size w.heap.size _ [93] wr hI (by simp only[List.length_cons,List.length_nil];omega) hbel.size
   go_wp2_with (first | (go_at_call 136;refine hw1.mono ?_;clear hw1;rintro e w2 ⟨rfl,hI3,hb3,hk3⟩;have hst:=ak5 w.heap.size w.heap.size _ w2 hI3 (hbel.trans hb3).size) | (go_at_call 138;refine hst.mono ?_;clear hst;rintro e w3 ⟨rfl,hb4⟩))
   go_ret
   refine ⟨?_,(hbel.trans hb3).trans hb4⟩
   have e:kc l=91::(l.flatMap iU++[93]):=rfl
   rw[e];rfl
def ad8 (x:ak):List Value:=[.int .i64 x.Low,.int .i64 x.High]
theorem rD:∀ {l:List ak} {j:Nat} (h:j < l.length),(l.flatMap ad8)[j*2]? =some (.int .i64 l[j].Low)∧(l.flatMap ad8)[j*2+1]? =some (.int .i64 l[j].High)
 | x::l,0,h=>⟨rfl,rfl⟩
 | x::l,j+1,h=>by
  have ih:=rD (l:=l) (j:=j) (by simpa using h)
  have e:(j+1)*2=j*2+2:=by omega
  simp only[List.flatMap_cons,ad8,List.cons_append,List.nil_append,e,List.getElem_cons_succ]
  exact ih
theorem amF {w:World} {G:Gh} {l:List ak} {v:Value} (h:cC w G (.sl (l.map bi)) v):∃ p cap b off,v= .slice p l.length cap∧(l≠[]→p=some ⟨b,off,none⟩)∧(l≠[]→b < w.heap.size)∧
  ∀ j (hj:j < l.length),w.cell? ⟨b,off+j*2,none⟩=some (.int .i64 l[j].Low)∧w.cell? ⟨b,off+j*2+1,none⟩=some (.int .i64 l[j].High):=by
 generalize hd:ao.sl (l.map bi)=d at h
 cases h with
 | nilsl a cap=>
  have:l=[]:=by simpa using hd
  subst this
  exact ⟨a,cap,0,0,rfl,fun h=>absurd rfl h,fun h=>absurd rfl h,fun j hj=>by simp at hj⟩
 | sl xs ad cap k vs hne hcap hg hb hs hk hr hc=>
  obtain rfl:l.map bi=xs:=by simpa using hd
  have hvs:vs=l.flatMap ad8:=by
   clear hk hc hcap hne hd
   induction l generalizing vs with
   | nil=>cases hr;rfl
   | cons x l ih=>
    have h':bO w G (.int .i64 x.Low:: .int .i64 x.High::bh (l.map bi)) vs:=hr
    cases h' with
    | cons _ u _ us _ h1 h2=>
     cases h2 with
     | cons _ u2 _ us2 _ h3 h4=>cases h1;cases h3;rw[ih us2 h4];rfl
  have addr:∀ i,ad.add i=⟨ad.block,ad.off+i,none⟩:=fun i=>by
   cases ad
   simp only at hs
   subst hs
   by_cases hi:i=0
   ·subst hi;rfl
   ·simp[Addr.add,hi]
  refine ⟨some ad,cap,ad.block,ad.off,by simp,fun _=>by cases ad;simp_all,fun _=>hb,fun j hj=>?_⟩
  have hc0:=hc (j*2) _ (by rw[hvs];exact (rD hj).1)
  have hc1:=hc (j*2+1) _ (by rw[hvs];exact (rD hj).2)
  rw[addr]at hc0 hc1
  exact ⟨hc0,by rw[Nat.add_assoc];exact hc1⟩
 | _=>cases hd
theorem anZ {l:List ak} {u:Str} {h:ax} (e:mh l=some u):eG Tryz.prog 76 [.cv (.val (.sl (List.map bi l)))] h fun o h'=>o=[.cv (.val (.str (Val.bs u)))]∧h'=h:=by
 unfold mh at e
 split at e
 case isFalse=>cases e
 rename_i hlen
 obtain rfl:=Option.some.inj e
 refine ⟨⟨Tryz.f76,_,Tryz.func76,rfl,by kernel_rfl⟩,fun w G vs hP ha hh hf=>?_⟩
 obtain ⟨v,rfl,hv⟩:=avd ha
 obtain ⟨p,cap,b0,off,rfl,hp,hb0,hc⟩:=amF hv
 refine (ax7 b0 off cap p l hp hlen.1 hlen.2 w hb0 hc).mono fun e w' ⟨he,hbel⟩=>?_
 have hgr:=tk (G:=G) hbel hf
 exact ⟨[.string ⟨(kc l).toArray⟩],_,h,Gh.fresh G w.heap.size w'.heap.size,he,⟨rfl,rfl⟩,.cons _ _ _ _ (.str _) .nil,hgr.heapH rfl hh,hgr.fresh,hgr.kept⟩
end Go.Proofs.IR
namespace Go.Val
open Go.Proofs
def aAc (f:FuncId) (i:Nat):How:=match f,i with
 | 230,0=>.move
 | _,_=>.data
def axL (f:FuncId):How:=match f with
 | 230=>.move
 | _=>.data
noncomputable def CTP:Ctx:={ P:=Tryz.prog,how:=aAc,gives:=axL,ext:=fun _ _ _ _=>none,hand:=fun _ _ _ _ _=>False }
def aAq (f id:Nat) (s:St):List ec:=match f,id with
 | 17,9=>match s.get 8 with
  | .cv (.val (.ptr (some (l,_))))=>(List.range 6).map (.cell l)
  | _=>[]
 | _,_=>[]
noncomputable def EP:Ev:={ C:=CTP,hand:=fun _ _=>none,plan:=fun _ _=>none,fix:=aAq,ext:=fun _ _ _ _=>none,isExt:=fun _=>false }
theorem okP:avM EP where
 hand f a o h e:=by cases e
 ext g ds k zs ys e:=by cases e
end Go.Val
namespace Go.Val
open Go.Proofs
set_option maxRecDepth 100000
theorem amT {f:FuncId} {args out:List SV} (h:((uZ EP 200 60 f args ⟨0,fun _=>none⟩).map (·.1))=some out):cp CTP f args ⟨0,fun _=>none⟩ fun o h'=>o=out:=by
 cases e:uZ EP 200 60 f args ⟨0,fun _=>none⟩ with
 | none=>rw[e]at h;cases h
 | some p=>
  obtain ⟨o,h'⟩:=p
  rw[e]at h
  obtain rfl:=Option.some.inj h
  exact (aea okP 60 _ _ _ _ _ e).mono fun o1 h1 ⟨e1,e2⟩=>e1
theorem aqs:((uZ EP 200 60 29 [.cv (.val (.sl (avO.map eU)))] ⟨0,fun _=>none⟩).map (·.1))=some [.cv (.val (.sl (List.map eI [97,98,32,99])))]:=by kernel_rfl
theorem aoc:((uZ EP 200 60 17 [.cv (.val (.sl (ayN.map eU)))] ⟨0,fun _=>none⟩).map (·.1))=some [.cv (.val (fP uv)),.cv (.val (.int .i64 0)),.cv (.val (.int .i64 0))]:=by kernel_rfl
theorem anX:((uZ EP 200 60 17 [.cv (.val (.sl (az4.map eU)))] ⟨0,fun _=>none⟩).map (·.1))=some [.cv (.val (fP azZ)),.cv (.val (.int .i64 0)),.cv (.val (.int .i64 0))]:=by kernel_rfl
end Go.Val
namespace Go.Proofs.IR
open Go.Val
set_option maxRecDepth 100000
theorem arV:Tryz.prog.follows .mixedOrders=true:=by kernel_rfl
theorem alx:fe CTP:=⟨fun _ _ _ _ _ e=>e.elim,fun _ _ _ _ e=>e.elim,fun _ _ _ _ _ e=>by cases e⟩
theorem qD {t:List UInt8} {p:aW} (hev:((uZ EP 200 60 17 [.cv (.val (.sl (t.map eU)))] ⟨0,fun _=>none⟩).map (·.1))=some [.cv (.val (fP p)),.cv (.val (.int .i64 0)),.cv (.val (.int .i64 0))]) (h:ax):
  eG Tryz.prog 17 [.cv (.val (.sl (t.map eU)))] h fun o h'=>o=[.cv (.val (fP p)),.cv (.val (.int .i64 0)),.cv (.val (.int .i64 0))]∧h'=h:=
 za (qb alx arV (amT hev)) (fun _ _ e=>e) (fun o e=>by
  obtain rfl:=List.mem_singleton.1 e
  show (ao.sl (List.map eU t)).under 0
  simp only[ao.under,dx]) (fun o e=>by
  rcases List.mem_cons.1 e with rfl | e
  ·exact Enc.under (e:=fP) 0 p
  ·rcases List.mem_cons.1 e with rfl | e
   ·trivial
   ·obtain rfl:=List.mem_singleton.1 e;trivial) h
theorem adA (h:ax):eG Tryz.prog 29 [.cv (.val (.sl (avO.map eU)))] h fun o h'=>o=[.cv (.val (.sl (List.map eI [97,98,32,99])))]∧h'=h:=
 za (qb alx arV (amT aqs)) (fun _ _ e=>e) (fun o e=>by
  obtain rfl:=List.mem_singleton.1 e
  show (ao.sl (List.map eU avO)).under 0
  simp only[ao.under,dx]) (fun o e=>by
  obtain rfl:=List.mem_singleton.1 e
  show (ao.sl (List.map eI [97,98,32,99])).under 0
  simp only[ao.under,dx]) h
theorem avJ:∀ f a h o h',CT.hand f a h o h'→eG CT.P f a h fun o1 h1=>o1=o∧h1=h':=by
 intro f a h o h' hh
 obtain ⟨rfl,hh⟩:tE f a h o h':=hh
 rcases hh with ⟨rfl,l,u,rfl,he,rfl⟩ | ⟨rfl,l,t,b,r,rfl,ho,he,rfl⟩ | ⟨rfl,l,u,rfl,he,rfl⟩ | ⟨rfl,l,u,rfl,he,rfl⟩ | ⟨hf,n,rfl,h0,h1,rfl⟩ | ⟨rfl,l,sg,A,p,q,u,rfl,hp,hq,he,rfl⟩ | ⟨rfl,b,r,rfl,he,rfl⟩ | ⟨rfl,b,r,rfl,he,rfl⟩
 ·exact wh he
 ·exact aco ho he
 ·exact anZ he
 ·exact tF he
 ·rcases hf with rfl | rfl
  ·exact acJ h0 h1
  ·exact aaX h0 h1
 ·exact yD hp hq he
 ·unfold dJ at he
  split at he
  ·rename_i hb
   subst hb
   obtain rfl:=Option.some.inj he
   exact qD aoc _
  ·split at he
   ·rename_i hb
    subst hb
    obtain rfl:=Option.some.inj he
    exact qD anX _
   ·cases he
 ·unfold dL at he
  split at he
  ·rename_i hb
   subst hb
   obtain rfl:=Option.some.inj he
   exact adA _
  ·cases he
theorem auw:fe CT:=⟨avJ,fun _ _ _ _ e=>e.elim,axj⟩
end Go.Proofs.IR
namespace Go.Val
noncomputable section
def aV.k1 (most:Int) (k:Int):Option Int:=
 some (mn k most)
def aV.b1 (self:az→Int→Int→Option Int) (n:az) (most:Int) (deep:Int):(Int×Int)→Option (Step ((Int×Int)) Int)
 | (k1,i)=>
  if (decide (i < (n.Kids.length:Int)))then
   if ((decide (k1≥most))||(decide (deep≤(0:Int))))then
    some (Step.done most)
   else
    (idx n.Kids i).bind fun x=>
    (self x (IntKind.i64.wrap (most - k1)) (IntKind.i64.wrap (deep - (1:Int)))).bind fun r=>
    some (Step.next ((IntKind.i64.wrap (k1+r)),(IntKind.i64.wrap (i+(1:Int)))))
  else
   (aV.k1 most k1).map Step.done
def aV.r:Nat→az→Int→Int→Option Int
 | 0,_,_,_=>none
 | fu+1,n,most,deep=>
  Loop (aV.b1 (aV.r fu) n most deep) ((1:Int),(0:Int))
def aV (n:az) (most:Int) (deep:Int):Option Int:=lim fun fuZ=>aV.r fuZ n most deep
def aN.k2:Option Bool:=
 some true
def aN.b1 (p:aW):Int→Option (Step Int Bool)
 | i=>
  if (decide (i < (p.Rules.length:Int)))then
   ((idx p.Rules i).bind fun x=>
     (aV x.Left (15:Int) (10:Int)).bind fun r=>
     if (decide (r≥(15:Int)))then
      some true
     else
      (aV x.Right (15:Int) (10:Int)).bind fun r1=>
      some (decide (r1≥(15:Int)))).bind fun v1=>
   if v1 then
    some (Step.done false)
   else
    some (Step.next (IntKind.i64.wrap (i+(1:Int))))
  else
   (aN.k2).map Step.done
def aN.k1 (p:aW):Option Bool:=
 Loop (aN.b1 p) (0:Int)
def aN.b2 (p:aW):Int→Option (Step Int Bool)
 | i1=>
  if (decide (i1 < (p.Sets.length:Int)))then
   (idx p.Sets i1).bind fun xs=>
   if (decide ((xs.length:Int) > (8:Int)))then
    some (Step.done false)
   else
    some (Step.next (IntKind.i64.wrap (i1+(1:Int))))
  else
   (aN.k1 p).map Step.done
def aN (p:aW):Option Bool:=
 if ((decide ((p.Sets.length:Int) > (8:Int)))||(decide ((p.Rules.length:Int) > (6:Int))))then
  some false
 else
  Loop (aN.b2 p) (0:Int)
def fR (x:ak):Option Bool:=
 some ((decide (x.Low < (0:Int)))||((decide (x.High > (1114111:Int)))||(decide (x.Low > x.High))))
def aC.k1:Option Int:=
 some (-1:Int)
def aC.b1 (s:List ak) (f:ak→Option Bool):Int→Option (Step Int Int)
 | v=>
  if (decide (v < (s.length:Int)))then
   (idx s v).bind fun x=>
   (f x).bind fun r=>
   if r then
    some (Step.done v)
   else
    some (Step.next (IntKind.i64.wrap (v+(1:Int))))
  else
   (aC.k1).map Step.done
def aC (s:List ak) (f:ak→Option Bool):Option Int:=
 Loop (aC.b1 s f) (0:Int)
def ca (s:List ak) (f:ak→Option Bool):Option Bool:=
 (aC s f).bind fun r=>
 some (decide (r≥(0:Int)))
def iF (l:List ak) (x:ak):Option (List ak):=
 (if (decide ((l.length:Int) > (0:Int)))then
   (idx l (IntKind.i64.wrap ((l.length:Int) - (1:Int)))).bind fun x1=>
   some (decide (x.Low≤(IntKind.i64.wrap (x1.High+(1:Int)))))
  else
   some false).bind fun v=>
 if v then
  (idx l (IntKind.i64.wrap ((l.length:Int) - (1:Int)))).bind fun x2=>
  some (List.set l (Int.toNat (IntKind.i64.wrap ((l.length:Int) - (1:Int)))) (ak.mk x2.Low (mx x2.High x.High)))
 else
  (room 16 (l.length+1)).bind fun _=>
  some (l++([x]))
def cD.k1 (out:List ak):Option ((List ak×Int)):=
 some (out,(0:Int))
def cD.b1 (l1:List ak):(List ak×Int)→Option (Step ((List ak×Int)) ((List ak×Int)))
 | (out1,v)=>
  if (decide (v < (l1.length:Int)))then
   (idx l1 v).bind fun x=>
   (iF out1 x).bind fun r2=>
   some (Step.next (r2,(IntKind.i64.wrap (v+(1:Int)))))
  else
   (cD.k1 out1).map Step.done
def cD (l:List ak):Option ((List ak×Int)):=
 (ca l (fR)).bind fun r=>
 if r then
  some (([]:List ak),(1:Int))
 else
  (ck l).bind fun r1=>
  (ado r1).bind fun l1=>
  Loop (cD.b1 l1) ([],(0:Int))
def bg.k1:Option Bool:=
 some true
def bg.b1 (s1:List ak) (s2:List ak):Int→Option (Step Int Bool)
 | v=>
  if (decide (v < (s1.length:Int)))then
   (idx s1 v).bind fun x=>
   (idx s2 v).bind fun x1=>
   if (!(x.Low==x1.Low&&(x.High==x1.High&&true)))then
    some (Step.done false)
   else
    some (Step.next (IntKind.i64.wrap (v+(1:Int))))
  else
   (bg.k1).map Step.done
def bg (s1:List ak) (s2:List ak):Option Bool:=
 if ((s1.length:Int) != (s2.length:Int))then
  some false
 else
  Loop (bg.b1 s1 s2) (0:Int)
def kn (l:List ak):Option Bool:=
 (cD l).bind fun r=>
 (if (r.2==(0:Int))then
   (bg r.1 l).bind fun r1=>
   some r1
  else
   some false).bind fun v=>
 some v
def gZ (n:az):Option Bool:=
 some ((decide (n.Kind≥(3:Int)))&&(decide (n.Kind≤(5:Int))))
def jA (n:az):Option Bool:=
 if (n.Kind==(0:Int))then
  some ((n.Kids.length:Int) != (1:Int))
 else
  if (n.Kind==(2:Int))then
   some (decide ((n.Kids.length:Int) > (1:Int)))
  else
   ((gZ n).bind fun r=>
     if r then
      some ((n.Kids.length:Int)==(1:Int))
     else
      some false).bind fun v=>
   some v
def lF (of:az) (n:az):Option Bool:=
 some ((n.Kind==(2:Int))||((n.Kind==(0:Int))&&(of.Kind != (2:Int))))
def aa.k2 (sets:Int) (met:Int):Option ((Bool×aU)):=
 some (true,(aU.mk sets met))
def aa.k3 (self:aU→az→Int→Int→Option ((Bool×aU))) (signs1:Int) (v1:Int) (sets1:Int) (met1:Int) (x:az) (more:Int):Option (Step ((Int×Int×Int)) ((Bool×aU))):=
 (if (decide (more > (20:Int)))then
   some (true,sets1,met1)
  else
   (self (aU.mk sets1 met1) x more signs1).bind fun r3=>
   some ((!r3.1),r3.2.sets,r3.2.met)).bind fun (v2,sets2,met2)=>
 if v2 then
  some (Step.done (false,(aU.mk sets2 met2)))
 else
  some (Step.next ((IntKind.i64.wrap (v1+(1:Int))),sets2,met2))
def aa.b1 (self:aU→az→Int→Int→Option ((Bool×aU))) (n:az) (depth:Int) (signs1:Int):(Int×Int×Int)→Option (Step ((Int×Int×Int)) ((Bool×aU)))
 | (v1,sets1,met1)=>
  if (decide (v1 < (n.Kids.length:Int)))then
   (idx n.Kids v1).bind fun x=>
   (lF n x).bind fun r2=>
   if r2 then
    aa.k3 self signs1 v1 sets1 met1 x (IntKind.i64.wrap (depth+(1:Int)))
   else
    aa.k3 self signs1 v1 sets1 met1 x depth
  else
   (aa.k2 sets1 met1).map Step.done
def aa.k1 (self:aU→az→Int→Int→Option ((Bool×aU))) (c:aU) (n:az) (depth:Int) (signs1:Int):Option ((Bool×aU)):=
 ((jA n).bind fun r1=>
   if (!r1)then
    some true
   else
    if (n.Set != (0:Int))then
     some true
    else
     some (decide (signs1 > (3:Int)))).bind fun v=>
 if v then
  some (false,c)
 else
  Loop (aa.b1 self n depth signs1) ((0:Int),c.sets,c.met)
def aa.r:Nat→aU→az→Int→Int→Option ((Bool×aU))
 | 0,_,_,_,_=>none
 | fu+1,c,n,depth,signs=>
  if (n.Kind==(1:Int))then
   some ((((n.Kids.length:Int)==(0:Int))&&((decide (n.Set≥(0:Int)))&&((decide (n.Set < c.sets))&&(decide (n.Set≤c.met))))),(aU.mk c.sets (mx c.met (IntKind.i64.wrap ((mn n.Set c.sets)+(1:Int))))))
  else
   (gZ n).bind fun r=>
   if (!r)then
    aa.k1 (aa.r fu) c n depth (0:Int)
   else
    aa.k1 (aa.r fu) c n depth (IntKind.i64.wrap (signs+(1:Int)))
def aa (c:aU) (n:az) (depth:Int) (signs:Int):Option ((Bool×aU)):=lim fun fuZ=>aa.r fuZ c n depth signs
def bz.k2 (p:aW) (m:List (Str×Bool)) (sets:Int) (met:Int):Option Bool:=
 some (((m.length:Int)==(p.Sets.length:Int))&&(met==(p.Sets.length:Int)))
def bz.b1 (p:aW) (m:List (Str×Bool)):(Int×Int×Int)→Option (Step ((Int×Int×Int)) Bool)
 | (v2,sets1,met1)=>
  if (decide (v2 < (p.Rules.length:Int)))then
   (idx p.Rules v2).bind fun x=>
   ((aa (aU.mk sets1 met1) x.Left (0:Int) (0:Int)).bind fun r=>
     if (!r.1)then
      some (true,r.2.sets,r.2.met)
     else
      (aa r.2 x.Right (0:Int) (0:Int)).bind fun r1=>
      some ((!r1.1),r1.2.sets,r1.2.met)).bind fun (v3,sets2,met2)=>
   if v3 then
    some (Step.done false)
   else
    some (Step.next ((IntKind.i64.wrap (v2+(1:Int))),sets2,met2))
  else
   (bz.k2 p m sets1 met1).map Step.done
def bz.k1 (p:aW) (m:List (Str×Bool)):Option Bool:=
 Loop (bz.b1 p m) ((0:Int),(p.Sets.length:Int),(0:Int))
def bz.b2 (p:aW):(Int×List (Str×Bool))→Option (Step ((Int×List (Str×Bool))) Bool)
 | (v4,m1)=>
  if (decide (v4 < (p.Sets.length:Int)))then
   (idx p.Sets v4).bind fun xs=>
   (kn xs).bind fun r2=>
   if (!r2)then
    some (Step.done false)
   else
    (mh xs).bind fun r3=>
    some (Step.next ((IntKind.i64.wrap (v4+(1:Int))),(iW r3 true m1)))
  else
   (bz.k1 p m1).map Step.done
def bz (p:aW):Option Bool:=
 if ((decide ((p.Sets.length:Int) > (60:Int)))||(decide ((p.Rules.length:Int) > (64:Int))))then
  some false
 else
  Loop (bz.b2 p) ((0:Int),[])
def fL (x:ak) (r:Int):Option Int:=
 if (decide (x.High < r))then
  some (-1:Int)
 else
  if (decide (x.Low > r))then
   some (1:Int)
  else
   some (0:Int)
def an.k1 (x:List ak) (target:Int) (cmp:ak→Int→Option Int) (i:Int):Option ((Int×Bool)):=
 (if (decide (i < (x.length:Int)))then
   (idx x i).bind fun x1=>
   (cmp x1 target).bind fun r=>
   some (r==(0:Int))
  else
   some false).bind fun v=>
 some (i,v)
def an.k2 (i2:Int) (j1:Int):Option (Step ((Int×Int)) ((Int×Bool))):=
 some (Step.next (i2,j1))
def an.b1 (x:List ak) (target:Int) (cmp:ak→Int→Option Int):(Int×Int)→Option (Step ((Int×Int)) ((Int×Bool)))
 | (i1,j)=>
  if (decide (i1 < j))then
   (some (shR .u64 (IntKind.u64.wrap (IntKind.i64.wrap (i1+j))) (1:Int))).bind fun z=>
   (idx x (IntKind.i64.wrap z)).bind fun x2=>
   (cmp x2 target).bind fun r1=>
   if (decide (r1 < (0:Int)))then
    an.k2 (IntKind.i64.wrap ((IntKind.i64.wrap z)+(1:Int))) j
   else
    an.k2 i1 (IntKind.i64.wrap z)
  else
   (an.k1 x target cmp i1).map Step.done
def an (x:List ak) (target:Int) (cmp:ak→Int→Option Int):Option ((Int×Bool)):=
 Loop (an.b1 x target cmp) ((0:Int),(x.length:Int))
def kT (a_:List ak) (r:Int):Option Bool:=
 (an a_ r (fL)).bind fun r1=>
 some r1.2
def bT.k1 (m:Int):Option Int:=
 some m
def bT.k2 (v:Int) (m2:Int):Option (Step ((Int×Int)) Int):=
 some (Step.next (m2,(IntKind.i64.wrap (v+(1:Int)))))
def bT.b1 (sets:List (List ak)) (r:Int):(Int×Int)→Option (Step ((Int×Int)) Int)
 | (m1,v)=>
  if (decide (v < (sets.length:Int)))then
   (idx sets v).bind fun xs=>
   (kT xs r).bind fun r1=>
   if r1 then
    (nat v).bind fun _=>
    bT.k2 v (bOr .u64 m1 (shL .u64 (1:Int) v))
   else
    bT.k2 v m1
  else
   (bT.k1 m1).map Step.done
def bT (sets:List (List ak)) (r:Int):Option Int:=
 Loop (bT.b1 sets r) ((0:Int),(0:Int))
def aQ.k1 (out:List Int):Option (List Int):=
 (sZ out).bind fun l=>
 (cF l).bind fun r=>
 some r
def aQ.k2 (v:Int) (out2:List Int):Option (Step ((List Int×Int)) (List Int)):=
 some (Step.next (out2,(IntKind.i64.wrap (v+(1:Int)))))
def aQ.k3 (v1:Int) (out4:List Int):Option (Step ((List Int×Int)) (Step ((List Int×Int)) (List Int))):=
 some (Step.next (out4,(IntKind.i64.wrap (v1+(1:Int)))))
def aQ.b2 (v:Int) (xs:List ak):(List Int×Int)→Option (Step ((List Int×Int)) (Step ((List Int×Int)) (List Int)))
 | (out3,v1)=>
  if (decide (v1 < (xs.length:Int)))then
   (idx xs v1).bind fun x=>
   (room 8 (out3.length+1)).bind fun _=>
   if (decide (x.High < (1114111:Int)))then
    (room 8 (out3.length+1+1)).bind fun _=>
    aQ.k3 v1 ((out3++([x.Low]))++([(IntKind.i64.wrap (x.High+(1:Int)))]))
   else
    aQ.k3 v1 (out3++([x.Low]))
  else
   (aQ.k2 v out3).map Step.done
def aQ.b1 (sets:List (List ak)):(List Int×Int)→Option (Step ((List Int×Int)) (List Int))
 | (out1,v)=>
  if (decide (v < (sets.length:Int)))then
   (idx sets v).bind fun xs=>
   Loop (aQ.b2 v xs) (out1,(0:Int))
  else
   (aQ.k1 out1).map Step.done
def aQ (sets:List (List ak)):Option (List Int):=
 Loop (aQ.b1 sets) ([(0:Int)],(0:Int))
def gL (x:cQ):Option Bool:=
 some ((decide (x.Low < (0:Int)))||((decide (x.High > (1114111:Int)))||(decide (x.Low > x.High))))
def aF.k1:Option Int:=
 some (-1:Int)
def aF.b1 (s:List cQ) (f:cQ→Option Bool):Int→Option (Step Int Int)
 | v=>
  if (decide (v < (s.length:Int)))then
   (idx s v).bind fun x=>
   (f x).bind fun r=>
   if r then
    some (Step.done v)
   else
    some (Step.next (IntKind.i64.wrap (v+(1:Int))))
  else
   (aF.k1).map Step.done
def aF (s:List cQ) (f:cQ→Option Bool):Option Int:=
 Loop (aF.b1 s f) (0:Int)
def cc (s:List cQ) (f:cQ→Option Bool):Option Bool:=
 (aF s f).bind fun r=>
 some (decide (r≥(0:Int)))
def cH.k1 (t:bB) (k:Int) (i:Int) (like:List (Vector UInt8 256)) (m:List (Vector UInt8 256×Int)):Option ((Bool×bB×List (Vector UInt8 256×Int))):=
 (idx t.like.toList k).bind fun n=>
 some (true,(bB.mk (wO t.like k (u8 (IntKind.u8.wrap i))) like),m)
def cH (t:bB) (k:Int) (b:Vector UInt8 256) (known:List (Vector UInt8 256×Int)):Option ((Bool×bB×List (Vector UInt8 256×Int))):=
 if (!(nh b known).isSome)then
  if (decide ((t.first.length:Int)≥(256:Int)))then
   some (false,t,known)
  else
   (room 256 (t.first.length+1)).bind fun _=>
   cH.k1 t k (t.first.length:Int) (t.first++([b])) (iW b (t.first.length:Int) known)
 else
  cH.k1 t k ((nh b known).getD (0:Int)) t.first known
def aO.k1 (like:Vector UInt8 4352) (like1:List (Vector UInt8 256)):Option ((Option bB×Int)):=
 some ((some (bB.mk like like1)),(0:Int))
def aO.k2 (v:Int) (like4:Vector UInt8 4352) (like5:List (Vector UInt8 256)) (m1:List (Vector UInt8 256×Int)):Option (Step ((Int×Vector UInt8 4352×List (Vector UInt8 256)×List (Vector UInt8 256×Int))) ((Option bB×Int))):=
 some (Step.next ((IntKind.i64.wrap (v+(1:Int))),like4,like5,m1))
def aO.k3 (v:Int) (like2:Vector UInt8 4352) (like3:List (Vector UInt8 256)) (m:List (Vector UInt8 256×Int)) (v1:Vector UInt8 256):Option (Step ((Int×Vector UInt8 4352×List (Vector UInt8 256)×List (Vector UInt8 256×Int))) ((Option bB×Int))):=
 (cH (bB.mk like2 like3) v v1 m).bind fun r1=>
 if (!r1.1)then
  some (Step.done (none,(3:Int)))
 else
  aO.k2 v r1.2.1.like r1.2.1.first r1.2.2
def aO.k4 (v2:Int) (v4:Vector UInt8 256):Option (Step ((Int×Vector UInt8 256)) (Step ((Int×Vector UInt8 4352×List (Vector UInt8 256)×List (Vector UInt8 256×Int))) ((Option bB×Int)))):=
 some (Step.next ((IntKind.i64.wrap (v2+(1:Int))),v4))
def aO.b3 (v:Int) (v2:Int) (x:cQ):(Int×Vector UInt8 256)→Option (Step ((Int×Vector UInt8 256)) (Step ((Int×Vector UInt8 256)) (Step ((Int×Vector UInt8 4352×List (Vector UInt8 256)×List (Vector UInt8 256×Int))) ((Option bB×Int)))))
 | (r2,v5)=>
  if (decide (r2≤(mn x.High (IntKind.i64.wrap ((IntKind.i64.wrap ((IntKind.i64.wrap (v*(256:Int)))+(256:Int))) - (1:Int))))))then
   (idx v5.toList (IntKind.i64.wrap (r2 - (IntKind.i64.wrap (v*(256:Int)))))).bind fun n=>
   some (Step.next ((IntKind.i64.wrap (r2+(1:Int))),(wO v5 (IntKind.i64.wrap (r2 - (IntKind.i64.wrap (v*(256:Int))))) x.Value)))
  else
   (aO.k4 v2 v5).map Step.done
def aO.b2 (l:List cQ) (v:Int) (like2:Vector UInt8 4352) (like3:List (Vector UInt8 256)) (m:List (Vector UInt8 256×Int)):(Int×Vector UInt8 256)→Option (Step ((Int×Vector UInt8 256)) (Step ((Int×Vector UInt8 4352×List (Vector UInt8 256)×List (Vector UInt8 256×Int))) ((Option bB×Int))))
 | (v2,v3)=>
  if (decide (v2 < (l.length:Int)))then
   (idx l v2).bind fun x=>
   Loop (aO.b3 v v2 x) ((mx x.Low (IntKind.i64.wrap (v*(256:Int)))),v3)
  else
   (aO.k3 v like2 like3 m v3).map Step.done
def aO.b1 (l:List cQ):(Int×Vector UInt8 4352×List (Vector UInt8 256)×List (Vector UInt8 256×Int))→Option (Step ((Int×Vector UInt8 4352×List (Vector UInt8 256)×List (Vector UInt8 256×Int))) ((Option bB×Int)))
 | (v,like2,like3,m)=>
  if (decide (v < (4352:Int)))then
   Loop (aO.b2 l v like2 like3 m) ((0:Int),(Vector.replicate 256 (0:UInt8)))
  else
   (aO.k1 like2 like3).map Step.done
def aO (l:List cQ):Option ((Option bB×Int)):=
 if (decide ((l.length:Int) > (4096:Int)))then
  some (none,(3:Int))
 else
  (cc l (gL)).bind fun r=>
  if r then
   some (none,(1:Int))
  else
   Loop (aO.b1 l) ((0:Int),(Vector.replicate 4352 (0:UInt8)),[],[])
def fE (t:bB) (r:Int):Option UInt8:=
 if ((decide (r < (0:Int)))||(decide (r > (1114111:Int))))then
  some (u8 (0:Int))
 else
  (idx t.like.toList (IntKind.i64.wrap (Int.tdiv r (256:Int)))).bind fun n=>
  (idx t.first (n.toNat:Int)).bind fun y=>
  (idx y.toList (Int.tmod r (256:Int))).bind fun n1=>
  some n1
def aG.k2 (props:List cQ) (masks:List Int) (least:List Int):Option ((Option aH×Int)):=
 (aO props).bind fun r1=>
 (match r1.1 with
 | none=>
  if (r1.2 != (0:Int))then
   some (none,(3:Int))
  else
   none
 | some y=>
  if (r1.2 != (0:Int))then
   some (none,(3:Int))
  else
   some ((some (aH.mk y masks least)),(0:Int)))
def aG.k4 (props1:List cQ) (v:Int) (n:Int) (class_:Int) (masks2:List Int) (least2:List Int) (m1:List (Int×Int)) (high:Int):Option (Step ((List cQ×Int×List Int×List Int×List (Int×Int))) ((Option aH×Int))):=
 (room 24 (props1.length+1)).bind fun _=>
 some (Step.next ((props1++([(cQ.mk n high (u8 (IntKind.u8.wrap class_)))])),(IntKind.i64.wrap (v+(1:Int))),masks2,least2,m1))
def aG.k3 (r:List Int) (props1:List cQ) (v:Int) (n:Int) (class_:Int) (masks2:List Int) (least2:List Int) (m1:List (Int×Int)):Option (Step ((List cQ×Int×List Int×List Int×List (Int×Int))) ((Option aH×Int))):=
 if (decide ((m1.length:Int) > (200:Int)))then
  some (Step.done (none,(3:Int)))
 else
  if (decide ((IntKind.i64.wrap (v+(1:Int))) < (r.length:Int)))then
   (idx r (IntKind.i64.wrap (v+(1:Int)))).bind fun n1=>
   aG.k4 props1 v n class_ masks2 least2 m1 (IntKind.i64.wrap (n1 - (1:Int)))
  else
   aG.k4 props1 v n class_ masks2 least2 m1 (1114111:Int)
def aG.b1 (sets:List (List ak)) (r:List Int):(List cQ×Int×List Int×List Int×List (Int×Int))→Option (Step ((List cQ×Int×List Int×List Int×List (Int×Int))) ((Option aH×Int)))
 | (props1,v,masks1,least1,m)=>
  if (decide (v < (r.length:Int)))then
   (idx r v).bind fun n=>
   (bT sets n).bind fun r2=>
   if (!(nh r2 m).isSome)then
    (room 8 (masks1.length+1)).bind fun _=>
    (room 8 (least1.length+1)).bind fun _=>
    aG.k3 r props1 v n (m.length:Int) (masks1++([r2])) (least1++([n])) (iW r2 (m.length:Int) m)
   else
    aG.k3 r props1 v n ((nh r2 m).getD (0:Int)) masks1 least1 m
  else
   (aG.k2 props1 masks1 least1).map Step.done
def aG.k1 (sets:List (List ak)):Option ((Option aH×Int)):=
 (aQ sets).bind fun r=>
 Loop (aG.b1 sets r) ([],(0:Int),[],[],[])
def aG.b2 (sets:List (List ak)):Int→Option (Step Int ((Option aH×Int)))
 | v1=>
  if (decide (v1 < (sets.length:Int)))then
   (idx sets v1).bind fun xs=>
   (cD xs).bind fun r3=>
   (if (r3.2 != (0:Int))then
     some true
    else
     (bg r3.1 xs).bind fun r4=>
     some (!r4)).bind fun v2=>
   if v2 then
    some (Step.done (none,(1:Int)))
   else
    some (Step.next (IntKind.i64.wrap (v1+(1:Int))))
  else
   (aG.k1 sets).map Step.done
def aG (sets:List (List ak)):Option ((Option aH×Int)):=
 if (decide ((sets.length:Int) > (60:Int)))then
  some (none,(3:Int))
 else
  Loop (aG.b2 sets) (0:Int)
def dS (a_:aH) (r:Int):Option Int:=
 if ((decide (r < (0:Int)))||(decide (r > (1114111:Int))))then
  some (-1:Int)
 else
  (fE a_.trie r).bind fun r1=>
  some (IntKind.i64.wrap (r1.toNat:Int))
def dB (a_:aH):Option Int:=
 some (a_.masks.length:Int)
def cA (a_:aH):Option (List Int):=
 (dg a_.masks).bind fun r=>
 some r
def cf.k1 (l:List Int) (n:Int) (at_:Int):Option (List Int):=
 (if (decide (at_ < (l.length:Int)))then
   (idx l at_).bind fun n1=>
   some (n1==n)
  else
   some false).bind fun v=>
 if v then
  some l
 else
  (cutH l at_).bind fun _=>
  (room 8 (0+(List.take (Int.toNat at_) l).length)).bind fun _=>
  (room 8 ((List.take (Int.toNat at_) l).length+1)).bind fun _=>
  (cutL l at_).bind fun _=>
  (room 8 ((List.take (Int.toNat at_) l).length+1+(List.drop (Int.toNat at_) l).length)).bind fun _=>
  some (((List.take (Int.toNat at_) l)++([n]))++(List.drop (Int.toNat at_) l))
def cf.b1 (l:List Int) (n:Int):Int→Option (Step Int (List Int))
 | at_1=>
  (if (decide (at_1 < (l.length:Int)))then
    (idx l at_1).bind fun n2=>
    some (decide (n2 < n))
   else
    some false).bind fun v1=>
  if v1 then
   some (Step.next (IntKind.i64.wrap (at_1+(1:Int))))
  else
   (cf.k1 l n at_1).map Step.done
def cf (l:List Int) (n:Int):Option (List Int):=
 Loop (cf.b1 l n) (0:Int)
def bN.k1 (out:List Int):Option (List Int):=
 some out
def bN.k2 (i:Int) (out2:List Int):Option (Step ((List Int×Int)) (List Int)):=
 some (Step.next (out2,(IntKind.i64.wrap (i+(1:Int)))))
def bN.b1 (a_:List ak) (b:List ak):(List Int×Int)→Option (Step ((List Int×Int)) (List Int))
 | (out1,i)=>
  if (decide (i < ((a_++b).length:Int)))then
   (idx (a_++b) i).bind fun x=>
   (cf out1 x.Low).bind fun r=>
   if (decide (x.High < (1114111:Int)))then
    (cf r (IntKind.i64.wrap (x.High+(1:Int)))).bind fun r1=>
    bN.k2 i r1
   else
    bN.k2 i r
  else
   (bN.k1 out1).map Step.done
def bN (a_:List ak) (b:List ak):Option (List Int):=
 (room 16 (0+a_.length)).bind fun _=>
 (room 16 (a_.length+b.length)).bind fun _=>
 Loop (bN.b1 a_ b) ([(0:Int)],(0:Int))
def cz.k1:Option Bool:=
 some false
def cz.b1 (a_:List ak) (r:Int):Int→Option (Step Int Bool)
 | i=>
  if (decide (i < (a_.length:Int)))then
   ((idx a_ i).bind fun x=>
     if (decide (r≥x.Low))then
      some (decide (r≤x.High))
     else
      some false).bind fun v=>
   if v then
    some (Step.done true)
   else
    some (Step.next (IntKind.i64.wrap (i+(1:Int))))
  else
   (cz.k1).map Step.done
def cz (a_:List ak) (r:Int):Option Bool:=
 Loop (cz.b1 a_ r) (0:Int)
def eE (l:List ak) (low:Int) (high:Int):Option (List ak):=
 (if (decide ((l.length:Int) > (0:Int)))then
   (idx l (IntKind.i64.wrap ((l.length:Int) - (1:Int)))).bind fun x=>
   some (x.High==(IntKind.i64.wrap (low - (1:Int))))
  else
   some false).bind fun v=>
 if v then
  (idx l (IntKind.i64.wrap ((l.length:Int) - (1:Int)))).bind fun x1=>
  some (List.set l (Int.toNat (IntKind.i64.wrap ((l.length:Int) - (1:Int)))) (ak.mk x1.Low high))
 else
  (room 16 (l.length+1)).bind fun _=>
  some (l++([(ak.mk low high)]))
def aJ.k1 (out:List ak):Option (List ak):=
 some out
def aJ.k2 (i:Int) (out2:List ak):Option (Step ((List ak×Int)) (List ak)):=
 some (Step.next (out2,(IntKind.i64.wrap (i+(1:Int)))))
def aJ.k4 (out1:List ak) (i:Int) (high:Int) (n:Int) (is1:Bool):Option (Step ((List ak×Int)) (List ak)):=
 if is1 then
  (eE out1 n high).bind fun r3=>
  aJ.k2 i r3
 else
  aJ.k2 i out1
def aJ.k3 (a_:List ak) (b:List ak) (kind:Int) (r:List Int) (out1:List ak) (i:Int) (high:Int):Option (Step ((List ak×Int)) (List ak)):=
 (idx r i).bind fun n=>
 (cz a_ n).bind fun r1=>
 (cz b n).bind fun r2=>
 if (kind==(1:Int))then
  if r1 then
   aJ.k4 out1 i high n r2
  else
   aJ.k4 out1 i high n false
 else
  if (kind==(2:Int))then
   if r1 then
    aJ.k4 out1 i high n (!r2)
   else
    aJ.k4 out1 i high n false
  else
   if (kind==(3:Int))then
    if (!r1)then
     aJ.k4 out1 i high n (!r2)
    else
     aJ.k4 out1 i high n false
   else
    aJ.k4 out1 i high n (r1||r2)
def aJ.b1 (a_:List ak) (b:List ak) (kind:Int) (r:List Int):(List ak×Int)→Option (Step ((List ak×Int)) (List ak))
 | (out1,i)=>
  if (decide (i < (r.length:Int)))then
   if (decide ((IntKind.i64.wrap (i+(1:Int))) < (r.length:Int)))then
    (idx r (IntKind.i64.wrap (i+(1:Int)))).bind fun n1=>
    aJ.k3 a_ b kind r out1 i (IntKind.i64.wrap (n1 - (1:Int)))
   else
    aJ.k3 a_ b kind r out1 i (1114111:Int)
  else
   (aJ.k1 out1).map Step.done
def aJ (a_:List ak) (b:List ak) (kind:Int):Option (List ak):=
 (bN a_ b).bind fun r=>
 Loop (aJ.b1 a_ b kind r) ([],(0:Int))
def bH.k1 (l:List ak):Option ((List ak×Int)):=
 (aJ l [] (0:Int)).bind fun r=>
 some (r,(0:Int))
def bH.b1 (l:List ak):Int→Option (Step Int ((List ak×Int)))
 | i=>
  if (decide (i < (l.length:Int)))then
   ((idx l i).bind fun x=>
     if (decide (x.Low < (0:Int)))then
      some true
     else
      if (decide (x.High > (1114111:Int)))then
       some true
      else
       some (decide (x.Low > x.High))).bind fun v=>
   if v then
    some (Step.done (([]:List ak),(1:Int)))
   else
    some (Step.next (IntKind.i64.wrap (i+(1:Int))))
  else
   (bH.k1 l).map Step.done
def bH (l:List ak):Option ((List ak×Int)):=
 Loop (bH.b1 l) (0:Int)
def ct.k1:Option Bool:=
 some true
def ct.b1 (a_:List ak) (b:List ak):Int→Option (Step Int Bool)
 | i=>
  if (decide (i < (a_.length:Int)))then
   (idx a_ i).bind fun x=>
   (idx b i).bind fun x1=>
   if (!(x.Low==x1.Low&&(x.High==x1.High&&true)))then
    some (Step.done false)
   else
    some (Step.next (IntKind.i64.wrap (i+(1:Int))))
  else
   (ct.k1).map Step.done
def ct (a_:List ak) (b:List ak):Option Bool:=
 if ((a_.length:Int) != (b.length:Int))then
  some false
 else
  Loop (ct.b1 a_ b) (0:Int)
def dj.k1 (l:List Int) (n:Int) (at_:Int):Option (List Int):=
 (if (decide (at_ < (l.length:Int)))then
   (idx l at_).bind fun n1=>
   some (n1==n)
  else
   some false).bind fun v=>
 if v then
  some l
 else
  (cutH l at_).bind fun _=>
  (room 8 (0+(List.take (Int.toNat at_) l).length)).bind fun _=>
  (room 8 ((List.take (Int.toNat at_) l).length+1)).bind fun _=>
  (cutL l at_).bind fun _=>
  (room 8 ((List.take (Int.toNat at_) l).length+1+(List.drop (Int.toNat at_) l).length)).bind fun _=>
  some (((List.take (Int.toNat at_) l)++([n]))++(List.drop (Int.toNat at_) l))
def dj.b1 (l:List Int) (n:Int):Int→Option (Step Int (List Int))
 | at_1=>
  (if (decide (at_1 < (l.length:Int)))then
    (idx l at_1).bind fun n2=>
    some (decide (n2 < n))
   else
    some false).bind fun v1=>
  if v1 then
   some (Step.next (IntKind.i64.wrap (at_1+(1:Int))))
  else
   (dj.k1 l n at_1).map Step.done
def dj (l:List Int) (n:Int):Option (List Int):=
 Loop (dj.b1 l n) (0:Int)
def bb.k1 (out:List Int):Option (List Int):=
 some out
def bb.k2 (i:Int) (out2:List Int):Option (Step ((List Int×Int)) (List Int)):=
 some (Step.next (out2,(IntKind.i64.wrap (i+(1:Int)))))
def bb.k3 (k:Int) (out4:List Int):Option (Step ((List Int×Int)) (Step ((List Int×Int)) (List Int))):=
 some (Step.next (out4,(IntKind.i64.wrap (k+(1:Int)))))
def bb.b2 (sets:List (List ak)) (i:Int):(List Int×Int)→Option (Step ((List Int×Int)) (Step ((List Int×Int)) (List Int)))
 | (out3,k)=>
  (idx sets i).bind fun xs=>
  if (decide (k < (xs.length:Int)))then
   (idx xs k).bind fun x=>
   (dj out3 x.Low).bind fun r=>
   if (decide (x.High < (1114111:Int)))then
    (dj r (IntKind.i64.wrap (x.High+(1:Int)))).bind fun r1=>
    bb.k3 k r1
   else
    bb.k3 k r
  else
   (bb.k2 i out3).map Step.done
def bb.b1 (sets:List (List ak)):(List Int×Int)→Option (Step ((List Int×Int)) (List Int))
 | (out1,i)=>
  if (decide (i < (sets.length:Int)))then
   Loop (bb.b2 sets i) (out1,(0:Int))
  else
   (bb.k1 out1).map Step.done
def bb (sets:List (List ak)):Option (List Int):=
 Loop (bb.b1 sets) ([(0:Int)],(0:Int))
def bZ.k2 (n:az) (kids1:List az):Option az:=
 some (az.mk n.Kind n.Set kids1)
def bZ.k1 (n:az) (kids:List az):Option az:=
 if (n.Kind==(0:Int))then
  (avP kids).bind fun l=>
  bZ.k2 n l
 else
  bZ.k2 n kids
def bZ.b1 (self:az→Option az) (n:az):(List az×Int)→Option (Step ((List az×Int)) az)
 | (kids2,v)=>
  if (decide (v < (n.Kids.length:Int)))then
   (idx n.Kids v).bind fun x=>
   (self x).bind fun r=>
   (room 40 (kids2.length+1)).bind fun _=>
   some (Step.next ((kids2++([r])),(IntKind.i64.wrap (v+(1:Int)))))
  else
   (bZ.k1 n kids2).map Step.done
def bZ.r:Nat→az→Option az
 | 0,_=>none
 | fu+1,n=>
  Loop (bZ.b1 (bZ.r fu) n) ([],(0:Int))
def bZ (n:az):Option az:=lim fun fuZ=>bZ.r fuZ n
def im (self:az→Option Bool) (n:az):Option Bool:=
 (self n).bind fun r=>
 some (!r)
def aD.k1:Option Int:=
 some (-1:Int)
def aD.b1 (s:List az) (f:az→Option Bool):Int→Option (Step Int Int)
 | v=>
  if (decide (v < (s.length:Int)))then
   (idx s v).bind fun x=>
   (f x).bind fun r=>
   if r then
    some (Step.done v)
   else
    some (Step.next (IntKind.i64.wrap (v+(1:Int))))
  else
   (aD.k1).map Step.done
def aD (s:List az) (f:az→Option Bool):Option Int:=
 Loop (aD.b1 s f) (0:Int)
def cd (s:List az) (f:az→Option Bool):Option Bool:=
 (aD s f).bind fun r=>
 some (decide (r≥(0:Int)))
def bm.k1 (self:az→Option Bool) (n:az) (fits:Bool):Option Bool:=
 (if fits then
   (cd n.Kids (fun x0=>im self x0)).bind fun r=>
   some (!r)
  else
   some false).bind fun v=>
 some v
def bm.k2 (self:az→Option Bool) (n:az) (v1:Bool):Option Bool:=
 if v1 then
  bm.k1 self n ((n.Kids.length:Int)==(1:Int))
 else
  bm.k1 self n false
def bm.r:Nat→az→Option Bool
 | 0,_=>none
 | fu+1,n=>
  if (n.Kind==(1:Int))then
   if ((n.Kids.length:Int)==(0:Int))then
    if (decide (n.Set≥(0:Int)))then
     bm.k1 (bm.r fu) n (decide (n.Set≤(63:Int)))
    else
     bm.k1 (bm.r fu) n false
   else
    bm.k1 (bm.r fu) n false
  else
   if (n.Kind==(0:Int))then
    bm.k1 (bm.r fu) n true
   else
    if (n.Kind==(2:Int))then
     bm.k1 (bm.r fu) n (decide ((n.Kids.length:Int) > (0:Int)))
    else
     if (n.Kind==(3:Int))then
      bm.k2 (bm.r fu) n (n.Kind==(3:Int))
     else
      if (n.Kind==(4:Int))then
       bm.k2 (bm.r fu) n (n.Kind==(4:Int))
      else
       bm.k2 (bm.r fu) n (n.Kind==(5:Int))
def bm (n:az):Option Bool:=lim fun fuZ=>bm.r fuZ n
def bx.k1 (k:Int):Option Int:=
 some k
def bx.b1 (self:az→Option Int) (n:az):(Int×Int)→Option (Step ((Int×Int)) Int)
 | (k1,v)=>
  if (decide (v < (n.Kids.length:Int)))then
   (idx n.Kids v).bind fun x=>
   (self x).bind fun r=>
   some (Step.next ((IntKind.i64.wrap (k1+r)),(IntKind.i64.wrap (v+(1:Int)))))
  else
   (bx.k1 k1).map Step.done
def bx.r:Nat→az→Option Int
 | 0,_=>none
 | fu+1,n=>
  if (n.Kind==(1:Int))then
   some (1:Int)
  else
   Loop (bx.b1 (bx.r fu) n) ((0:Int),(0:Int))
def bx (n:az):Option Int:=lim fun fuZ=>bx.r fuZ n
def al.k2 (newslice:List Int):Option (List Int):=
 some newslice
def al.b1 (slices:List (List Int)):(List Int×Int)→Option (Step ((List Int×Int)) (List Int))
 | (newslice1,v)=>
  if (decide (v < (slices.length:Int)))then
   (idx slices v).bind fun xs=>
   (room 8 (newslice1.length+xs.length)).bind fun _=>
   some (Step.next ((newslice1++xs),(IntKind.i64.wrap (v+(1:Int)))))
  else
   (al.k2 newslice1).map Step.done
def al.k1 (slices:List (List Int)) (size:Int):Option (List Int):=
 (dq [] size).bind fun r=>
 Loop (al.b1 slices) (r,(0:Int))
def al.b2 (slices:List (List Int)):(Int×Int)→Option (Step ((Int×Int)) (List Int))
 | (size1,v1)=>
  if (decide (v1 < (slices.length:Int)))then
   (idx slices v1).bind fun xs1=>
   if (decide ((IntKind.i64.wrap (size1+(xs1.length:Int))) < (0:Int)))then
    none
   else
    some (Step.next ((IntKind.i64.wrap (size1+(xs1.length:Int))),(IntKind.i64.wrap (v1+(1:Int)))))
  else
   (al.k1 slices size1).map Step.done
def al (slices:List (List Int)):Option (List Int):=
 Loop (al.b2 slices) ((0:Int),(0:Int))
def bU (p:List Int) (more:List Int):Option (List Int):=
 (al ([p,more])).bind fun r=>
 (sZ r).bind fun l=>
 (ch l).bind fun r1=>
 some r1
def cx.k1 (a_:cu) (Follow:List (List Int)):Option cu:=
 some (cu.mk a_.Null a_.Sets a_.First a_.Last Follow)
def cx.b1 (last:List Int) (first:List Int) (a_:cu):(Int×List (List Int))→Option (Step ((Int×List (List Int))) cu)
 | (v,Follow1)=>
  if (decide (v < (last.length:Int)))then
   (idx last v).bind fun n=>
   (idx Follow1 (IntKind.i64.wrap (n - (1:Int)))).bind fun xs=>
   (bU xs first).bind fun r=>
   some (Step.next ((IntKind.i64.wrap (v+(1:Int))),(List.set Follow1 (Int.toNat (IntKind.i64.wrap (n - (1:Int)))) r)))
  else
   (cx.k1 a_ Follow1).map Step.done
def cx (last:List Int) (first:List Int) (a_:cu):Option cu:=
 Loop (cx.b1 last first a_) ((0:Int),a_.Follow)
def bK.k2 (x:ar) (y:ar) (r:cu) (first:List Int) (last:List Int):Option ((ar×cu)):=
 some ((ar.mk (x.null&&y.null) first last),r)
def bK.k1 (x:ar) (y:ar) (r:cu) (first:List Int):Option ((ar×cu)):=
 if y.null then
  (bU x.last y.last).bind fun r1=>
  bK.k2 x y r first r1
 else
  bK.k2 x y r first y.last
def bK (x:ar) (y:ar) (a_:cu):Option ((ar×cu)):=
 (cx x.last y.first a_).bind fun r=>
 if x.null then
  (bU x.first y.first).bind fun r2=>
  bK.k1 x y r r2
 else
  bK.k1 x y r x.first
def fo (x:ar) (y:ar):Option ar:=
 (if x.null then
   (bU x.first y.first).bind fun r=>
   (bU x.last y.last).bind fun r1=>
   some (true,r,r1)
  else
   (bU x.first y.first).bind fun r2=>
   (bU x.last y.last).bind fun r3=>
   some (y.null,r2,r3)).bind fun (null,first,last)=>
 some (ar.mk null first last)
def aP.k2 (n:az) (r:(ar×cu)) (Null:Bool) (Sets:List Int) (First:List Int) (Last:List Int) (Follow:List (List Int)):Option ((ar×cu)):=
 some ((ar.mk (r.1.null||(n.Kind != (4:Int))) r.1.first r.1.last),(cu.mk Null Sets First Last Follow))
def aP.k1 (self:cu→az→Option ((ar×cu))) (a_:cu) (n:az):Option ((ar×cu)):=
 (n.Kids[0]?).bind fun x=>
 (self a_ x).bind fun r=>
 if (n.Kind != (5:Int))then
  (cx r.1.last r.1.first r.2).bind fun r1=>
  aP.k2 n r r1.Null r1.Sets r1.First r1.Last r1.Follow
 else
  aP.k2 n r r.2.Null r.2.Sets r.2.First r.2.Last r.2.Follow
def aP.k3 (null1:Bool) (first:List Int) (last:List Int) (Null1:Bool) (Sets1:List Int) (First1:List Int) (Last1:List Int) (Follow1:List (List Int)):Option ((ar×cu)):=
 some ((ar.mk null1 first last),(cu.mk Null1 Sets1 First1 Last1 Follow1))
def aP.b1 (self:cu→az→Option ((ar×cu))) (n:az):(Int×Bool×List Int×List Int×Bool×List Int×List Int×List Int×List (List Int))→Option (Step ((Int×Bool×List Int×List Int×Bool×List Int×List Int×List Int×List (List Int))) ((ar×cu)))
 | (v,null2,first1,last1,Null2,Sets2,First2,Last2,Follow2)=>
  if (decide (v < (n.Kids.length:Int)))then
   (idx n.Kids v).bind fun x1=>
   (self (cu.mk Null2 Sets2 First2 Last2 Follow2) x1).bind fun r2=>
   (bK (ar.mk null2 first1 last1) r2.1 r2.2).bind fun r3=>
   some (Step.next ((IntKind.i64.wrap (v+(1:Int))),r3.1.null,r3.1.first,r3.1.last,r3.2.Null,r3.2.Sets,r3.2.First,r3.2.Last,r3.2.Follow))
  else
   (aP.k3 null2 first1 last1 Null2 Sets2 First2 Last2 Follow2).map Step.done
def aP.k4 (null3:Bool) (first2:List Int) (last2:List Int) (Null3:Bool) (Sets3:List Int) (First3:List Int) (Last3:List Int) (Follow3:List (List Int)):Option ((ar×cu)):=
 some ((ar.mk null3 first2 last2),(cu.mk Null3 Sets3 First3 Last3 Follow3))
def aP.b2 (self:cu→az→Option ((ar×cu))) (n:az):(Int×Bool×List Int×List Int×Bool×List Int×List Int×List Int×List (List Int))→Option (Step ((Int×Bool×List Int×List Int×Bool×List Int×List Int×List Int×List (List Int))) ((ar×cu)))
 | (v1,null4,first3,last3,Null4,Sets4,First4,Last4,Follow4)=>
  if (decide (v1 < (n.Kids.length:Int)))then
   (idx n.Kids v1).bind fun x2=>
   (self (cu.mk Null4 Sets4 First4 Last4 Follow4) x2).bind fun r4=>
   (fo (ar.mk null4 first3 last3) r4.1).bind fun r5=>
   some (Step.next ((IntKind.i64.wrap (v1+(1:Int))),r5.null,r5.first,r5.last,r4.2.Null,r4.2.Sets,r4.2.First,r4.2.Last,r4.2.Follow))
  else
   (aP.k4 null4 first3 last3 Null4 Sets4 First4 Last4 Follow4).map Step.done
def aP.r:Nat→cu→az→Option ((ar×cu))
 | 0,_,_=>none
 | fu+1,a_,n=>
  if (n.Kind==(1:Int))then
   (room 8 (a_.Sets.length+1)).bind fun _=>
   (room 24 (a_.Follow.length+1)).bind fun _=>
   some ((ar.mk false ([((a_.Sets++([n.Set])).length:Int)]) ([((a_.Sets++([n.Set])).length:Int)])),(cu.mk a_.Null (a_.Sets++([n.Set])) a_.First a_.Last (a_.Follow++([[]]))))
  else
   if (n.Kind==(0:Int))then
    Loop (aP.b1 (aP.r fu) n) ((0:Int),true,[],[],a_.Null,a_.Sets,a_.First,a_.Last,a_.Follow)
   else
    if (n.Kind==(2:Int))then
     Loop (aP.b2 (aP.r fu) n) ((0:Int),false,[],[],a_.Null,a_.Sets,a_.First,a_.Last,a_.Follow)
    else
     aP.k1 (aP.r fu) a_ n
def aP (a_:cu) (n:az):Option ((ar×cu)):=lim fun fuZ=>aP.r fuZ a_ n
def iL (n:az):Option ((cu×Int)):=
 (bm n).bind fun r=>
 if (!r)then
  some ((cu.mk false ([]:List Int) ([]:List Int) ([]:List Int) ([]:List (List Int))),(1:Int))
 else
  (bx n).bind fun r1=>
  if (decide (r1 > (300:Int)))then
   some ((cu.mk false ([]:List Int) ([]:List Int) ([]:List Int) ([]:List (List Int))),(3:Int))
  else
   (aP (cu.mk false [] ([]:List Int) ([]:List Int) []) n).bind fun r2=>
   some ((cu.mk r2.1.null r2.2.Sets r2.1.first r2.1.last r2.2.Follow),(0:Int))
def gJ:Option (List Int):=
 some ([(0:Int)])
def cy.k1 (a_:cu) (sign:Int) (all:List Int):Option (List Int):=
 (bU all []).bind fun r=>
 (bW r sign a_).bind fun r1=>
 some r1
def cy.k2 (v:Int) (all2:List Int):Option (Step ((List Int×Int)) (List Int)):=
 some (Step.next (all2,(IntKind.i64.wrap (v+(1:Int)))))
def cy.b1 (a_:cu) (at_:List Int) (sign:Int):(List Int×Int)→Option (Step ((List Int×Int)) (List Int))
 | (all1,v)=>
  if (decide (v < (at_.length:Int)))then
   (idx at_ v).bind fun n=>
   if (n==(0:Int))then
    (room 8 (all1.length+a_.First.length)).bind fun _=>
    cy.k2 v (all1++a_.First)
   else
    (idx a_.Follow (IntKind.i64.wrap (n - (1:Int)))).bind fun xs=>
    (room 8 (all1.length+xs.length)).bind fun _=>
    cy.k2 v (all1++xs)
  else
   (cy.k1 a_ sign all1).map Step.done
def cy (a_:cu) (at_:List Int) (sign:Int):Option (List Int):=
 Loop (cy.b1 a_ at_ sign) ([],(0:Int))
def bf.k1:Option Int:=
 some (-1:Int)
def bf.b1 (s:List Int) (f:Int→Option Bool):Int→Option (Step Int Int)
 | v=>
  if (decide (v < (s.length:Int)))then
   (idx s v).bind fun n=>
   (f n).bind fun r=>
   if r then
    some (Step.done v)
   else
    some (Step.next (IntKind.i64.wrap (v+(1:Int))))
  else
   (bf.k1).map Step.done
def bf (s:List Int) (f:Int→Option Bool):Option Int:=
 Loop (bf.b1 s f) (0:Int)
def cb (s:List Int) (f:Int→Option Bool):Option Bool:=
 (bf s f).bind fun r=>
 some (decide (r≥(0:Int)))
def cg.k1:Option Int:=
 some (-1:Int)
def cg.b1 (s:List Int) (v:Int):Int→Option (Step Int Int)
 | v1=>
  if (decide (v1 < (s.length:Int)))then
   (idx s v1).bind fun n=>
   if (v==n)then
    some (Step.done v1)
   else
    some (Step.next (IntKind.i64.wrap (v1+(1:Int))))
  else
   (cg.k1).map Step.done
def cg (s:List Int) (v:Int):Option Int:=
 Loop (cg.b1 s v) (0:Int)
def cM (s:List Int) (v:Int):Option Bool:=
 (cg s v).bind fun r=>
 some (decide (r≥(0:Int)))
def gP (i:Int) (p1:cu):Option Bool:=
 (if (i==(0:Int))then
   if p1.Null then
    some true
   else
    (cM p1.Last i).bind fun r=>
    some r
  else
   (cM p1.Last i).bind fun r1=>
   some r1).bind fun v=>
 some v
def km (a_:cu) (at_:List Int):Option Bool:=
 (cb at_ (fun x0=>gP x0 a_)).bind fun r=>
 some r
def bk.k2 (newslice:List Int):Option (List Int):=
 some newslice
def bk.b1 (slices:List (List Int)):(List Int×Int)→Option (Step ((List Int×Int)) (List Int))
 | (newslice1,v)=>
  if (decide (v < (slices.length:Int)))then
   (idx slices v).bind fun xs=>
   (room 8 (newslice1.length+xs.length)).bind fun _=>
   some (Step.next ((newslice1++xs),(IntKind.i64.wrap (v+(1:Int)))))
  else
   (bk.k2 newslice1).map Step.done
def bk.k1 (slices:List (List Int)) (size:Int):Option (List Int):=
 (gy [] size).bind fun r=>
 Loop (bk.b1 slices) (r,(0:Int))
def bk.b2 (slices:List (List Int)):(Int×Int)→Option (Step ((Int×Int)) (List Int))
 | (size1,v1)=>
  if (decide (v1 < (slices.length:Int)))then
   (idx slices v1).bind fun xs1=>
   if (decide ((IntKind.i64.wrap (size1+(xs1.length:Int))) < (0:Int)))then
    none
   else
    some (Step.next ((IntKind.i64.wrap (size1+(xs1.length:Int))),(IntKind.i64.wrap (v1+(1:Int)))))
  else
   (bk.k1 slices size1).map Step.done
def bk (slices:List (List Int)):Option (List Int):=
 Loop (bk.b2 slices) ((0:Int),(0:Int))
def dK.k1 (b:List UInt8):Option Str:=
 some b
def dK.b1 (at_:List Int):(List UInt8×Int)→Option (Step ((List UInt8×Int)) Str)
 | (b1,v)=>
  if (decide (v < (at_.length:Int)))then
   (idx at_ v).bind fun n=>
   (room 1 (b1.length+2)).bind fun _=>
   some (Step.next ((b1++([(u8 (IntKind.u8.wrap (shR .i64 n (8:Int)))),(u8 (IntKind.u8.wrap n))])),(IntKind.i64.wrap (v+(1:Int)))))
  else
   (dK.k1 b1).map Step.done
def dK (at_:List Int):Option Str:=
 Loop (dK.b1 at_) ([],(0:Int))
def dc.k1 (s:Int) (m:List (Str×Int)) (v:List (List Int)):Option ((Int×List (Str×Int)×List (List Int))):=
 some (s,m,v)
def dc (at_:List Int) (p1:List (Str×Int)) (p2:List (List Int)):Option ((Int×List (Str×Int)×List (List Int))):=
 (dK at_).bind fun r=>
 if (!(nh r p1).isSome)then
  (room 24 (p2.length+1)).bind fun _=>
  dc.k1 (p2.length:Int) (iW r (p2.length:Int) p1) (p2++([at_]))
 else
  dc.k1 ((nh r p1).getD (0:Int)) p1 p2
def aZ.k1 (Next:List (List Int)) (Final:List Bool):Option ((fa×Int)):=
 some ((fa.mk Next Final),(0:Int))
def aZ.k2 (s:Int) (Next2:List (List Int)) (Final2:List Bool) (v2:List (List Int)) (m1:List (Str×Int)):Option (Step ((Int×List (List Int)×List Bool×List (List Int)×List (Str×Int))) ((fa×Int))):=
 some (Step.next ((IntKind.i64.wrap (s+(1:Int))),Next2,Final2,v2,m1))
def aZ.k3 (a_:cu) (s:Int) (Next1:List (List Int)) (Final1:List Bool) (row:List Int) (v3:List (List Int)) (m2:List (Str×Int)):Option (Step ((Int×List (List Int)×List Bool×List (List Int)×List (Str×Int))) ((fa×Int))):=
 (idx v3 s).bind fun xs=>
 (room 24 (Next1.length+1)).bind fun _=>
 (km a_ xs).bind fun r2=>
 (room 1 (Final1.length+1)).bind fun _=>
 aZ.k2 s (Next1++([row])) (Final1++([r2])) v3 m2
def aZ.k4 (limit:Int) (row1:List Int) (v4:Int) (v5:List (List Int)) (m3:List (Str×Int)) (at_:List Int):Option (Step ((List Int×Int×List (List Int)×List (Str×Int))) (Step ((Int×List (List Int)×List Bool×List (List Int)×List (Str×Int))) ((fa×Int)))):=
 (dc at_ m3 v5).bind fun r4=>
 (room 8 (row1.length+1)).bind fun _=>
 if (decide ((r4.2.2.length:Int) > limit))then
  some (Step.done (Step.done ((fa.mk ([]:List (List Int)) ([]:List Bool)),(8:Int))))
 else
  some (Step.next ((row1++([r4.1])),(IntKind.i64.wrap (v4+(1:Int))),r4.2.2,r4.2.1))
def aZ.b2 (a_:cu) (masks:List Int) (free:Bool) (limit:Int) (s:Int) (Next1:List (List Int)) (Final1:List Bool):(List Int×Int×List (List Int)×List (Str×Int))→Option (Step ((List Int×Int×List (List Int)×List (Str×Int))) (Step ((Int×List (List Int)×List Bool×List (List Int)×List (Str×Int))) ((fa×Int))))
 | (row1,v4,v5,m3)=>
  if (decide (v4 < (masks.length:Int)))then
   (idx masks v4).bind fun n=>
   (idx v5 s).bind fun xs1=>
   (cy a_ xs1 n).bind fun r3=>
   if free then
    gJ.bind fun r5=>
    (bk ([r5,r3])).bind fun r6=>
    aZ.k4 limit row1 v4 v5 m3 r6
   else
    aZ.k4 limit row1 v4 v5 m3 r3
  else
   (aZ.k3 a_ s Next1 Final1 row1 v5 m3).map Step.done
def aZ.b1 (a_:cu) (masks:List Int) (free:Bool) (limit:Int):(Int×List (List Int)×List Bool×List (List Int)×List (Str×Int))→Option (Step ((Int×List (List Int)×List Bool×List (List Int)×List (Str×Int))) ((fa×Int)))
 | (s,Next1,Final1,v1,m)=>
  if (decide (s < (v1.length:Int)))then
   Loop (aZ.b2 a_ masks free limit s Next1 Final1) ([],(0:Int),v1,m)
  else
   (aZ.k1 Next1 Final1).map Step.done
def aZ (a_:cu) (masks:List Int) (free:Bool) (limit:Int):Option ((fa×Int)):=
 if ((decide ((masks.length:Int) < (1:Int)))||((decide ((masks.length:Int) > (200:Int)))||((decide (limit < (1:Int)))||(decide (limit > (5000:Int))))))then
  some ((fa.mk ([]:List (List Int)) ([]:List Bool)),(1:Int))
 else
  gJ.bind fun r=>
  (dc r [] []).bind fun r1=>
  Loop (aZ.b1 a_ masks free limit) ((0:Int),[],[],r1.2.2,r1.2.1)
def eJ (s:Int) (p1:Int):Option Bool:=
 some ((decide (s < (0:Int)))||(decide (s≥p1)))
def fl (row:List Int) (p1:Int) (p2:Int→Option Bool):Option Bool:=
 (if ((row.length:Int) != p1)then
   some true
  else
   (cb row p2).bind fun r=>
   some r).bind fun v=>
 some v
def aT.k1:Option Int:=
 some (-1:Int)
def aT.b1 (s:List (List Int)) (f:(List Int)→Option Bool):Int→Option (Step Int Int)
 | v=>
  if (decide (v < (s.length:Int)))then
   (idx s v).bind fun xs=>
   (f xs).bind fun r=>
   if r then
    some (Step.done v)
   else
    some (Step.next (IntKind.i64.wrap (v+(1:Int))))
  else
   (aT.k1).map Step.done
def aT (s:List (List Int)) (f:(List Int)→Option Bool):Option Int:=
 Loop (aT.b1 s f) (0:Int)
def cJ (s:List (List Int)) (f:(List Int)→Option Bool):Option Bool:=
 (aT s f).bind fun r=>
 some (decide (r≥(0:Int)))
def iM (d:fa):Option Bool:=
 if ((decide ((d.Next.length:Int) < (1:Int)))||((decide ((d.Next.length:Int) > (5000:Int)))||((d.Final.length:Int) != (d.Next.length:Int))))then
  some false
 else
  (d.Next[0]?).bind fun xs=>
  (if (decide ((xs.length:Int)≥(1:Int)))then
    if (decide ((xs.length:Int)≤(200:Int)))then
     (cJ d.Next (fun x0=>fl x0 (xs.length:Int) (fun x0=>eJ x0 (d.Next.length:Int)))).bind fun r=>
     some (!r)
    else
     some false
   else
    some false).bind fun v1=>
  some v1
def ee.k1 (b:List UInt8):Option Str:=
 some b
def ee.b1 (kind:List Int) (row:List Int):(List UInt8×Int)→Option (Step ((List UInt8×Int)) Str)
 | (b1,v)=>
  if (decide (v < (row.length:Int)))then
   (idx row v).bind fun n1=>
   (idx kind n1).bind fun n2=>
   (room 1 (b1.length+2)).bind fun _=>
   some (Step.next ((b1++([(u8 (IntKind.u8.wrap (shR .i64 n2 (8:Int)))),(u8 (IntKind.u8.wrap n2))])),(IntKind.i64.wrap (v+(1:Int)))))
  else
   (ee.k1 b1).map Step.done
def ee (kind:List Int) (i:Int) (row:List Int):Option Str:=
 (idx kind i).bind fun n=>
 Loop (ee.b1 kind row) ([(u8 (IntKind.u8.wrap (shR .i64 n (8:Int)))),(u8 (IntKind.u8.wrap n))],(0:Int))
def aB.k2 (kind2:List Int) (many1:Int):Option (Step ((List Int×Int)) (List Int)):=
 some (Step.next (kind2,many1))
def aB.k3 (many:Int) (next:List Int) (m:List (Str×Int)):Option (Step ((List Int×Int)) (List Int)):=
 if ((m.length:Int)==many)then
  some (Step.done next)
 else
  aB.k2 next (m.length:Int)
def aB.k4 (kind3:List Int) (next1:List Int) (v:Int) (n:Int) (m2:List (Str×Int)):Option (Step ((List Int×List Int×Int×List (Str×Int))) (Step ((List Int×Int)) (List Int))):=
 (idx next1 v).bind fun n1=>
 some (Step.next (kind3,(List.set next1 (Int.toNat v) n),(IntKind.i64.wrap (v+(1:Int))),m2))
def aB.b2 (d:fa) (kind1:List Int) (many:Int):(List Int×List Int×Int×List (Str×Int))→Option (Step ((List Int×List Int×Int×List (Str×Int))) (Step ((List Int×Int)) (List Int)))
 | (kind3,next1,v,m1)=>
  if (decide (v < (kind1.length:Int)))then
   (idx d.Next v).bind fun xs=>
   (ee kind3 v xs).bind fun r=>
   if (!(nh r m1).isSome)then
    aB.k4 kind3 next1 v (m1.length:Int) (iW r (m1.length:Int) m1)
   else
    aB.k4 kind3 next1 v ((nh r m1).getD (0:Int)) m1
  else
   (aB.k3 many next1 m1).map Step.done
def aB.b1 (d:fa):(List Int×Int)→Option (Step ((List Int×Int)) (List Int))
 | (kind1,many)=>
  (mk 8 (0:Int) (kind1.length:Int)).bind fun _=>
  Loop (aB.b2 d kind1 many) (kind1,(List.replicate (Int.toNat (kind1.length:Int)) (0:Int)),(0:Int),[])
def aB.k1 (d:fa) (kind:List Int):Option (List Int):=
 Loop (aB.b1 d) (kind,(0:Int))
def aB.k5 (v1:Int) (kind5:List Int):Option (Step ((List Int×Int)) (List Int)):=
 some (Step.next (kind5,(IntKind.i64.wrap (v1+(1:Int)))))
def aB.b3 (d:fa):(List Int×Int)→Option (Step ((List Int×Int)) (List Int))
 | (kind4,v1)=>
  if (decide (v1 < ((List.replicate (Int.toNat (d.Next.length:Int)) (0:Int)).length:Int)))then
   (idx d.Final v1).bind fun b=>
   if b then
    (idx kind4 v1).bind fun n2=>
    aB.k5 v1 (List.set kind4 (Int.toNat v1) (1:Int))
   else
    aB.k5 v1 kind4
  else
   (aB.k1 d kind4).map Step.done
def aB (d:fa):Option (List Int):=
 (mk 8 (0:Int) (d.Next.length:Int)).bind fun _=>
 Loop (aB.b3 d) ((List.replicate (Int.toNat (d.Next.length:Int)) (0:Int)),(0:Int))
def dd.k1 (n1:Int) (m:List (Int×Int)) (v:List Int):Option ((Int×List (Int×Int)×List Int)):=
 some (n1,m,v)
def dd (s:Int) (p1:List (Int×Int)) (p2:List Int) (p3:List Int):Option ((Int×List (Int×Int)×List Int)):=
 (idx p2 s).bind fun n=>
 if (!(nh n p1).isSome)then
  (room 8 (p3.length+1)).bind fun _=>
  dd.k1 (p3.length:Int) (iW n (p3.length:Int) p1) (p3++([s]))
 else
  dd.k1 ((nh n p1).getD (0:Int)) p1 p3
def bC.k1 (Next:List (List Int)) (Final:List Bool):Option ((fa×Int)):=
 some ((fa.mk Next Final),(0:Int))
def bC.k2 (i:Int) (m1:List (Int×Int)) (v1:List Int) (Next2:List (List Int)) (Final2:List Bool):Option (Step ((Int×List (Int×Int)×List Int×List (List Int)×List Bool)) ((fa×Int))):=
 some (Step.next ((IntKind.i64.wrap (i+(1:Int))),m1,v1,Next2,Final2))
def bC.k3 (d:fa) (i:Int) (Next1:List (List Int)) (Final1:List Bool) (row:List Int) (m2:List (Int×Int)) (v2:List Int):Option (Step ((Int×List (Int×Int)×List Int×List (List Int)×List Bool)) ((fa×Int))):=
 (idx v2 i).bind fun n1=>
 (idx d.Final n1).bind fun b=>
 (room 24 (Next1.length+1)).bind fun _=>
 (room 1 (Final1.length+1)).bind fun _=>
 bC.k2 i m2 v2 (Next1++([row])) (Final1++([b]))
def bC.b2 (d:fa) (r1:List Int) (i:Int) (Next1:List (List Int)) (Final1:List Bool) (xs:List Int):(List Int×Int×List (Int×Int)×List Int)→Option (Step ((List Int×Int×List (Int×Int)×List Int)) (Step ((Int×List (Int×Int)×List Int×List (List Int)×List Bool)) ((fa×Int))))
 | (row1,v3,m3,v4)=>
  if (decide (v3 < (xs.length:Int)))then
   (idx xs v3).bind fun n2=>
   (dd n2 m3 r1 v4).bind fun r3=>
   (room 8 (row1.length+1)).bind fun _=>
   some (Step.next ((row1++([r3.1])),(IntKind.i64.wrap (v3+(1:Int))),r3.2.1,r3.2.2))
  else
   (bC.k3 d i Next1 Final1 row1 m3 v4).map Step.done
def bC.b1 (d:fa) (r1:List Int):(Int×List (Int×Int)×List Int×List (List Int)×List Bool)→Option (Step ((Int×List (Int×Int)×List Int×List (List Int)×List Bool)) ((fa×Int)))
 | (i,m,v,Next1,Final1)=>
  if (decide (i < (v.length:Int)))then
   (idx v i).bind fun n=>
   (idx d.Next n).bind fun xs=>
   Loop (bC.b2 d r1 i Next1 Final1 xs) ([],(0:Int),m,v)
  else
   (bC.k1 Next1 Final1).map Step.done
def bC (d:fa):Option ((fa×Int)):=
 (iM d).bind fun r=>
 if (!r)then
  some ((fa.mk ([]:List (List Int)) ([]:List Bool)),(1:Int))
 else
  (aB d).bind fun r1=>
  (dd (0:Int) [] r1 []).bind fun r2=>
  Loop (bC.b1 d r1) ((0:Int),r2.2.1,r2.2.2,[],[])
def dH (n:az) (masks:List Int) (limit:Int):Option ((fa×Int)):=
 (iL n).bind fun r=>
 if (r.2 != (0:Int))then
  some ((fa.mk ([]:List (List Int)) ([]:List Bool)),r.2)
 else
  (aZ r.1 masks true limit).bind fun r1=>
  if (r1.2 != (0:Int))then
   some ((fa.mk ([]:List (List Int)) ([]:List Bool)),r1.2)
  else
   (bC r1.1).bind fun r2=>
   some (r2.1,r2.2)
def aA.k2 (props:List cQ):Option (Option bB):=
 (aO props).bind fun r1=>
 (match r1.1 with
 | none=>
  some none
 | some y=>
  some (some y))
def aA.k3 (v:Int) (props2:List cQ):Option (Step ((List cQ×Int)) (Option bB)):=
 some (Step.next (props2,(IntKind.i64.wrap (v+(1:Int)))))
def aA.b1 (a_:aH) (r:List Int):(List cQ×Int)→Option (Step ((List cQ×Int)) (Option bB))
 | (props1,v)=>
  if (decide (v < (r.length:Int)))then
   (idx r v).bind fun n=>
   if (decide (n≤(1114111:Int)))then
    (dS a_ n).bind fun r2=>
    (room 24 (props1.length+1)).bind fun _=>
    aA.k3 v (props1++([(cQ.mk n (1114111:Int) (u8 (IntKind.u8.wrap r2)))]))
   else
    aA.k3 v props1
  else
   (aA.k2 props1).map Step.done
def aA.k1 (a_:aH) (edges:List Int):Option (Option bB):=
 (sZ edges).bind fun l=>
 (cF l).bind fun r=>
 Loop (aA.b1 a_ r) ([],(0:Int))
def aA.k4 (v1:Int) (edges2:List Int):Option (Step ((List Int×Int)) (Option bB)):=
 some (Step.next (edges2,(IntKind.i64.wrap (v1+(1:Int)))))
def aA.b3 (v1:Int) (xs:List ak):(List Int×Int)→Option (Step ((List Int×Int)) (Step ((List Int×Int)) (Option bB)))
 | (edges3,v2)=>
  if (decide (v2 < (xs.length:Int)))then
   (idx xs v2).bind fun x=>
   (room 8 (edges3.length+2)).bind fun _=>
   some (Step.next ((edges3++([x.Low,(IntKind.i64.wrap (x.High+(1:Int)))])),(IntKind.i64.wrap (v2+(1:Int)))))
  else
   (aA.k4 v1 edges3).map Step.done
def aA.b2 (a_:aH) (sets:List (List ak)):(List Int×Int)→Option (Step ((List Int×Int)) (Option bB))
 | (edges1,v1)=>
  if (decide (v1 < (sets.length:Int)))then
   (idx sets v1).bind fun xs=>
   Loop (aA.b3 v1 xs) (edges1,(0:Int))
  else
   (aA.k1 a_ edges1).map Step.done
def aA (a_:aH) (sets:List (List ak)):Option (Option bB):=
 Loop (aA.b2 a_ sets) ([(0:Int)],(0:Int))
def ay.k1 (rules:List bA):Option ((Option aS×Int)):=
 none
def ay.k2 (v1:Int) (rules2:List bA):Option (Step ((Int×List bA)) ((Option aS×Int))):=
 some (Step.next ((IntKind.i64.wrap (v1+(1:Int))),rules2))
def ay.k3 (v1:Int) (rules1:List bA) (x:iV) (Next:List (List Int)) (Final:List Bool) (Next1:List (List Int)) (Final1:List Bool):Option (Step ((Int×List bA)) ((Option aS×Int))):=
 (room 104 (rules1.length+1)).bind fun _=>
 ay.k2 v1 (rules1++([(bA.mk x.Break (ui.mk (fa.mk Next Final) (fa.mk Next1 Final1)))]))
def ay.b1 (p:aW) (limit:Int) (y:aH):(Int×List bA)→Option (Step ((Int×List bA)) ((Option aS×Int)))
 | (v1,rules1)=>
  if (decide (v1 < (p.Rules.length:Int)))then
   (idx p.Rules v1).bind fun x=>
   (bZ x.Right).bind fun r5=>
   (cA y).bind fun r6=>
   (dH ((lG.mk x.Left r5).v0) r6 limit).bind fun r7=>
   if (r7.2 != (0:Int))then
    some (Step.done (none,r7.2))
   else
    (cA y).bind fun r8=>
    (dH ((lG.mk x.Left r5).v1) r8 limit).bind fun r9=>
    if (r9.2 != (0:Int))then
     some (Step.done (none,r9.2))
    else
     ay.k3 v1 rules1 x r7.1.Next r7.1.Final r9.1.Next r9.1.Final
  else
   (ay.k1 rules1).map Step.done
def ay.k4 (y1:bB) (r4:Int) (rules3:List bA):Option ((Option aS×Int)):=
 some ((some (aS.mk rules3 y1 r4)),(0:Int))
def ay.k5 (v2:Int) (rules5:List bA):Option (Step ((Int×List bA)) ((Option aS×Int))):=
 some (Step.next ((IntKind.i64.wrap (v2+(1:Int))),rules5))
def ay.k6 (v2:Int) (rules4:List bA) (x1:iV) (Next2:List (List Int)) (Final2:List Bool) (Next3:List (List Int)) (Final3:List Bool):Option (Step ((Int×List bA)) ((Option aS×Int))):=
 (room 104 (rules4.length+1)).bind fun _=>
 ay.k5 v2 (rules4++([(bA.mk x1.Break (ui.mk (fa.mk Next2 Final2) (fa.mk Next3 Final3)))]))
def ay.b2 (p:aW) (limit:Int) (y:aH) (y1:bB) (r4:Int):(Int×List bA)→Option (Step ((Int×List bA)) ((Option aS×Int)))
 | (v2,rules4)=>
  if (decide (v2 < (p.Rules.length:Int)))then
   (idx p.Rules v2).bind fun x1=>
   (bZ x1.Right).bind fun r10=>
   (cA y).bind fun r11=>
   (dH ((lG.mk x1.Left r10).v0) r11 limit).bind fun r12=>
   if (r12.2 != (0:Int))then
    some (Step.done (none,r12.2))
   else
    (cA y).bind fun r13=>
    (dH ((lG.mk x1.Left r10).v1) r13 limit).bind fun r14=>
    if (r14.2 != (0:Int))then
     some (Step.done (none,r14.2))
    else
     ay.k6 v2 rules4 x1 r12.1.Next r12.1.Final r14.1.Next r14.1.Final
  else
   (ay.k4 y1 r4 rules4).map Step.done
def ay (p:aW) (limit:Int):Option ((Option aS×Int)):=
 ((bz p).bind fun r=>
   if (!r)then
    some true
   else
    if (decide (limit < (1:Int)))then
     some true
    else
     some (decide (limit > (5000:Int)))).bind fun v=>
 if v then
  some (none,(1:Int))
 else
  (aG p.Sets).bind fun r1=>
  (match r1.1 with
  | none=>
   if (r1.2 != (0:Int))then
    some (none,r1.2)
   else
    none
  | some y=>
   if (r1.2 != (0:Int))then
    some (none,r1.2)
   else
    (aA y p.Sets).bind fun r2=>
    (match r2 with
    | none=>
     (dB y).bind fun r3=>
     Loop (ay.b1 p limit y) ((0:Int),[])
    | some y1=>
     (dB y).bind fun r4=>
     Loop (ay.b2 p limit y y1 r4) ((0:Int),[])))
def iR (r:Int):Option Bool:=
 some ((decide (r < (0:Int)))||(decide (r > (1114111:Int))))
def kS (l:List Int):Option Bool:=
 (cb l (iR)).bind fun r=>
 some (!r)
def dh (i:Int) (p1:Int) (p2:List Int):Option Int:=
 if (p1==(1:Int))then
  some (IntKind.i64.wrap ((p2.length:Int) - i))
 else
  some i
def bc.k1 (out:List Bool):Option (List Bool):=
 some out
def bc.k2 (v:Int) (out2:List Bool) (s1:Int):Option (Step ((List Bool×Int×Int)) (List Bool)):=
 some (Step.next (out2,s1,(IntKind.i64.wrap (v+(1:Int)))))
def bc.b1 (m:aS) (l:List Int) (d:fa) (which:Int):(List Bool×Int×Int)→Option (Step ((List Bool×Int×Int)) (List Bool))
 | (out1,s,v)=>
  if (decide (v < ((List.replicate (Int.toNat (IntKind.i64.wrap ((l.length:Int)+(1:Int)))) false).length:Int)))then
   (idx d.Final s).bind fun b=>
   (dh v which l).bind fun r=>
   (idx out1 r).bind fun b1=>
   if (decide (v < (l.length:Int)))then
    (idx d.Next s).bind fun xs=>
    (dh v which l).bind fun r1=>
    (dh (IntKind.i64.wrap (v+(1:Int))) which l).bind fun r2=>
    (idx l (mn r1 r2)).bind fun n=>
    (fE m.trie n).bind fun r3=>
    (idx xs (r3.toNat:Int)).bind fun n1=>
    bc.k2 v (List.set out1 (Int.toNat r) b) n1
   else
    bc.k2 v (List.set out1 (Int.toNat r) b) s
  else
   (bc.k1 out1).map Step.done
def bc (m:aS) (l:List Int) (d:fa) (which:Int):Option (List Bool):=
 (mk 1 false (IntKind.i64.wrap ((l.length:Int)+(1:Int)))).bind fun _=>
 Loop (bc.b1 m l d which) ((List.replicate (Int.toNat (IntKind.i64.wrap ((l.length:Int)+(1:Int)))) false),(0:Int),(0:Int))
def aq.k2 (out1:List Int):Option (List Int):=
 some out1
def aq.k3 (k:Int) (out3:List Int):Option (Step ((List Int×Int)) (List Int)):=
 some (Step.next (out3,(IntKind.i64.wrap (k - (1:Int)))))
def aq.k4 (v:Int) (out5:List Int):Option (Step ((List Int×Int)) (Step ((List Int×Int)) (List Int))):=
 some (Step.next (out5,(IntKind.i64.wrap (v+(1:Int)))))
def aq.b2 (out2:List Int) (k:Int) (r:List Bool) (r1:List Bool):(List Int×Int)→Option (Step ((List Int×Int)) (Step ((List Int×Int)) (List Int)))
 | (out4,v)=>
  if (decide (v < (out2.length:Int)))then
   ((idx r v).bind fun b=>
     if b then
      (idx r1 v).bind fun b1=>
      some b1
     else
      some false).bind fun v1=>
   if v1 then
    (idx out4 v).bind fun n=>
    aq.k4 v (List.set out4 (Int.toNat v) k)
   else
    aq.k4 v out4
  else
   (aq.k3 k out4).map Step.done
def aq.b1 (m:aS) (l:List Int):(List Int×Int)→Option (Step ((List Int×Int)) (List Int))
 | (out2,k)=>
  if (decide (k≥(0:Int)))then
   (idx m.rules k).bind fun x=>
   (bc m l x.states.v0 (0:Int)).bind fun r=>
   (bc m l x.states.v1 (1:Int)).bind fun r1=>
   Loop (aq.b2 out2 k r r1) (out2,(0:Int))
  else
   (aq.k2 out2).map Step.done
def aq.k1 (m:aS) (l:List Int) (out:List Int):Option (List Int):=
 Loop (aq.b1 m l) (out,(IntKind.i64.wrap ((m.rules.length:Int) - (1:Int))))
def aq.b3 (m:aS) (l:List Int):(List Int×Int)→Option (Step ((List Int×Int)) (List Int))
 | (out6,v2)=>
  if (decide (v2 < ((List.replicate (Int.toNat (IntKind.i64.wrap ((l.length:Int)+(1:Int)))) (0:Int)).length:Int)))then
   (idx out6 v2).bind fun n1=>
   some (Step.next ((List.set out6 (Int.toNat v2) (-1:Int)),(IntKind.i64.wrap (v2+(1:Int)))))
  else
   (aq.k1 m l out6).map Step.done
def aq (m:aS) (l:List Int):Option (List Int):=
 (mk 8 (0:Int) (IntKind.i64.wrap ((l.length:Int)+(1:Int)))).bind fun _=>
 Loop (aq.b3 m l) ((List.replicate (Int.toNat (IntKind.i64.wrap ((l.length:Int)+(1:Int)))) (0:Int)),(0:Int))
def aM.k1 (out:List Int):Option (List Int):=
 some out
def aM.k2 (v:Int) (out2:List Int):Option (Step ((List Int×Int)) (List Int)):=
 some (Step.next (out2,(IntKind.i64.wrap (v+(1:Int)))))
def aM.b1 (m:aS) (l:List Int) (r1:List Int):(List Int×Int)→Option (Step ((List Int×Int)) (List Int))
 | (out1,v)=>
  if (decide (v < (r1.length:Int)))then
   (idx r1 v).bind fun n=>
   (if (v==(0:Int))then
     some true
    else
     if (v==(l.length:Int))then
      some true
     else
      if (decide (n < (0:Int)))then
       some true
      else
       (idx m.rules n).bind fun x=>
       some x.breaks).bind fun v1=>
   if v1 then
    (room 8 (out1.length+1)).bind fun _=>
    aM.k2 v (out1++([v]))
   else
    aM.k2 v out1
  else
   (aM.k1 out1).map Step.done
def aM (m:aS) (l:List Int):Option (List Int):=
 (kS l).bind fun r=>
 if (!r)then
  some ([]:List Int)
 else
  (aq m l).bind fun r1=>
  Loop (aM.b1 m l r1) ([],(0:Int))
def cZ (m:aS) (l:List Int) (i:Int):Option Bool:=
 (aM m l).bind fun r=>
 (cM r i).bind fun r1=>
 some r1
def bj.k1:Option Bool:=
 some true
def bj.b1 (a_:List Int) (b:List Int):Int→Option (Step Int Bool)
 | i=>
  if (decide (i < (a_.length:Int)))then
   (idx a_ i).bind fun n=>
   (idx b i).bind fun n1=>
   if (n != n1)then
    some (Step.done false)
   else
    some (Step.next (IntKind.i64.wrap (i+(1:Int))))
  else
   (bj.k1).map Step.done
def bj (a_:List Int) (b:List Int):Option Bool:=
 if ((a_.length:Int) != (b.length:Int))then
  some false
 else
  Loop (bj.b1 a_ b) (0:Int)
def eh:Option Bool:=
 (dJ ([(u8 (115:Int)),(u8 (101:Int)),(u8 (116:Int)),(u8 (32:Int)),(u8 (97:Int)),(u8 (32:Int)),(u8 (61:Int)),(u8 (32:Int)),(u8 (91:Int)),(u8 (97:Int)),(u8 (45:Int)),(u8 (122:Int)),(u8 (93:Int)),(u8 (59:Int)),(u8 (32:Int)),(u8 (107:Int)),(u8 (101:Int)),(u8 (101:Int)),(u8 (112:Int)),(u8 (32:Int)),(u8 (97:Int)),(u8 (32:Int)),(u8 (47:Int)),(u8 (32:Int)),(u8 (97:Int)),(u8 (59:Int))])).bind fun r=>
 (ay r.1 (100:Int)).bind fun r1=>
 (match r1.1 with
 | none=>
  some false
 | some y=>
  (if (r.2.2==(0:Int))then
    if (r1.2==(0:Int))then
     (dL ([(u8 (97:Int)),(u8 (98:Int)),(u8 (32:Int)),(u8 (99:Int))])).bind fun r2=>
     (aM y r2).bind fun r3=>
     (bj r3 ([(0:Int),(2:Int),(3:Int),(4:Int)])).bind fun r4=>
     some r4
    else
     some false
   else
    some false).bind fun v=>
  some v)
def av.k1 (r8:List Int) (r9:List Int):Option Bool:=
 (if ((r8.length:Int)==(mn (r9.length:Int) (2:Int)))then
   none
  else
   some ()).bind fun _=>
 some false
def av.b1 (l:List Int) (y:aS) (r8:List Int) (r9:List Int):Int→Option (Step Int Bool)
 | i=>
  if (decide (i < (l.length:Int)))then
   (cZ y l i).bind fun r11=>
   if r11 then
    some (Step.done false)
   else
    some (Step.next (IntKind.i64.wrap (i+(1:Int))))
  else
   (av.k1 r8 r9).map Step.done
def av.k2 (l:List Int) (y4:aS) (r13:List Int) (r14:List Int):Option Bool:=
 (if ((r13.length:Int)==(mn (r14.length:Int) (2:Int)))then
   (aM y4 l).bind fun r16=>
   some (decide ((r16.length:Int)≤(r14.length:Int)))
  else
   some false).bind fun v5=>
 some v5
def av.b2 (l:List Int) (y:aS) (y4:aS) (r13:List Int) (r14:List Int):Int→Option (Step Int Bool)
 | i1=>
  if (decide (i1 < (l.length:Int)))then
   (cZ y l i1).bind fun r17=>
   if r17 then
    some (Step.done false)
   else
    some (Step.next (IntKind.i64.wrap (i1+(1:Int))))
  else
   (av.k2 l y4 r13 r14).map Step.done
def av (p:aW) (l:List Int) (is:Bool):Option Bool:=
 eh.bind fun r=>
 (aN p).bind fun r1=>
 if ((!r)||((!r1)||(decide ((l.length:Int) > (50:Int)))))then
  some r
 else
  (room 88 (1+p.Rules.length)).bind fun _=>
  (ay (aW.mk p.Sets (([(iV.mk is (az.mk (0:Int) (0:Int) []) (az.mk (0:Int) (0:Int) []))])++p.Rules)) (40:Int)).bind fun r2=>
  (match r2.1 with
  | none=>
   (ay p (40:Int)).bind fun r3=>
   (match r3.1 with
   | none=>
    (ay (aW.mk [] []) (40:Int)).bind fun r4=>
    (match r4.1 with
    | none=>
     some false
    | some y2=>
     if ((r4.2 != (0:Int))||(!((r2.2==(0:Int))==(r3.2==(0:Int)))))then
      some false
     else
      if (r2.2 != (0:Int))then
       some true
      else
       none)
   | some y1=>
    (ay (aW.mk [] []) (40:Int)).bind fun r5=>
    (match r5.1 with
    | none=>
     some false
    | some y3=>
     if ((r5.2 != (0:Int))||(!((r2.2==(0:Int))==(r3.2==(0:Int)))))then
      some false
     else
      if (r2.2 != (0:Int))then
       some false
      else
       none))
  | some y=>
   (ay p (40:Int)).bind fun r6=>
   (match r6.1 with
   | none=>
    (ay (aW.mk [] []) (40:Int)).bind fun r7=>
    (match r7.1 with
    | none=>
     some false
    | some y5=>
     if ((r7.2 != (0:Int))||(!((r2.2==(0:Int))==(r6.2==(0:Int)))))then
      some false
     else
      if (r2.2 != (0:Int))then
       some false
      else
       (aM y l).bind fun r8=>
       (aM y5 l).bind fun r9=>
       if is then
        (bj r8 r9).bind fun r10=>
        some r10
       else
        Loop (av.b1 l y r8 r9) (1:Int))
   | some y4=>
    (ay (aW.mk [] []) (40:Int)).bind fun r12=>
    (match r12.1 with
    | none=>
     some false
    | some y6=>
     if ((r12.2 != (0:Int))||(!((r2.2==(0:Int))==(r6.2==(0:Int)))))then
      some false
     else
      if (r2.2 != (0:Int))then
       some false
      else
       (aM y l).bind fun r13=>
       (aM y6 l).bind fun r14=>
       if is then
        (bj r13 r14).bind fun r15=>
        some r15
       else
        Loop (av.b2 l y y4 r13 r14) (1:Int))))
end
end Go.Val
namespace Go.Val
set_option maxRecDepth 20000
open Go.Proofs
theorem jH:∀ (fu:Nat) (n:az) (most:Int) (deep:Int) {h:ax} {a:Int} (e:aV.r fu n most deep=some a),
  cp CT 30 [.cv (.val (.agg [.int .i64 n.Kind,.int .i64 n.Set,.sl (List.map bR n.Kids)])),.cv (.val (.int .i64 most)),.cv (.val (.int .i64 deep))] h fun o h'=>o=[.cv (.val (.int .i64 a))]∧h'=h:=by
 intro fu
 induction fu with
 | zero=>intros;rename_i e;simp[aV.r]at e
 | succ fu ih=>
  intro n most deep h a e
  refine bv Tryz.func30 fun hwf hu=>?_
  obtain ⟨D,hD,hr⟩:=Holds.one e
  dsimp only[aV.r]at hr
  change aR _ _ _ _ _ ⟨[(0,.cv (.val (.agg [.int .i64 n.Kind,.int .i64 n.Set,.sl (List.map bR n.Kids)]))),(1,.cv (.val (.int .i64 most))),(2,.cv (.val (.int .i64 deep)))],h.on []⟩
  iterate 2 refine A_s ?_
  refine aj ?_
  refine A_s ?_
  refine w_K (D:=D) (fun xX:Int=>⟨[(1,.cv (.val (.int .i64 most))),(7,.cv (.val (.int .i64 xX)))],h.on []⟩) (fun xX:Int=>aV.k1 most xX) (fun xX s' hr ht=>?_) ?_
  ·obtain ⟨k,rfl⟩:∃ z,z=xX:=⟨xX,rfl⟩
   dsimp only[aV.k1]at hr ht
   refine (eO ht ?_)
   refine A_s ?_
   refine bu ?_
   obtain rfl:=hD _ hr
   exact (ba (ai (os':=[]) (sl:=[(6,.cv (.val (.int .i64 (mn k most))))]) hwf) ⟨rfl,aK hwf⟩)
  ·refine aI ?_
   refine cI (fun xX:(Int×Int)=>⟨[(1,.cv (.val (.int .i64 most))),(2,.cv (.val (.int .i64 deep))),(3,.cv (.val (.ptr (some (h.n+0,0))))),(7,.cv (.val (.int .i64 xX.1))),(8,.cv (.val (.int .i64 xX.2)))],h.on [some (.cells [.val (.int .i64 n.Kind),.val (.int .i64 n.Set),.val (.sl (List.map bR n.Kids))])]⟩) hr (ai hwf) (fun W1 xX hr=>?_)
   obtain ⟨k1,i⟩:=xX
   dsimp only[aV.b1]at hr
   refine aj ?_
   refine A_s ?_
   refine au hr (fun cF1 hr=>?_) (fun cF1 hr=>?_)
   ·refine aL ?_
    refine w_n ?_
    refine aj ?_
    refine aI ?_
    refine aj ?_
    refine cq (sj:=⟨[(1,.cv (.val (.int .i64 most))),(2,.cv (.val (.int .i64 deep))),(3,.cv (.val (.ptr (some (h.n+0,0))))),(7,.cv (.val (.int .i64 k1))),(8,.cv (.val (.int .i64 i))),(22,.cv (.val (.bool ((decide (k1≥most))||(decide (deep≤(0:Int)))))))],h.on [some (.cells [.val (.int .i64 n.Kind),.val (.int .i64 n.Set),.val (.sl (List.map bR n.Kids))])]⟩) (bE ?_) ?_
    ·refine aw 4 ?_
     rcases Bool.eq_false_or_eq_true (decide (k1≥most))with cF2 | cF2
     ·refine ae ?_
      exact w_k (ai hwf)
     ·refine ae ?_
      exact w_k (ai hwf)
    refine au hr (fun cF3 hr=>?_) (fun cF3 hr=>?_)
    ·refine aj ?_
     refine ah ?_
     refine w_n ?_
     refine bu ?_
     obtain rfl:=hD _ hr
     exact (cw (fQ (cw (cw (fQ (cw (cw (ba (ai (os':=[]) (sl:=[(6,.cv (.val (.int .i64 most)))]) hwf) ⟨rfl,aK hwf⟩))))))))
    ·refine aL ?_
     refine w_n ?_
     refine bE ?_
     obtain ⟨x,nF4,eF5,gF6,hr⟩:=hr.idx
     refine aw 11 ?_
     obtain ⟨r,eF7,hr⟩:=hr.bind
     refine be (out:=?o_eF7) (hp:=?p_eF7) ?c_eF7 ?d_eF7 ?_
     case c_eF7=>exact ih x (IntKind.i64.wrap (most - k1)) (IntKind.i64.wrap (deep - (1:Int))) eF7
     case d_eF7=>rfl
     refine ae ?_
     refine (eY (w_n ?_))
     refine ah ?_
     exact (w_k ⟨((IntKind.i64.wrap (k1+r)),(IntKind.i64.wrap (i+(1:Int)))),hr,(ai hwf)⟩)
   ·refine cG ?_
    exact (dG (dG (iy (w_k ⟨k1,(hr).map,(ai hwf)⟩))))
theorem gH (n:az) (most:Int) (deep:Int) {h:ax} {a:Int} (e:aV n most deep=some a):
  cp CT 30 [.cv (.val (.agg [.int .i64 n.Kind,.int .i64 n.Set,.sl (List.map bR n.Kids)])),.cv (.val (.int .i64 most)),.cv (.val (.int .i64 deep))] h fun o h'=>o=[.cv (.val (.int .i64 a))]∧h'=h:=by
 obtain ⟨fuN,fuH⟩:=lK e
 exact jH fuN n most deep (fuH fuN (Nat.le_refl fuN))
theorem lY (p:aW) {h:ax} {a:Bool} (e:aN p=some a):
  cp CT 10 [.cv (.val (.agg [.sl (List.map (eL bi) p.Sets),.sl (List.map fp p.Rules)]))] h fun o h'=>o=[.cv (.val (.bool a))]∧h'=h:=by
 refine bv Tryz.func10 fun hwf hu=>?_
 obtain ⟨D,hD,hr⟩:=Holds.one e
 dsimp only[aN]at hr
 change aR _ _ _ _ _ ⟨[(0,.cv (.val (.agg [.sl (List.map (eL bi) p.Sets),.sl (List.map fp p.Rules)])))],h.on []⟩
 refine A_s ?_
 refine aj ?_
 refine cq (sj:=⟨[(1,.cv (.val (.ptr (some (h.n+0,0))))),(14,.cv (.val (.bool ((decide ((p.Sets.length:Int) > (8:Int)))||(decide ((p.Rules.length:Int) > (6:Int)))))))],h.on [some (.cells [.val (.sl (List.map (eL bi) p.Sets)),.val (.sl (List.map fp p.Rules))])]⟩) (bE ?_) ?_
 ·refine aw 5 ?_
  rcases Bool.eq_false_or_eq_true (decide ((p.Sets.length:Int) > (8:Int)))with cF1 | cF1
  ·refine ae ?_
   exact w_k (ai hwf)
  ·refine ae ?_
   exact w_k (ai hwf)
 refine au hr (fun cF2 hr=>?_) (fun cF2 hr=>?_)
 ·refine aj ?_
  refine ah ?_
  refine w_n ?_
  refine bu ?_
  obtain rfl:=hD _ hr
  exact (cw (ba (ai (os':=[]) (sl:=[(2,.cv (.val (.bool false)))]) hwf) ⟨rfl,aK hwf⟩))
 ·refine aL ?_
  refine w_n ?_
  refine aj ?_
  refine A_s ?_
  refine w_K (D:=D) (fun xX:Unit=>⟨[(1,.cv (.val (.ptr (some (h.n+0,0)))))],h.on [some (.cells [.val (.sl (List.map (eL bi) p.Sets)),.val (.sl (List.map fp p.Rules))])]⟩) (fun xX:Unit=>aN.k1 p) (fun xX s' hr ht=>?_) ?_
  ·dsimp only[aN.k1]at hr ht
   refine (eO ht ?_)
   refine aj ?_
   refine A_s ?_
   refine w_K (D:=D) (fun xX:Unit=>⟨[],h.on []⟩) (fun xX:Unit=>aN.k2) (fun xX s' hr ht=>?_) ?_
   ·dsimp only[aN.k2]at hr ht
    refine (eO ht ?_)
    refine A_s ?_
    refine bu ?_
    obtain rfl:=hD _ hr
    exact (ba (ai (os':=[]) (sl:=[(2,.cv (.val (.bool true)))]) hwf) ⟨rfl,aK hwf⟩)
   ·refine aI ?_
    refine cI (fun xX:Int=>⟨[(1,.cv (.val (.ptr (some (h.n+0,0))))),(4,.cv (.val (.int .i64 xX)))],h.on [some (.cells [.val (.sl (List.map (eL bi) p.Sets)),.val (.sl (List.map fp p.Rules))])]⟩) hr (ai hwf) (fun W1 xX hr=>?_)
    obtain ⟨i,rfl⟩:∃ z,z=xX:=⟨xX,rfl⟩
    dsimp only[aN.b1]at hr
    refine aj ?_
    refine A_s ?_
    refine au hr (fun cF3 hr=>?_) (fun cF3 hr=>?_)
    ·refine aL ?_
     refine w_n ?_
     refine aj ?_
     refine aI ?_
     obtain ⟨v1,vF10,hr⟩:=hr.bind
     refine cq (sj:=⟨[(1,.cv (.val (.ptr (some (h.n+0,0))))),(4,.cv (.val (.int .i64 i))),(53,.cv (.val (.bool v1)))],h.on [some (.cells [.val (.sl (List.map (eL bi) p.Sets)),.val (.sl (List.map fp p.Rules))])]⟩) (bE ?_) ?_
     ·have hr:=Holds.intro (D:=fun z=>z=v1) vF10 rfl
      obtain ⟨x,nF4,eF5,gF6,hr⟩:=hr.idx
      refine aw 6 ?_
      obtain ⟨r,eF7,hr⟩:=hr.bind
      refine be (out:=?o_eF7) (hp:=?p_eF7) ?c_eF7 ?d_eF7 ?_
      case c_eF7=>exact gH x.Left (15:Int) (10:Int) eF7
      case d_eF7=>rfl
      refine aw 2 ?_
      rcases hr.ite with ⟨cF8,hr⟩ | ⟨cF8,hr⟩
      ·refine aw 6 ?_
       refine iu ?_
       refine ae ?_
       obtain rfl:_=v1:=hr
       exact w_k (ai hwf)
      ·refine aw 6 ?_
       obtain ⟨r1,eF9,hr⟩:=hr.bind
       refine be (out:=?o_eF9) (hp:=?p_eF9) ?c_eF9 ?d_eF9 ?_
       case c_eF9=>exact gH x.Right (15:Int) (10:Int) eF9
       case d_eF9=>rfl
       refine ae ?_
       obtain rfl:_=v1:=hr
       exact w_k (ai hwf)
     refine au hr (fun cF11 hr=>?_) (fun cF11 hr=>?_)
     ·refine aj ?_
      refine ah ?_
      refine w_n ?_
      refine bu ?_
      obtain rfl:=hD _ hr
      exact (fQ (cw (cw (fQ (cw (cw (ba (ai (os':=[]) (sl:=[(2,.cv (.val (.bool false)))]) hwf) ⟨rfl,aK hwf⟩)))))))
     ·refine aL ?_
      refine (eY (w_n ?_))
      refine ah ?_
      exact (w_k ⟨(IntKind.i64.wrap (i+(1:Int))),hr,(ai hwf)⟩)
    ·refine cG ?_
     exact (dG (dG (iy (w_k ⟨(),(hr).map,(ai hwf)⟩))))
  ·refine aI ?_
   refine cI (fun xX:Int=>⟨[(1,.cv (.val (.ptr (some (h.n+0,0))))),(3,.cv (.val (.int .i64 xX)))],h.on [some (.cells [.val (.sl (List.map (eL bi) p.Sets)),.val (.sl (List.map fp p.Rules))])]⟩) hr (ai hwf) (fun W2 xX hr=>?_)
   obtain ⟨i1,rfl⟩:∃ z,z=xX:=⟨xX,rfl⟩
   dsimp only[aN.b2]at hr
   refine aj ?_
   refine A_s ?_
   refine au hr (fun cF12 hr=>?_) (fun cF12 hr=>?_)
   ·refine aL ?_
    refine w_n ?_
    refine aj ?_
    refine aI ?_
    refine aj ?_
    obtain ⟨xs,nF13,eF14,gF15,hr⟩:=hr.idx
    refine ah ?_
    refine w_n ?_
    refine au hr (fun cF16 hr=>?_) (fun cF16 hr=>?_)
    ·refine aj ?_
     refine ah ?_
     refine w_n ?_
     refine bu ?_
     obtain rfl:=hD _ hr
     exact (fQ (cw (cw (fQ (cw (cw (ba (ai (os':=[]) (sl:=[(2,.cv (.val (.bool false)))]) hwf) ⟨rfl,aK hwf⟩)))))))
    ·refine aL ?_
     refine (eY (w_n ?_))
     refine ah ?_
     exact (w_k ⟨(IntKind.i64.wrap (i1+(1:Int))),hr,(ai hwf)⟩)
   ·refine cG ?_
    exact (dG (dG (iy (w_k ⟨(),(hr).map,(ai hwf)⟩))))
end Go.Val

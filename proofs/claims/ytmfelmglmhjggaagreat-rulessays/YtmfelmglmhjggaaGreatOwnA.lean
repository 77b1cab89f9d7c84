/- A value semantics of the model's programs, sound against it, and functions read off the given program with the proofs that it runs so; no condition. -/
import Derived.Calls
import Derived.Below
import Derived.Laws.AppendOwn
import Derived.Laws.Rows
import Derived.Laws.Cells
import Derived.ArgAppend
import Derived.Laws.StructEq
import Derived.Laws.Strings
import Derived.WideKeyRuns
import Derived.Laws.NewBlocks
import Derived.Laws.OwnMore
import Derived.Lib.ConvBytes
import Derived.Laws.IdiomCopy
set_option linter.all false
set_option linter.unnecessarySimpa false
set_option linter.unusedVariables false
set_option linter.unusedSimpArgs false
namespace Go.Val
theorem oB{α β:Type}(a:α)(f:α→Option β):(some a).bind f=f a:=rfl
theorem gE{α:Type}{l:List α}{i:Nat}(h:i < l.length):l[i]? =some l[i]:=List.getElem?_eq_getElem h
theorem sJ{α:Type}(a b:α):(some a=some b)=(a=b):=Option.some.injEq a b
theorem gD{α:Type}{l:List α}{i:Nat}{a:α}:l.getD i a=l[i]?.getD a:=List.getD_eq_getElem?_getD
theorem gM{α:Type}{l:List α}{n:Nat}(h:n < l.length):l[n]∈l:=List.getElem_mem h
theorem gN{α:Type}{l:List α}{i:Nat}(h:l.length≤i):l[i]? =none:=List.getElem?_eq_none h
theorem bA(a b:Bool):((a&&b)=true)=(a=true∧b=true):=Bool.and_eq_true a b
theorem nR(n:Nat):n≤n:=Nat.le_refl n
theorem lA{α:Type}{a b:List α}:(a++b).length=a.length+b.length:=List.length_append
theorem mC{α:Type}{a b:α}{l:List α}:a∈b::l↔a=b∨a∈l:=List.mem_cons
theorem gS{α:Type}{a d:α}:(some a).getD d=a:=rfl
theorem sI{α:Type}{a b:α}(h:some a=some b):a=b:=Option.some.inj h
theorem lC{α:Type}{a:α}{l:List α}:(a::l).length=l.length+1:=rfl
theorem gP{α β:Type}{f:α→β}{l:List α}{i:Nat}:(l.map f)[i]? =l[i]?.map f:=List.getElem?_map
theorem pJ{α β:Type}(a:α)(b:β)(c:α)(d:β):((a,b)=(c,d))=(a=c∧b=d):=Prod.mk.injEq a b c d
inductive au where
 |int (k:IntKind) (n:Int)
 |bool (b:Bool)
 |str (s:ByteArray)
 |sl (xs:List au)
 |agg (cs:List au)
 |ptr (a:Option (Nat×Nat))
 |map (r:Option Nat)
 |fn (f:FuncId) (first caps:List au)
 |nilfn
 deriving Inhabited
def au.one:au→Bool
 |.agg _=>false
 |_=>true
def au.cells:au→List au
 |.agg cs=>cs
 |d=>[d]
inductive CV where
 |val (d:au)
 |nil
 |row (k:Nat) (xs:List au)
 |dead
 deriving Inhabited
inductive dB where
 |cells (cs:List CV)
 |map (kt:TypeId) (es:List (au×au))
 deriving Inhabited
inductive fb where
 |slot (i:Nat)
 |cell (l i:Nat)
 deriving DecidableEq,Inhabited
inductive SV where
 |cv (c:CV)
 |undef
 |alias (r:fb)
 |imm (cs:List au)
 |elt (r:fb) (i off:Nat)
 |bld (cs:List CV)
 |tup (ds:List au)
 deriving Inhabited
structure bn where
 n:Nat
 at_:Nat→Option dB
mutual
def au.under(n:Nat):au→Prop
 |.sl xs=>cc n xs
 |.agg cs=>cc n cs
 |.ptr (some (l,_))=>l < n
 |.ptr none=>True
 |.map (some l)=>l < n
 |.map none=>True
 |.fn _ as bs=>cc n as∧cc n bs
 |.int _ _=>True
 |.bool _=>True
 |.str _=>True
 |.nilfn=>True
def cc(n:Nat):List au→Prop
 | []=>True
 |d::ds=>d.under n∧cc n ds
end
def CV.under(n:Nat):CV→Prop
 |.val d=>d.under n
 |.nil=>True
 |.row _ xs=>cc n xs
 |.dead=>True
def gw(n:Nat):List CV→Prop
 | []=>True
 |c::cs=>c.under n∧gw n cs
def lc(n:Nat):List (au×au)→Prop
 | []=>True
 |e::es=>(e.1.under n∧e.2.under n)∧lc n es
def dB.under(n:Nat):dB→Prop
 |.cells cs=>gw n cs
 |.map _ es=>lc n es
def fb.under(n:Nat):fb→Prop
 |.slot _=>True
 |.cell l _=>l < n
def SV.under(n:Nat):SV→Prop
 |.cv c=>c.under n
 |.undef=>True
 |.alias r=>r.under n
 |.imm cs=>cc n cs
 |.elt r _ _=>r.under n
 |.bld cs=>gw n cs
 |.tup ds=>cc n ds
def bn.WF(h:bn):Prop:=∀l o,h.at_ l=some o→l < h.n∧o.under h.n
def bn.upd(h:bn)(l:Nat)(o:dB):bn:=⟨h.n,fun i=>if i=l then some o else h.at_ i⟩
def bn.new(h:bn)(o:dB):bn:=⟨h.n+1,fun i=>if i=h.n then some o else h.at_ i⟩
structure bn.Le(h h':bn):Prop where
 n:h.n≤h'.n
 at_:∀i,i < h.n→h'.at_ i=h.at_ i
structure St where
 slots:List (Nat×SV)
 box:bn
def look:List (Nat×SV)→Nat→SV
 | [],_=>.cv .dead
 |(i,v)::l,j=>if i=j then v else look l j
def SV.drop(p:fb→Bool):SV→SV
 |.alias r=>if p r then .cv .dead else .alias r
 |.elt r i o=>if p r then .cv .dead else .elt r i o
 |v=>v
def SV.unal(r:fb):SV→SV:=SV.drop fun r'=>decide (r'=r)
def fb.isCell:fb→Bool
 |.slot _=>false
 |.cell _ _=>true
def SV.uncell:SV→SV:=SV.drop fb.isCell
def SV.refix(r:fb)(d:au):SV→SV
 |.alias r'=>if r'=r then .cv (.val d)else .alias r'
 |.elt r' i o=>if r'=r then .cv .dead else .elt r' i o
 |v=>v
def dy(f:SV→SV):List (Nat×SV)→List (Nat×SV)
 | []=>[]
 |(i,v)::l=>(i,f v)::dy f l
def St.get(s:St)(i:Nat):SV:=look s.slots i
def St.put(s:St)(d:Option Nat)(v:SV):St:=
 match d with
 |none=>s
 |some d=>
  match look s.slots d with
  |.cv (.row _ _)=>⟨(d,v.unal (.slot d))::dy (SV.unal (.slot d)) s.slots,s.box⟩
  |_=>⟨(d,v.unal (.slot d))::s.slots,s.box⟩
def bn.cell(h:bn)(l i:Nat):CV:=
 match h.at_ l with
 |some (.cells cs)=>cs.getD i .dead
 |_=>.dead
def bn.setCell(h:bn)(l i:Nat)(c:CV):bn:=
 match h.at_ l with
 |some (.cells cs)=>h.upd l (.cells (cs.set i c))
 |_=>h
def St.rowAt(s:St):fb→Option (Nat×List au)
 |.slot i=>match s.get i with
  |.cv (.row k xs)=>some (k,xs)
  |_=>none
 |.cell l i=>match s.box.cell l i with
  |.row k xs=>some (k,xs)
  |_=>none
inductive Eff where
 |kill (r:fb)
 |fix (r:fb) (d:au)
 |setRow (r:fb) (k:Nat) (xs:List au)
 |setCell (l i:Nat) (c:CV)
 |new (o:dB)
 |setMap (l:Nat) (kt:TypeId) (es:List (au×au))
 deriving Inhabited
def St.setRoot(s:St)(r:fb)(c:CV):St:=
 match r with
 |.slot i=>⟨(i,.cv c)::s.slots,s.box⟩
 |.cell l i=>⟨s.slots,s.box.setCell l i c⟩
def St.eff(s:St):Eff→St
 |.kill r=>St.setRoot ⟨dy (SV.unal r) s.slots,s.box⟩ r .dead
 |.fix r d=>St.setRoot ⟨dy (SV.refix r d) s.slots,s.box⟩ r (.val d)
 |.setRow r k xs=>s.setRoot r (.row k xs)
 |.setCell l i c=>⟨match s.box.cell l i with|.row _ _=>dy (SV.unal (.cell l i)) s.slots|_=>s.slots,s.box.setCell l i c⟩
 |.new o=>⟨s.slots,s.box.new o⟩
 |.setMap l kt es=>⟨s.slots,s.box.upd l (.map kt es)⟩
def St.effs(s:St):List Eff→St
 | []=>s
 |e::es=>(s.eff e).effs es
def lit:Value→SV
 |.int k n=>.cv (.val (.int k n))
 |.bool b=>.cv (.val (.bool b))
 |.string s=>.cv (.val (.str s))
 |.pointer none=>.cv (.val (.ptr none))
 |.map none=>.cv (.val (.map none))
 |.slice none 0 0=>.cv .nil
 |.nilFunc=>.cv (.val .nilfn)
 |_=>.cv .dead
def St.opv(s:St):Operand→SV
 |.tmp t=>s.get t
 |.const v=>lit v
 |.func f=>.cv (.val (.fn f [] []))
 |.global _=>.cv .dead
def CV.toD:CV→Option au
 |.val d=>some d
 |.nil=>some (.sl [])
 |.row _ xs=>some (.sl xs)
 |.dead=>none
def CV.isRow:CV→Bool
 |.row _ _=>true
 |_=>false
def je:List CV→Option (List au)
 | []=>some []
 |c::cs=>c.toD.bind fun d=>(je cs).bind fun ds=>some (d::ds)
def eQ:List CV→Bool
 | []=>false
 |c::cs=>c.isRow||eQ cs
def St.list(s:St):SV→Option (List au)
 |.cv (.val (.sl xs))=>some xs
 |.cv .nil=>some []
 |.cv (.row _ xs)=>some xs
 |.alias r=>(s.rowAt r).bind fun p=>some p.2
 |_=>none
def mc:Operand→Nat
 |.tmp t=>t
 |_=>0
def St.asVal(s:St)(x:Operand):Option (au×List Eff):=
 match s.opv x with
 |.cv (.val d)=>some (d,[])
 |.cv .nil=>some (.sl [],[])
 |.cv (.row _ xs)=>some (.sl xs,[.fix (.slot (mc x)) (.sl xs)])
 |.alias r=>(s.rowAt r).bind fun p=>some (.sl p.2,[.fix r (.sl p.2)])
 |.bld cs=>(je cs).bind fun ds=>some (.agg ds,[])
 |_=>none
def St.asCells(s:St)(x:Operand):Option (List CV×List Eff):=
 match s.opv x with
 |.cv (.val d)=>some (d.cells.map .val,[])
 |.cv .nil=>some ([.nil],[])
 |.cv (.row k xs)=>some ([.row k xs],[.kill (.slot (mc x))])
 |.alias r=>(s.rowAt r).bind fun p=>some ([.val (.sl p.2)],[.fix r (.sl p.2)])
 |.bld cs=>some (cs,[])
 |_=>none
def St.asInt(s:St)(x:Operand):Option (IntKind×Int):=
 match s.opv x with
 |.cv (.val (.int k n))=>some (k,n)
 |_=>none
def fl(P:Program)(t:TypeId):Bool:=
 match P.underlying t with
 |some (.struct _)=>true
 |some (.array _ _)=>true
 |_=>false
def amO(P:Program)(t:TypeId):Bool:=
 match P.underlying t with
 |some (.int .u8)=>true
 |_=>false
def eM:Value→CV
 |.int k n=>.val (.int k n)
 |.bool b=>.val (.bool b)
 |.string s=>.val (.str s)
 |.pointer none=>.val (.ptr none)
 |.map none=>.val (.map none)
 |.slice none 0 0=>.nil
 |.nilFunc=>.val .nilfn
 |_=>.dead
def cd(P:Program)(t:TypeId):Option (List CV):=
 (P.info? t).bind fun i=>i.zero.bind fun z=>
  match z with
  |.agg cs=>if fl P t then some (cs.toList.map eM)else none
  |z=>if fl P t then none else some [eM z]
def gu(P:Program)(t:TypeId)(ds:List au):Option au:=
 if P.cellsOf t=0 then none else if fl P t then some (.agg ds)else match P.underlying t,ds with|some _,[d]=>some d|_,_=>none
def cL(P:Program)(t:TypeId):Bool:=
 match P.underlying t with
 |some (.struct fs)=>fs.toList.all fun f=>(P.info? f.type).isSome
 |some (.array _ e)=>(P.info? e).isSome
 |_=>false
def fe(P:Program)(t:TypeId):Bool:=
 match P.info? t with
 |some i=>i.zero.isSome
 |none=>false
def lq(P:Program)(t:TypeId):Option au:=(cd P t).bind fun z=>(je z).bind fun z=>gu P t z
def place(P:Program)(t:TypeId)(i:Nat):Option (Nat×Nat):=
 match P.underlying t with
 |some (.struct fs)=>fs[i]?.bind fun f=>some (f.offset,P.cellsOf f.type)
 |some (.array n e)=>if i < n then some (i*P.cellsOf e,P.cellsOf e)else none
 |_=>none
def we(op:BinOp)(k:IntKind)(a b:Int):Option au:=
 match op with
 |.add=>some (.int k (k.wrap (a+b)))
 |.sub=>some (.int k (k.wrap (a - b)))
 |.mul=>some (.int k (k.wrap (a*b)))
 |.quo=>if b=0 then none else some (.int k (k.wrap (a.tdiv b)))
 |.rem=>if b=0 then none else some (.int k (a.tmod b))
 |.and=>some (.int k (k.wrap (BitVec.ofInt k.bits a &&& BitVec.ofInt k.bits b).toNat))
 |.or=>some (.int k (k.wrap (BitVec.ofInt k.bits a ||| BitVec.ofInt k.bits b).toNat))
 |.xor=>some (.int k (k.wrap (BitVec.ofInt k.bits a ^^^ BitVec.ofInt k.bits b).toNat))
 |.andNot=>some (.int k (k.wrap (BitVec.ofInt k.bits a &&& ~~~ BitVec.ofInt k.bits b).toNat))
 |.eql=>some (.bool (a==b))
 |.neq=>some (.bool (a != b))
 |.lss=>some (.bool (decide (a < b)))
 |.leq=>some (.bool (decide (a≤b)))
 |.gtr=>some (.bool (decide (a > b)))
 |.geq=>some (.bool (decide (a≥b)))
 |_=>none
def su(op:BinOp)(k:IntKind)(a b:Int):Option au:=
 if b < 0 then none else
 match op with
 |.shl=>some (.int k (k.wrap (a*2^(min b.toNat k.bits))))
 |.shr=>some (.int k (a.fdiv (2^(min b.toNat k.bits))))
 |_=>none
def aee(op:BinOp)(a b:ByteArray):Option au:=
 match op with
 |.add=>if ((a.size+b.size:Nat):Int) > IntKind.i64.max then none else some (.str (a++b))
 |.eql=>some (.bool (a.toList==b.toList))
 |.neq=>some (.bool (!(a.toList==b.toList)))
 |.lss=>some (.bool (Op.bytesLess a.toList b.toList))
 |.leq=>some (.bool (Op.bytesLess a.toList b.toList||a.toList==b.toList))
 |.gtr=>some (.bool (!(Op.bytesLess a.toList b.toList||a.toList==b.toList)))
 |.geq=>some (.bool (!(Op.bytesLess a.toList b.toList)))
 |_=>none
def eY(t:TypeDesc)(x y:au):Option Bool:=
 match t,x,y with
 |.int _,.int k a,.int k' b=>if k=k' then some (a==b)else none
 |.bool,.bool a,.bool b=>some (a==b)
 |.string,.str a,.str b=>some (a==b)
 |.pointer _,.ptr none,.ptr b=>some b.isNone
 |.pointer _,.ptr (some _),.ptr none=>some false
 |_,_,_=>none
def fM(P:Program)(as bs:List au):List Field→Option Bool
 | []=>some true
 |f::fs=>
  if f.name= "_" ∨fl P f.type then none else
  (P.underlying f.type).bind fun t=>as[f.offset]?.bind fun a=>bs[f.offset]?.bind fun b=>
   (eY t a b).bind fun e=>if e then fM P as bs fs else some false
def eqD(P:Program)(t:TypeId)(x y:au):Option Bool:=
 (P.underlying t).bind fun d=>
 match d,x,y with
 |.struct fs,.agg as,.agg bs=>if P.stoodInHeld t∨P.eqGuardType P.depth t then none else fM P as bs fs.toList
 |d,x,y=>eY d x y
def adH:BinOp→Bool
 |.shl=>true
 |.shr=>true
 |_=>false
def me(P:Program)(op:BinOp)(t:TypeId)(x y:au):Option au:=
 match op with
 |.eql=>(eqD P t x y).bind fun e=>some (.bool e)
 |.neq=>(eqD P t x y).bind fun e=>some (.bool (!e))
 |_=>none
def ai3(P:Program)(op:BinOp)(t:TypeId)(x y:au):Option au:=
 match x,y with
 |.int k a,.int k' b=>if adH op then su op k a b else if k=k' then we op k a b else none
 |.str a,.str b=>aee op a b
 |x,y=>me P op t x y
def unD(op:UnOp)(x:au):Option au:=
 match op,x with
 |.neg,.int k n=>some (.int k (k.wrap (0 - n)))
 |.not,.bool b=>some (.bool (!b))
 |.xor,.int k n=>we .xor k (if k.signed then -1 else k.max) n
 |_,_=>none
def lK(s:ByteArray):List au:=s.data.toList.map fun b=>.int .u8 b.toNat
def strOf:List au→Option (List UInt8)
 | []=>some []
 |.int .u8 n::ds=>(strOf ds).bind fun s=>some (UInt8.ofNat n.toNat::s)
 |_::_=>none
def kr:List au→List au→Bool
 | [],[]=>true
 |.int k a::as,.int k' b::bs=>(decide (k=k')&&a==b)&&kr as bs
 |_,_=>false
def ja:au→au→Bool
 |.int k a,.int k' b=>k=k'&&a==b
 |.bool a,.bool b=>a==b
 |.str a,.str b=>a==b
 |.agg as,.agg bs=>kr as bs
 |_,_=>false
def mX(k:IntKind):List au→Bool
 | []=>true
 |.int k' _::ds=>decide (k'=k)&&mX k ds
 |_::_=>false
def aeP(P:Program)(n:Nat)(e:TypeId)(cs:List au):Bool:=
 cs.length==n&&P.cellsOf e==1&&match P.underlying e with|some (.int k)=>mX k cs|_=>false
def eE(P:Program):List Field→Nat→List au→Bool
 | [],_,[]=>true
 |f::fs,i,.int k _::ds=>decide (f.name≠ "_")&&f.offset==i&&(match P.underlying f.type with|some (.int k')=>decide (k'=k)|_=>false)&&eE P fs (i+1) ds
 |_,_,_=>false
def isKey(P:Program)(kt:TypeId):TypeDesc→au→Bool
 |.int k,.int k' _=>k=k'
 |.bool,.bool _=>true
 |.string,.str _=>true
 |.array n e,.agg cs=>aeP P n e cs
 |.struct fs,.agg cs=>!P.stoodInHeld kt&&eE P fs.toList 0 cs
 |_,_=>false
def fy(k:au):List (au×au)→Option au
 | []=>none
 |(k',v)::es=>if ja k k' then some v else fy k es
def qI(k v:au):List (au×au)→List (au×au)
 | []=>[(k,v)]
 |(k',v')::es=>if ja k k' then(k',v)::es else(k',v')::qI k v es
abbrev Out:=SV×List Eff
def setFrom{α:Type}:List α→Nat→List α→List α
 |cs,_,[]=>cs
 |cs,i,n::ns=>setFrom (cs.set i n) (i+1) ns
def jk(k:Nat)(xs:List au):Bool:=xs.all fun x=>x.cells.length==k
def ai7(ds:List au):List CV:=ds.map .val
def ret(d:au):Option Out:=some (.cv (.val d),[])
def moveOp(s:St)(x:Operand):Option Out:=
 match s.opv x with
 |.cv (.val d)=>some (.cv (.val d),[])
 |.cv .nil=>some (.cv .nil,[])
 |.cv (.row _ _)=>some (.alias (.slot (mc x)),[])
 |.alias r=>some (.alias r,[])
 |.imm cs=>some (.imm cs,[])
 |.elt r i o=>some (.elt r i o,[])
 |.bld cs=>some (.bld cs,[])
 |.tup ds=>some (.tup ds,[])
 |_=>none
def assignOp(s:St)(x:Operand):Option Out:=
 match s.opv x with
 |.cv (.row k xs)=>some (.cv (.row k xs),[.kill (.slot (mc x))])
 |.alias (.slot i)=>(s.rowAt (.slot i)).bind fun p=>some (.cv (.row p.1 p.2),[.kill (.slot i)])
 |_=>moveOp s x
def optVal(s:St)(x:Operand):Option au:=
 match s.opv x with
 |.cv (.val d)=>some d
 |.bld cs=>(je cs).bind fun ds=>some (.agg ds)
 |_=>none
def partCells(s:St)(x:Operand):Option (List CV×List Eff):=
 match s.opv x with
 |.cv .nil=>some ([.nil],[])
 |.bld cs=>some (cs,[])
 |_=>(s.asVal x).bind fun d=>some (ai7 d.1.cells,d.2)
def buildCells(P:Program)(s:St)(t:TypeId):List CV→List (Nat×Operand)→Option (List CV×List Eff)
 |cs,[]=>some (cs,[])
 |cs,(i,x)::ps=>
  (place P t i).bind fun p=>(partCells s x).bind fun c=>
   if c.1.length=p.2∧p.1+p.2≤cs.length then
    (buildCells P (s.effs c.2) t (setFrom cs p.1 c.1) ps).bind fun r=>some (r.1,c.2++r.2)
   else none
def buildElems(P:Program)(s:St)(k:Nat):Nat→List (Nat×Operand)→Option (List au×List Eff)
 |_,[]=>some ([],[])
 |j,(i,x)::ps=>
  if i=j then(s.asVal x).bind fun d=>
   if d.1.cells.length=k then(buildElems P (s.effs d.2) k (j+1) ps).bind fun r=>some (d.1::r.1,d.2++r.2)else none
  else none
def ajV(s:St)(l off n:Nat)(ag:Bool)(cs:List CV):Option Out:=
 if ag then
  if (cs.drop off).length < n then none else
  (je ((cs.drop off).take n)).bind fun ds=>if eQ ((cs.drop off).take n)then none else some (.cv (.val (.agg ds)),[])
 else if n≠1 then none else match cs[off]? with
  |some (.val d)=>some (.cv (.val d),[])
  |some .nil=>some (.cv .nil,[])
  |some (.row _ _)=>some (.alias (.cell l off),[])
  |_=>none
def loadOp(P:Program)(s:St)(t:TypeId)(x:Operand):Option Out:=
 if P.cellsOf t=0∨(P.underlying t).isNone then none else
 match s.opv x with
 |.cv (.val (.ptr (some (l,off))))=>
  match s.box.at_ l with
  |some (.cells cs)=>ajV s l off (P.cellsOf t) (fl P t) cs
  |_=>none
 |.imm cs=>if cs.length < P.cellsOf t then none else(gu P t (cs.take (P.cellsOf t))).bind ret
 |.elt r i off=>(s.rowAt r).bind fun p=>p.2[i]?.bind fun e=>
   if (e.cells.drop off).length < P.cellsOf t then none else(gu P t ((e.cells.drop off).take (P.cellsOf t))).bind ret
 |_=>none
def setCells(l:Nat):Nat→List CV→List Eff
 |_,[]=>[]
 |i,c::cs=>.setCell l i c::setCells l (i+1) cs
def rF(e:au)(cs:List au):au:=
 match e with
 |.agg _=>.agg cs
 |_=>cs.headD .nilfn
def storeOp(P:Program)(s:St)(t:TypeId)(a x:Operand):Option Out:=
 if P.cellsOf t=0 then none else
 match s.opv a with
 |.cv (.val (.ptr (some (l,off))))=>
  match s.box.at_ l with
  |some (.cells cs)=>(s.asCells x).bind fun c=>
    if c.1.length=P.cellsOf t∧off+P.cellsOf t≤cs.length then some (.undef,c.2++setCells l off c.1)else none
  |_=>none
 |.elt r i off=>(s.rowAt r).bind fun p=>p.2[i]?.bind fun e=>(s.asVal x).bind fun d=>
   if d.2.isEmpty∧d.1.cells.length=P.cellsOf t∧off+P.cellsOf t≤e.cells.length then
    some (.undef,[.setRow r p.1 (p.2.set i (rF e (setFrom e.cells off d.1.cells)))])
   else none
 |_=>none
def indexAddrOp(P:Program)(s:St)(t:TypeId)(x ix:Operand):Option Out:=
 (s.asInt ix).bind fun(_,i)=>
 if i < 0 then none else
 match P.underlying t with
 |some (.slice e)=>
  if P.cellsOf e=0 then none else
  match s.opv x with
  |.cv (.val (.sl xs))=>xs[i.toNat]?.bind fun d=>if d.cells.length=P.cellsOf e then some (.imm d.cells,[])else none
  |.cv (.row k xs)=>if i.toNat < xs.length∧k=e then some (.elt (.slot (mc x)) i.toNat 0,[])else none
  |.alias r=>(s.rowAt r).bind fun p=>if i.toNat < p.2.length∧p.1=e then some (.elt r i.toNat 0,[])else none
  |_=>none
 |some (.array n e)=>
  if P.cellsOf e=0∨¬ i.toNat < n then none else
  match s.opv x with
  |.cv (.val (.ptr (some (l,off))))=>some (.cv (.val (.ptr (some (l,off+i.toNat*P.cellsOf e)))),[])
  |.imm cs=>some (.imm (cs.drop (i.toNat*P.cellsOf e)),[])
  |.elt r j off=>some (.elt r j (off+i.toNat*P.cellsOf e),[])
  |_=>none
 |_=>none
def fieldAddrOp(P:Program)(s:St)(t:TypeId)(x:Operand)(f:Nat):Option Out:=
 match P.underlying t with
 |some (.struct fs)=>fs[f]?.bind fun fd=>
  if P.cellsOf fd.type=0 then none else
  match s.opv x with
  |.cv (.val (.ptr (some (l,off))))=>ret (.ptr (some (l,off+fd.offset)))
  |.imm cs=>some (.imm (cs.drop fd.offset),[])
  |.elt r i off=>some (.elt r i (off+fd.offset),[])
  |_=>none
 |_=>none
def fieldOp(P:Program)(s:St)(t:TypeId)(x:Operand)(f:Nat):Option Out:=
 match P.underlying t with
 |some (.struct fs)=>fs[f]?.bind fun fd=>(optVal s x).bind fun d=>
  match d with
  |.agg cs=>if fd.offset+P.cellsOf fd.type≤cs.length∧P.cellsOf fd.type≠0 then(gu P fd.type ((cs.drop fd.offset).take (P.cellsOf fd.type))).bind ret else none
  |_=>none
 |_=>none
def indexOp(P:Program)(s:St)(t:TypeId)(x ix:Operand):Option Out:=
 (s.asInt ix).bind fun(_,i)=>
 if i < 0 then none else
 (optVal s x).bind fun d=>
 match P.underlying t,d with
 |some .string,.str b=>b.data.toList[i.toNat]?.bind fun c=>ret (.int .u8 c.toNat)
 |some (.array n e),.agg cs=>if i.toNat < n∧i.toNat*P.cellsOf e+P.cellsOf e≤cs.length then(gu P e ((cs.drop (i.toNat*P.cellsOf e)).take (P.cellsOf e))).bind ret else none
 |_,_=>none
def boundOf(s:St)(len d:Nat):Option Operand→Option Nat
 |none=>some d
 |some x=>(s.asInt x).bind fun(_,i)=>if 0≤i∧i≤(len:Int)then some i.toNat else none
def sliceOp(P:Program)(s:St)(t:TypeId)(x:Operand)(lo hi mx:Option Operand):Option Out:=
 match P.underlying t,mx with
 |some .string,none=>
  (optVal s x).bind fun d=>match d with
   |.str b=>(boundOf s b.size b.size hi).bind fun h=>(boundOf s h 0 lo).bind fun l=>ret (.str (b.extract l h))
   |_=>none
 |some (.slice e),none=>
  (s.asVal x).bind fun d=>match d.1 with
   |.sl xs=>(boundOf s xs.length xs.length hi).bind fun h=>(boundOf s h 0 lo).bind fun l=>
     if P.cellsOf e=0∨jk (P.cellsOf e) xs=false then none else some (.cv (.val (.sl ((xs.take h).drop l))),d.2)
   |_=>none
 |some (.slice e),some m=>
  (s.list (s.opv x)).bind fun _=>(s.asInt m).bind fun m=>(boundOf s 0 0 hi).bind fun h=>(boundOf s 0 0 lo).bind fun l=>
   if m.2=0∧h=0∧l=0∧hi.isSome∧P.cellsOf e≠0 then some (.cv .nil,[])else none
 |_,_=>none
def lenOp(P:Program)(s:St)(t:TypeId)(x:Operand):Option Out:=
 match P.underlying t with
 |some .string=>(optVal s x).bind fun d=>match d with
   |.str b=>ret (.int .i64 b.size)
   |_=>none
 |some (.slice _)=>(s.list (s.opv x)).bind fun xs=>ret (.int .i64 xs.length)
 |some (.map _ _)=>(optVal s x).bind fun d=>match d with
   |.map none=>ret (.int .i64 0)
   |.map (some l)=>match s.box.at_ l with
    |some (.map _ es)=>ret (.int .i64 es.length)
    |_=>none
   |_=>none
 |_=>none
def St.asRow(s:St)(k:Nat)(x:Operand):Option (List au×List Eff):=
 match s.opv x with
 |.cv .nil=>some ([],[])
 |.cv (.row k' xs)=>if k'=k then some (xs,[.kill (.slot (mc x))])else none
 |.alias r=>(s.rowAt r).bind fun p=>if p.1=k then some (p.2,[.kill r])else none
 |_=>none
def dU:Nat:=140737488355328
def du(P:Program)(e:TypeId):Bool:=
 match P.info? e with
 |some i=>match i.zero with
  |some z=>z.cells.size==i.size
  |none=>false
 |none=>false
def appendOp(P:Program)(s:St)(t ty:TypeId)(x y:Operand):Option Out:=
 match P.underlying t with
 |some (.slice e)=>
  (s.asRow e x).bind fun r=>
  (match P.underlying ty with
   |some (.slice _)=>s.list (s.opv y)
   |some .string=>(optVal s y).bind fun d=>match d with
     |.str b=>some (lK b)
     |_=>none
   |some (.int _)=>(s.asInt y).bind fun(_,n)=>(lq P e).bind fun z=>
     if 0≤n then some (List.replicate n.toNat z)else none
   |_=>none).bind fun ys=>
  if (r.1.length+ys.length)*P.bytesOf e≤dU∧jk (P.cellsOf e) ys∧0 < P.bytesOf e∧0 < P.cellsOf e∧du P e then some (.cv (.row e (r.1++ys)),r.2)else none
 |_=>none
def makeSliceOp(P:Program)(s:St)(t:TypeId)(n m:Operand):Option Out:=
 match P.underlying t with
 |some (.slice e)=>(s.asInt n).bind fun(_,a)=>(s.asInt m).bind fun(_,b)=>(lq P e).bind fun z=>
   if 0≤a∧a=b∧a.toNat*P.bytesOf e≤dU∧0 < P.bytesOf e∧z.cells.length=P.cellsOf e then some (.cv (.row e (List.replicate a.toNat z)),[])else none
 |_=>none
def an1(x:Operand):SV→Option Out
 |.cv (.row _ (d::ds))=>some (.cv (.val (.sl (d::ds))),[.fix (.slot (mc x)) (.sl (d::ds))])
 |_=>none
def convertOp(P:Program)(s:St)(src dst:TypeId)(x:Operand):Option Out:=
 match P.underlying src,P.underlying dst with
 |some (.int _),some (.int k)=>(s.asInt x).bind fun(_,n)=>ret (.int k (k.wrap n))
 |some .string,some .string=>(optVal s x).bind fun d=>match d with
   |.str b=>ret (.str b)
   |_=>none
 |some (.slice e),some .string=>if amO P e then(s.list (s.opv x)).bind fun ds=>(strOf ds).bind fun b=>ret (.str ⟨b.toArray⟩)else none
 |some .string,some (.slice e)=>if amO P e then(optVal s x).bind fun d=>match d with
   |.str b=>ret (.sl (lK b))
   |_=>none else none
 |some (.slice _),some (.slice e)=>if (decide (src=dst)&&amO P e)=true then an1 x (s.opv x)else none
 |_,_=>none
def extractOp(s:St)(x:Operand)(i:Nat):Option Out:=
 match s.opv x with
 |.tup ds=>ds[i]?.bind ret
 |_=>none
def mapAt(s:St)(kt:TypeId):au→Option (List (au×au))
 |.map none=>some []
 |.map (some l)=>match s.box.at_ l with
  |some (.map kt' es)=>if kt'=kt then some es else none
  |_=>none
 |_=>none
def lookupOp(P:Program)(s:St)(t:TypeId)(x k:Operand)(ok:Bool):Option Out:=
 match P.underlying t with
 |some (.map kt e)=>(optVal s x).bind fun d=>(optVal s k).bind fun k=>(P.underlying kt).bind fun td=>(lq P e).bind fun z=>
  if isKey P kt td k then
   (mapAt s kt d).bind fun es=>
   if ok then some (.tup [(fy k es).getD z,.bool (fy k es).isSome],[])else some (.cv (.val ((fy k es).getD z)),[])
  else none
 |_=>none
def mapUpdateOp(P:Program)(s:St)(t:TypeId)(x k v:Operand):Option Out:=
 match P.underlying t with
 |some (.map kt _)=>(optVal s x).bind fun d=>(optVal s k).bind fun k=>(P.underlying kt).bind fun td=>(s.asVal v).bind fun v=>
  if isKey P kt td k then
   match d with
   |.map (some l)=>(mapAt s kt d).bind fun es=>some (.undef,v.2++[.setMap l kt (qI k v.1 es)])
   |_=>none
  else none
 |_=>none
def tn(k:au):List (au×au)→Nat
 | []=>0
 |(k',_)::es=>if ja k k' then 0 else tn k es+1
def mapEntryOp(P:Program)(s:St)(t:TypeId)(x k:Operand):Option Out:=
 match P.underlying t with
 |some (.map kt e)=>(optVal s x).bind fun d=>(optVal s k).bind fun k=>(P.underlying kt).bind fun td=>(lq P e).bind fun z=>
  if isKey P kt td k then
   match d with
   |.map (some l)=>(mapAt s kt (.map (some l))).bind fun es=>some (.tup [(fy k es).getD z,.int .i64 (tn k es)],[.setMap l kt (qI k ((fy k es).getD z) es)])
   |_=>none
  else none
 |_=>none
def entryStoreOp(P:Program)(s:St)(x n v:Operand):Option Out:=
 (optVal s x).bind fun d=>(s.asInt n).bind fun n=>(s.asVal v).bind fun v=>
  match d with
  |.map (some l)=>match s.box.at_ l with
   |some (.map kt es)=>if n.2.toNat < es.length∧0≤n.2 then some (.undef,v.2++[.setMap l kt (es.set n.2.toNat ((es.getD n.2.toNat default).1,v.1))])else none
   |_=>none
  |_=>none
def optVals(s:St):List Operand→Option (List au)
 | []=>some []
 |x::xs=>(optVal s x).bind fun d=>(optVals s xs).bind fun ds=>some (d::ds)
def gg(mx:Bool):IntKind→Int→List (IntKind×Int)→Option au
 |k,a,[]=>some (.int k a)
 |k,a,(k',b)::l=>if k=k' then gg mx k (if mx then(if b > a then b else a)else(if b < a then b else a)) l else none
def asInts(s:St):List Operand→Option (List (IntKind×Int))
 | []=>some []
 |x::xs=>(s.asInt x).bind fun d=>(asInts s xs).bind fun ds=>some (d::ds)
def aop(P:Program)(s:St)(o:Oper):Option Out:=
 match o.op with
 |.move x=>moveOp s x
 |.assign x=>assignOp s x
 |.pick c a b=>match s.opv c with
  |.cv (.val (.bool t))=>if t then moveOp s a else moveOp s b
  |_=>none
 |.unOp op _ x=>(optVal s x).bind fun d=>(unD op d).bind ret
 |.binOp op t x y _=>(optVal s x).bind fun a=>(optVal s y).bind fun b=>(ai3 P op t a b).bind ret
 |.convert src dst x=>convertOp P s src dst x
 |.extract x i=>extractOp s x i
 |.nilCheck x=>match s.opv x with
  |.cv (.val (.ptr (some a)))=>ret (.ptr (some a))
  |.cv (.val (.fn f a b))=>ret (.fn f a b)
  |_=>none
 |.fieldAddr t x f=>fieldAddrOp P s t x f
 |.field t x f=>fieldOp P s t x f
 |.indexAddr t x i=>indexAddrOp P s t x i
 |.index t x i=>indexOp P s t x i
 |.slice t x lo hi mx=>sliceOp P s t x lo hi mx
 |.load t x=>loadOp P s t x
 |.store t a x=>storeOp P s t a x
 |.alloc t=>(cd P t).bind fun z=>if z.length=0∨(je z).isNone then none else some (.cv (.val (.ptr (some (s.box.n,0)))),[.new (.cells z)])
 |.box t x=>(s.asCells x).bind fun c=>if c.1.length=P.cellsOf t∧eQ (c.1.drop 1)=false then some (.cv (.val (.ptr (some (s.box.n,0)))),c.2++[.new (.cells c.1)])else none
 |.build t ps=>(cd P t).bind fun z=>if cL P t∧(je z).isSome then(buildCells P s t z ps.toList).bind fun r=>some (.bld r.1,r.2)else none
 |.buildSlice t n ps=>match P.underlying t with
  |some (.slice e)=>(buildElems P s (P.cellsOf e) 0 ps.toList).bind fun r=>if r.1.length=n∧n*P.cellsOf e≤2^24∧P.cellsOf e≠0∧fe P e then some (.cv (.row e r.1),r.2)else none
  |_=>none
 |.makeSlice t n m=>makeSliceOp P s t n m
 |.makeMap t none=>match P.underlying t with
  |some (.map kt _)=>if (P.underlying kt).isSome then some (.cv (.val (.map (some s.box.n))),[.new (.map kt [])])else none
  |_=>none
 |.makeFunc (.func f) first caps=>(optVals s first.toList).bind fun a=>(optVals s caps.toList).bind fun b=>if a.all au.one&&b.all au.one then ret (.fn f a b)else none
 |.lookup t x k ok=>lookupOp P s t x k ok
 |.mapUpdate t x k v=>mapUpdateOp P s t x k v
 |.call { callee:=.builtin .len,args,argTypes }=>match args.toList,argTypes.toList with
  | [x],[t]=>lenOp P s t x
  |_,_=>none
 |.call { callee:=.builtin .append,args,argTypes }=>match args.toList,argTypes.toList with
  | [x,y],[t,ty]=>appendOp P s t ty x y
  |_,_=>none
 |.call { callee:=.builtin .min,args,.. }=>(asInts s args.toList).bind fun l=>match l with
  |(k,a)::l=>(gg false k a l).bind ret
  | []=>none
 |.call { callee:=.builtin .max,args,.. }=>(asInts s args.toList).bind fun l=>match l with
  |(k,a)::l=>(gg true k a l).bind ret
  | []=>none
 |.insert t x k v=>mapUpdateOp P s t x k v
 |.mapEntry t x k=>mapEntryOp P s t x k
 |.entryStore _ x n v=>entryStoreOp P s x n v
 |_=>none
inductive How where
 |data|move
 deriving DecidableEq
abbrev dm:=FuncId→List SV→bn→(List SV→bn→Prop)→Prop
structure Ctx where
 P:Program
 how:FuncId→Nat→How
 gives:FuncId→How
 ext:FuncId→List au→TypeId→List au→Option (List au):=fun _ _ _ _=>none
 hand:FuncId→List SV→bn→List SV→bn→Prop:=fun _ _ _ _ _=>False
 look:FuncId→List au→bn→List SV→Prop:=fun _ _ _ _=>False
def argOf(s:St)(h:How)(x:Operand):Option (SV×List Eff):=
 match h with
 |.data=>(s.asVal x).bind fun d=>some (.cv (.val d.1),d.2)
 |.move=>match s.opv x with
  |.cv .nil=>some (.cv .nil,[])
  |.cv (.row k xs)=>some (.cv (.row k xs),[.kill (.slot (mc x))])
  |.alias r=>(s.rowAt r).bind fun p=>some (.cv (.row p.1 p.2),[.kill r])
  |_=>none
def iT(C:Ctx)(f:FuncId)(s:St):Nat→List Operand→Option (List SV×List Eff)
 |_,[]=>some ([],[])
 |i,x::xs=>(argOf s (C.how f i) x).bind fun a=>(iT C f (s.effs a.2) (i+1) xs).bind fun r=>some (a.1::r.1,a.2++r.2)
def jI(ds:List au):List SV:=ds.map fun d=>.cv (.val d)
def afO:List SV→Option (List au)
 | []=>some []
 |.cv (.val d)::vs=>(afO vs).bind fun ds=>some (d::ds)
 |_::_=>none
def packed(res:List SV):Option SV:=
 match res with
 | []=>some .undef
 | [r]=>some r
 |rs=>(afO rs).bind fun ds=>some (.tup ds)
def callee(s:St):Operand→Option (FuncId×List au×List au)
 |.func f=>some (f,[],[])
 |x=>match s.opv x with
  |.cv (.val (.fn f a b))=>some (f,a,b)
  |_=>none
def nw(s:St)(x:Operand):Option au:=
 match s.opv x with
 |.cv (.val d)=>some d
 |.cv .nil=>some (.sl [])
 |.cv (.row _ xs)=>some (.sl xs)
 |.alias r=>(s.rowAt r).bind fun p=>some (.sl p.2)
 |_=>none
def nh(s:St):List Operand→Option (List au)
 | []=>some []
 |x::xs=>(nw s x).bind fun d=>(nh s xs).bind fun ds=>some (d::ds)
def scalar:SV→Bool
 |.cv (.val (.int _ _))=>true
 |.cv (.val (.bool _))=>true
 |.cv (.val (.str _))=>true
 |_=>false
def bn.shut(h:bn):bn:=⟨h.n,fun _=>none⟩
def tx(s:St)(x:Operand):Bool:=
 match s.opv x with
 |.cv (.val _)=>true
 |.cv .nil=>true
 |_=>false
def aeW(C:Ctx)(R:dm)(s:St)(dst:Option Nat)(f:Operand)(args:List Operand)(K:St→Prop):Prop:=
 ∃g fs cs ds,∃b:Bool,callee s f=some (g,fs,cs)∧nh s args=some ds∧(b=false→args.all (tx s)=true)∧
  R g (jI fs++jI ds++jI cs) s.box.shut fun out h'=>∃v,packed out=some v∧((b=true→out.all scalar=true)∧(b=false→h'=s.box.shut))∧K (s.put dst v)
def rootOf(s:St)(x:Operand):Option fb:=
 match s.opv x with
 |.cv (.row _ _)=>some (.slot (mc x))
 |.alias r=>some r
 |_=>none
def akL(C:Ctx)(s:St)(dst:Option Nat)(f:Operand)(args:List Operand)(K:St→Prop):Prop:=
 ∃g x xs r k zs ds ys,callee s f=some (g,[],[])∧args=x::xs∧rootOf s x=some r∧s.rowAt r=some (k,zs)∧optVals s xs=some ds∧ds.all au.one=true∧C.ext g ds k zs=some ys∧
  K ((s.eff (.setRow r k ys)).put dst .undef)
def aes(C:Ctx)(s:St)(dst:Option Nat)(f:Operand)(args:List Operand)(K:St→Prop):Prop:=
 ∃g ds out v,callee s f=some (g,[],[])∧nh s args=some ds∧C.look g ds s.box out∧out.all scalar=true∧packed out=some v∧K (s.put dst v)
def wQ(C:Ctx)(R:dm)(s:St)(dst:Option Nat)(f:Operand)(args:List Operand)(K:St→Prop):Prop:=
 ((aeW C R s dst f args K∨aes C s dst f args K)∨akL C s dst f args K)∨∃g fs cs as es,callee s f=some (g,fs,cs)∧iT C g s fs.length args=some (as,es)∧
   ((s.effs es).box.WF→R g (jI fs++as++jI cs) (s.effs es).box fun out h'=>∃v,packed out=some v∧K (St.put ⟨dy SV.uncell (s.effs es).slots,h'⟩ dst v))
def apP(P:Program)(s:St)(o:Oper)(K:St→Prop):Prop:=
 ∃t x ty xs e,o.op= .binOp .eql t x (.const (.slice none 0 0)) ty∧P.underlying t=some (.slice e)∧optVal s x=some (.sl xs)∧∀b,(xs≠[]→b=false)→K (s.put o.dst (.cv (.val (.bool b))))
def kQ(C:Ctx)(R:dm)(s:St)(o:Oper)(K:St→Prop):Prop:=
 match o.op with
 |.call { callee:=.value f,args,.. }=>wQ C R s o.dst f args.toList K
 |_=>apP C.P s o K∨∃v es,aop C.P s o=some (v,es)∧K ((s.effs es).put o.dst v)
def guardOf(ops:Array Oper)(s:St)(o:Oper):Option Bool:=
 match o.guard with
 |none=>some true
 |some (j,want)=>(ops[j]?.bind (·.dst)).bind fun d=>match s.get d with
  |.cv (.val (.bool b))=>some (b==want)
  |.undef=>some false
  |_=>none
def wpOps(C:Ctx)(R:dm)(ops:Array Oper):List Oper→(St→Prop)→St→Prop
 | [],K,s=>K s
 |o::os,K,s=>∃b,guardOf ops s o=some b∧(b=true→kQ C R s o (wpOps C R ops os K))∧(b=false→wpOps C R ops os K (s.put o.dst .undef))
inductive Ex where
 |normal|exit (id:Nat)|ret
def Ex.then(next:St→Prop)(Q:Ex→St→Prop):Ex→St→Prop
 |.normal=>next
 |e=>Q e
def Ex.inBlock(id:Nat)(Q:Ex→St→Prop):Ex→St→Prop
 |.exit i=>if i=id then Q .normal else Q (.exit i)
 |e=>Q e
def CV.fits:CV→CV→Prop
 |_,.dead=>True
 |.nil,.row _ xs=>xs=[]
 |.nil,.val (.sl xs)=>xs=[]
 |c,c'=>c=c'
def SV.fits:SV→SV→Prop
 |_,.cv .dead=>True
 |.cv c,.cv c'=>c.fits c'
 |v,v'=>v=v'
def dX:SV→Bool
 |.cv (.row _ _)=>true
 |_=>false
def SV.rooted(s:St):SV→Prop
 |.alias (.slot i)=>dX (s.get i)=true
 |.elt (.slot i) _ _=>dX (s.get i)=true
 |_=>True
def CV.fitsL:List CV→List CV→Prop
 | [],[]=>True
 |c::cs,c'::cs'=>c.fits c'∧CV.fitsL cs cs'
 |_,_=>False
def dB.fits:dB→dB→Prop
 |.cells cs,.cells cs'=>CV.fitsL cs cs'
 |o,o'=>o=o'
structure St.Shrinks(m:Nat)(s s':St):Prop where
 lo:m≤s'.box.n
 hi:s'.box.n≤s.box.n
 obj:∀l o',s'.box.at_ l=some o'→l < s'.box.n∧o'.under s'.box.n∧∃o,s.box.at_ l=some o∧o.fits o'
 slots:∀p∈s'.slots,(s.get p.1).fits p.2∧p.2.rooted s'∧p.2.under s'.box.n
 roots:∀p∈s'.slots,match p.2 with
  |.alias (.cell l i)=>s'.box.cell l i=s.box.cell l i
  |.elt (.cell l i) _ _=>s'.box.cell l i=s.box.cell l i
  |_=>True
inductive St.To(m:Nat):St→St→Prop
 |refl (s:St):St.To m s s
 |weak (s s1:St) (sl:List (Nat×SV)):(∀p∈sl,(s.get p.1).fits p.2∧p.2.rooted ⟨sl,s.box⟩)→St.To m ⟨sl,s.box⟩ s1→St.To m s s1
 |fix (s s1:St) (r:fb) (k:TypeId) (xs:List au):s.rowAt r=some (k,xs)→St.To m (s.eff (.fix r (.sl xs))) s1→St.To m s s1
 |shrink (s s' s1:St):s.Shrinks m s'→St.To m s' s1→St.To m s s1
def pass(o:Oper):Bool:=
 match o.op with
 |.move _|.pick .. | .unOp .. | .binOp .. | .convert .. | .extract .. | .nilCheck _|.fieldAddr .. | .field .. | .indexAddr .. | .index .. | .slice .. | .load .. | .lookup .. | .makeFunc .. | .build .. | .buildSlice .. | .makeSlice .. =>true
 |.call { callee:=.builtin .len,.. }=>true
 |.call { callee:=.builtin .min,.. }=>true
 |.call { callee:=.builtin .max,.. }=>true
 |_=>false
def qN(P:Program)(ops:Array Oper)(s:St)(i:Nat):Prop:=
 ∃o d,ops[i]? =some o∧o.dst=some d∧∃b,guardOf ops s o=some b∧(b=true→aop P s o=some (s.get d,[]))∧(b=false→s.get d= .undef)
def awk(tab:List (Nat×Nat))(o:Oper):Nat:=
 o.after.toList.foldl (fun acc e=>if Region.binds .any e then acc ||| (1 <<< e.on) ||| (tab.lookup e.on).getD 0 else acc) 0
def dP(ops:Array Oper):List Nat→List (Nat×Nat)→List (Nat×Nat)
 | [],tab=>tab
 |i::l,tab=>dP ops l (match ops[i]? with|some o=>(i,awk tab o)::tab|none=>tab)
def ep(tab:List (Nat×Nat))(i:Nat):Nat:=(tab.lookup i).getD 0
def di(C:Ctx) (R:dm) (ops:Array Oper) (tab:List (Nat×Nat)):List Nat→List Nat→(St→Prop)→St→Prop
 |pend,[],K,s=>(∀p∈pend,qN C.P ops s p)∧K s
 |pend,i::rest,K,s=>
  ∃o,ops[i]? =some o∧
  match pass o with
  |true=>∃b,guardOf ops s o=some b∧(b=true→∃v,aop C.P s o=some (v,[])∧di C R ops tab (i::pend) rest K (s.put o.dst v))∧(b=false→di C R ops tab (i::pend) rest K (s.put o.dst .undef))
  |false=>(∀p∈pend,qN C.P ops s p)∧∃b,guardOf ops s o=some b∧(b=true→kQ C R s o (di C R ops tab (pend.filter fun p=>!(ep tab i).testBit p) rest K))∧
    (b=false→di C R ops tab (pend.filter fun p=>!(ep tab i).testBit p) rest K (s.put o.dst .undef))
def slotsOf(o:Oper):List Nat:=o.op.operands.toList.filterMap fun x=>match x with|.tmp t=>some t|_=>none
def qc(ex:Nat×Nat)(ops:Array Oper)(tab:List (Nat×Nat))(done:List Nat)(i:Nat):Bool:=
 match ops[i]? with
 |none=>false
 |some o=>
  !done.contains i&&
  (o.after.toList.all fun e=>!Region.binds .any e||done.contains e.on)&&
  (done.all fun j=>match ops[j]? with
   |none=>false
   |some q=>(pass q||(ep tab i).testBit j||(ex==(i,j)||ex==(j,i)))&&
     (!pass o||o.dst != q.dst)&&(!pass q||q.dst != o.dst))&&
  (!pass o||o.dst.isSome)&&
  ((List.range ops.size).all fun j=>match ops[j]? with
    |none=>true
    |some q=>!pass q||(ep tab i).testBit j||
      ((match q.dst with|some d=>!(slotsOf o).contains d|none=>true)&&(match o.guard with|some (g,_)=>g != j|none=>true)))
def rU(ex:Nat×Nat)(ops:Array Oper)(tab:List (Nat×Nat)):List Nat→List Nat→Bool
 |done,[]=>(List.range ops.size).all fun i=>done.contains i
 |done,i::rest=>qc ex ops tab done i&&rU ex ops tab (i::done) rest
def ma(ex:Nat×Nat)(ops:Array Oper)(plan:List Nat):Bool:=plan.length==ops.size&&rU ex ops (dP ops plan []) [] plan
def sV(ops:Array Oper)(plan:List Nat):Bool:=ma (0,0) ops plan
def akH(ops:Array Oper)(i:Nat):Bool:=match ops[i]? with
 |some o=>pass o
 |none=>false
def aev(ops:Array Oper)(i:Nat):Bool:=match ops[i]? with
 |some o=>!pass o
 |none=>false
def xw(ops:Array Oper)(A:List Nat)(x y:Nat)(B:List Nat):Bool:=
 ma (x,y) ops (A++x::y::B)&&ma (x,y) ops (A++y::x::B)&&A.all (akH ops)&&aev ops x&&aev ops y
def amc(C:Ctx)(R:dm)(ops:Array Oper)(plan:List Nat)(K:St→Prop)(s:St):Prop:=
 (sV ops plan=true∧di C R ops (dP ops plan []) [] plan K s)∨
 ∃A x y B,plan=A++x::y::B∧xw ops A x y B=true∧di C R ops (dP ops (A++x::y::B) []) [] (A++x::y::B) K s∧di C R ops (dP ops (A++y::x::B) []) [] (A++y::x::B) K s
def mZ(m:Nat)(body:(Ex→St→Prop)→St→Prop)(Q:Ex→St→Prop)(s:St):Prop:=
 ∀I:St→Prop,(∀s,(∃s1,St.To m s s1∧body (Ex.then I Q) s1)→I s)→I s
def aO(C:Ctx)(R:dm)(m:Nat):Code→(Ex→St→Prop)→St→Prop
 |.skip,Q,s=>Q .normal s
 |.region _ ops false,Q,s=>∃s1,St.To m s s1∧wpOps C R ops ops.toList (Q .normal) s1
 |.region _ ops true,Q,s=>∃s1 plan,St.To m s s1∧amc C R ops plan (Q .normal) s1
 |.seq a b,Q,s=>aO C R m a (Ex.then (fun s=>∃s1,St.To m s s1∧aO C R m b Q s1) Q) s
 |.cond c a b,Q,s=>∃t,s.opv c= .cv (.val (.bool t))∧(t=true→aO C R m a Q s)∧(t=false→aO C R m b Q s)
 |.block id c,Q,s=>aO C R m c (Ex.inBlock id Q) s
 |.loop c,Q,s=>mZ m (aO C R m c) Q s
 |.exit id,Q,s=>Q (.exit id) s
 |.ret,Q,s=>Q .ret s
 |_,_,_=>False
def within(n:Nat):Code→Bool
 |.region _ ops _=>ops.toList.all fun o=>match o.dst with|some d=>decide (d < n)|none=>true
 |.seq a b=>within n a&&within n b
 |.cond _ a b=>within n a&&within n b
 |.block _ c=>within n c
 |.loop c=>within n c
 |_=>true
def eT:Option Out→Option (au×List Eff)
 |some (.cv (.val d),_)=>some (d,[])
 |_=>none
def fB(P:Program)(s:St):ResultVar→Option (au×List Eff)
 |.tmp t=>s.asVal (.tmp t)
 |.cell a t=>eT (loadOp P s t (.tmp a))
def results(C:Ctx)(f:FuncId):St→List ResultVar→Option (List SV×bn)
 |s,[]=>some ([],s.box)
 |s,r::rs=>
  match C.gives f,r,rs with
  |.move,.tmp t,[]=>match s.get t with
   |.cv .nil=>some ([.cv .nil],s.box)
   |.cv (.row k xs)=>some ([.cv (.row k xs)],s.box)
   |.alias (.slot i)=>(s.rowAt (.slot i)).bind fun p=>some ([.cv (.row p.1 p.2)],s.box)
   |_=>none
  |.data,r,rs=>(fB C.P s r).bind fun d=>(results C f (s.effs d.2) rs).bind fun q=>some (.cv (.val d.1)::q.1,q.2)
  |_,_,_=>none
def entry:Nat→List SV→List (Nat×SV)
 |_,[]=>[]
 |i,v::vs=>(i,v)::entry (i+1) vs
structure bn.Drops(m:Nat)(h h':bn)(out:List SV):Prop where
 lo:m≤h'.n
 hi:h'.n≤h.n
 obj:∀l o',h'.at_ l=some o'→l < h'.n∧o'.under h'.n∧∃o,h.at_ l=some o∧o.fits o'
 outs:∀v∈out,v.under h'.n
def atEnd(C:Ctx)(m:Nat)(f:FuncId)(fn:Func)(Q:List SV→bn→Prop):Ex→St→Prop
 |.exit _,_=>False
 |_,s=>∃s1,St.To m s s1∧∃out h',results C f s1 fn.results.toList=some (out,h')∧∃h'',(h''=h'∨bn.Drops m h' h'' out)∧Q out h''
def Body(C:Ctx)(R:dm)(f:FuncId)(args:List SV)(h:bn)(Q:List SV→bn→Prop):Prop:=
 ∃fn code,C.P.funcs[f]? =some fn∧fn.body=some code∧args.length≤fn.ntmps∧within fn.ntmps code=true∧(fn.name== "runtime.NumGoroutine")=false∧(h.WF→(∀v∈args,v.under h.n)→aO C R h.n code (atEnd C h.n f fn Q) ⟨entry 0 args,h⟩)
def akC:SV→SV
 |.cv (.row _ xs)=>.cv (.val (.sl xs))
 |v=>v
structure dm.Closed(C:Ctx)(R:dm):Prop where
 body:∀f a h Q,Body C R f a h Q→R f a h Q
 hand:∀f a h o h' Q,C.hand f a h o h'→Q o h'→R f a h Q
 fix:∀f a h Q,R f a h (fun o h'=>Q (o.map akC) h')→R f a h Q
def cq(C:Ctx):dm:=fun f args h Q=>∀R:dm,R.Closed C→R f args h Q
def dm.Le(R R':dm):Prop:=∀f a h Q Q',(∀o h',Q o h'→Q' o h')→R f a h Q→R' f a h Q'
theorem sM{C:Ctx}{R R':dm}(hR:R.Le R'){s:St}{o:Oper}{K K':St→Prop}(hK:∀s,K s→K' s)
  (h:kQ C R s o K):kQ C R' s o K':=by
 unfold kQ at*
 split
 ·rename_i f args _ heq
  simp only[heq]at h
  rcases h with((⟨g,fs,cs,ds,b,h1,h2,hb,h3⟩|⟨g,ds,out,v,h1,h2,h3,h4,h5,h6⟩)|⟨g,x,xs,r,k,zs,ds,ys,h1,h2,h3,h4,h5,h6,h7,h8⟩)|⟨g,fs,cs,as,es,h1,h2,h3⟩
  ·exact .inl (.inl (.inl ⟨g,fs,cs,ds,b,h1,h2,hb,hR _ _ _ _ _ (fun o h' ⟨v,hv,hsc,hk⟩=>⟨v,hv,hsc,hK _ hk⟩) h3⟩))
  ·exact .inl (.inl (.inr ⟨g,ds,out,v,h1,h2,h3,h4,h5,hK _ h6⟩))
  ·exact .inl (.inr ⟨g,x,xs,r,k,zs,ds,ys,h1,h2,h3,h4,h5,h6,h7,hK _ h8⟩)
  right
  exact⟨g,fs,cs,as,es,h1,h2,fun hwf=>hR _ _ _ _ _ (fun o h' ⟨v,hv,hk⟩=>⟨v,hv,hK _ hk⟩) (h3 hwf)⟩
 ·rename_i hne
  split at h
  ·rename_i f args _ heq
   exact absurd heq (hne _ _ _)
  ·rcases h with⟨t,x,ty,xs,e,h1,h2,h3,h4⟩|⟨v,es,h1,h2⟩
   ·exact .inl ⟨t,x,ty,xs,e,h1,h2,h3,fun b hb=>hK _ (h4 b hb)⟩
   ·exact .inr ⟨v,es,h1,hK _ h2⟩
theorem rb{C:Ctx}{R R':dm}(hR:R.Le R'){ops:Array Oper}:∀(l:List Oper) {K K':St→Prop} (hK:∀s,K s→K' s) (s:St),
  wpOps C R ops l K s→wpOps C R' ops l K' s
 | [],_,_,hK,s,h=>hK s h
 |o::os,_,_,hK,s,h=>by
  obtain⟨b,h1,h2,h3⟩:=h
  exact⟨b,h1,fun hb=>sM hR (fun s=>rb hR os hK s) (h2 hb),fun hb=>rb hR os hK _ (h3 hb)⟩
theorem Ex.then_mono{I I':St→Prop}{Q Q':Ex→St→Prop}(hI:∀s,I s→I' s)(hQ:∀e s,Q e s→Q' e s)(e:Ex)(s:St)(h:Ex.then I Q e s):Ex.then I' Q' e s:=by
 cases e <;> first|exact hI _ h|exact hQ _ _ h
theorem aaQ{m:Nat}{b b':(Ex→St→Prop)→St→Prop}(hb:∀{Q Q':Ex→St→Prop},(∀e s,Q e s→Q' e s)→∀s,b Q s→b' Q' s){Q Q':Ex→St→Prop}(hQ:∀e s,Q e s→Q' e s)
  (s:St) (h:mZ m b Q s):mZ m b' Q' s:=fun I hI=>
 h I fun s ⟨sl,hw,hs⟩=>hI s ⟨sl,hw,hb (Ex.then_mono (fun _=>id) hQ) _ hs⟩
theorem ig{C:Ctx}{R R':dm}(hR:R.Le R'){ops:Array Oper}{tab:List (Nat×Nat)}:∀(l:List Nat) (pend:List Nat) {K K':St→Prop} (hK:∀s,K s→K' s) (s:St),
  di C R ops tab pend l K s→di C R' ops tab pend l K' s
 | [],_,_,_,hK,s,h=>⟨h.1,hK s h.2⟩
 |i::rest,pend,_,_,hK,s,h=>by
  obtain⟨o,ho,h⟩:=h
  refine⟨o,ho,?_⟩
  split at h
  ·obtain⟨b,h1,h2,h3⟩:=h
   exact⟨b,h1,fun hb=>let ⟨v,g1,g2⟩:=h2 hb;⟨v,g1,ig hR rest _ hK _ g2⟩,fun hb=>ig hR rest _ hK _ (h3 hb)⟩
  ·obtain⟨h0,b,h1,h2,h3⟩:=h
   exact⟨h0,b,h1,fun hb=>sM hR (fun s=>ig hR rest _ hK s) (h2 hb),fun hb=>ig hR rest _ hK _ (h3 hb)⟩
theorem eD{C:Ctx}{R R':dm}{m:Nat}(hR:R.Le R'):∀(c:Code) {Q Q':Ex→St→Prop} (hQ:∀e s,Q e s→Q' e s) (s:St),
  aO C R m c Q s→aO C R' m c Q' s
 |.skip,_,_,hQ,s,h=>hQ _ _ h
 |.region _ ops false,_,_,hQ,s,⟨s1,h1,h⟩=>⟨s1,h1,rb hR _ (fun s=>hQ _ s) s1 h⟩
 |.region _ ops true,_,_,hQ,s,⟨s1,plan,h1,h2⟩=>⟨s1,plan,h1,h2.imp (fun h=>⟨h.1,ig hR _ _ (fun s=>hQ _ s) s1 h.2⟩) fun⟨A,x,y,B,h3,h4,h5,h6⟩=>⟨A,x,y,B,h3,h4,ig hR _ _ (fun s=>hQ _ s) s1 h5,ig hR _ _ (fun s=>hQ _ s) s1 h6⟩⟩
 |.seq a b,_,_,hQ,s,h=>eD hR a (Ex.then_mono (fun s ⟨s1,ht,h⟩=>⟨s1,ht,eD hR b hQ s1 h⟩) hQ) s h
 |.cond c a b,_,_,hQ,s,⟨t,h1,h2,h3⟩=>⟨t,h1,fun ht=>eD hR a hQ s (h2 ht),fun ht=>eD hR b hQ s (h3 ht)⟩
 |.block id c,_,_,hQ,s,h=>eD hR c (fun e s he=>by
   cases e with
   |exit i=>simp only[Ex.inBlock]at he ⊢;split <;> rename_i hi <;> simp only[hi,if_true,if_false]at he <;> exact hQ _ _ he
   |normal=>exact hQ _ _ he
   |ret=>exact hQ _ _ he) s h
 |.loop c,_,_,hQ,s,h=>aaQ (fun hQ s=>eD hR c hQ s) hQ s h
 |.exit _,_,_,hQ,s,h=>hQ _ _ h
 |.ret,_,_,hQ,s,h=>hQ _ _ h
 |.scope _,_,_,_,_,h=>h.elim
 |.label _,_,_,_,_,h=>h.elim
 |.goto _,_,_,_,_,h=>h.elim
 |.refuse _,_,_,_,_,h=>h.elim
 |.rangeFunc ..,_,_,_,_,h=>h.elim
theorem agj{C:Ctx}{m:Nat}{f:FuncId}{fn:Func}{Q Q':List SV→bn→Prop}(hQ:∀o h,Q o h→Q' o h):∀e s,atEnd C m f fn Q e s→atEnd C m f fn Q' e s:=by
 intro e s h
 cases e <;> first|exact h|(obtain⟨s1,ht,o,h',h1,h'',hd,h2⟩:=h;exact⟨s1,ht,o,h',h1,h'',hd,hQ _ _ h2⟩)
theorem ak5{C:Ctx}{R R':dm}(hR:R.Le R'){f:FuncId}{a:List SV}{h:bn}{Q Q':List SV→bn→Prop}(hQ:∀o h,Q o h→Q' o h)(hb:Body C R f a h Q):Body C R' f a h Q':=by
 obtain⟨fn,code,h1,h2,h3,h5,h6,h4⟩:=hb
 exact⟨fn,code,h1,h2,h3,h5,h6,fun hwf hu=>eD hR code (agj hQ) _ (h4 hwf hu)⟩
theorem cq.mono{C:Ctx}{f:FuncId}{a:List SV}{h:bn}{Q Q':List SV→bn→Prop}(hr:cq C f a h Q)(hQ:∀o h,Q o h→Q' o h):cq C f a h Q':=fun R hR=>by
 have hc:dm.Closed C (fun f a h Q=>∀Q',(∀o h,Q o h→Q' o h)→R f a h Q'):=⟨fun f a h Q hb Q' hQ=>
  hR.body _ _ _ _ (ak5 (fun f a h Q Q' hq hr=>hr Q' hq) hQ hb),fun f a h o h' Q hh hq Q' hQ=>hR.hand _ _ _ _ _ _ hh (hQ _ _ hq),fun f a h Q hr Q' hQ=>hR.fix _ _ _ _ (hr _ fun o h' hq=>hQ _ _ hq)⟩
 exact hr _ hc Q' hQ
theorem cq.le{C:Ctx}{R:dm}(hR:R.Closed C):(cq C).Le R:=fun _ _ _ _ _ hQ hr=>(hr.mono hQ) R hR
theorem dm.Le.refl_runs(C:Ctx):(cq C).Le (cq C):=fun _ _ _ _ _ hQ hr=>hr.mono hQ
theorem cq.intro{C:Ctx}{f:FuncId}{args:List SV}{h:bn}{Q:List SV→bn→Prop}(fn:Func)(code:Code)(hf:C.P.funcs[f]? =some fn)(hb:fn.body=some code)(hl:args.length≤fn.ntmps)(hin:within fn.ntmps code=true)(hname:(fn.name== "runtime.NumGoroutine")=false)
  (hw:h.WF→(∀v∈args,v.under h.n)→aO C (cq C) h.n code (atEnd C h.n f fn Q) ⟨entry 0 args,h⟩):cq C f args h Q:=fun R hR=>
 hR.body _ _ _ _ ⟨fn,code,hf,hb,hl,hin,hname,fun hwf hu=>eD (cq.le hR) code (fun _ _=>id) _ (hw hwf hu)⟩
theorem cq.fixd{C:Ctx}{f:FuncId}{args:List SV}{h hp:bn}{k:Nat}{xs:List au}(hr:cq C f args h fun o h'=>o=[.cv (.row k xs)]∧h'=hp):cq C f args h fun o h'=>o=[.cv (.val (.sl xs))]∧h'=hp:=fun R hR=>
 hR.fix _ _ _ _ ((hr.mono fun o h' ⟨e1,e2⟩=>⟨by rw[e1];rfl,e2⟩) R hR)
theorem cq.hand{C:Ctx}{f:FuncId}{args out:List SV}{h h':bn}{Q:List SV→bn→Prop}(hh:C.hand f args h out h')(hq:Q out h'):cq C f args h Q:=fun R hR=>hR.hand _ _ _ _ _ _ hh hq
theorem mZ.step{C:Ctx}{m:Nat}{c:Code}{Q:Ex→St→Prop}{s:St}(s1:St)(hw:St.To m s s1)(h:aO C (cq C) m c (Ex.then (mZ m (aO C (cq C) m c) Q) Q) s1):mZ m (aO C (cq C) m c) Q s:=fun I hI=>
 hI s ⟨s1,hw,eD (dm.Le.refl_runs C) c (Ex.then_mono (fun s h=>h I hI) (fun _ _=>id)) _ h⟩
inductive Tag where
 |imm|other|slot (i:Nat)|box (l:Nat)|cell (l i:Nat)|ret|arg (p:Nat)
 deriving DecidableEq
structure Gh where
 P:Program
 g:Nat→Tag
 ι:Nat→Nat
 n:Nat
def cellsIn(w:World)(ad:Addr)(vs:List Value):Prop:=∀i v,vs[i]? =some v→w.cell? (ad.add i)=some v
def bx(xs:List au):List au:=xs.flatMap au.cells
mutual
inductive cU(w:World)(G:Gh):au→Value→Prop
 |int (k:IntKind) (n:Int):cU w G (.int k n) (.int k n)
 |bool (b:Bool):cU w G (.bool b) (.bool b)
 |str (s:ByteArray):cU w G (.str s) (.string s)
 |agg (cs:List au) (vs:Array Value):cn w G cs vs.toList→cU w G (.agg cs) (.agg vs)
 |nilptr:cU w G (.ptr none) (.pointer none)
 |ptr (l off:Nat):l < G.n→cU w G (.ptr (some (l,off))) (.pointer (some ⟨G.ι l,off,none⟩))
 |nilmap:cU w G (.map none) (.map none)
 |map (l:Nat):l < G.n→cU w G (.map (some l)) (.map (some (G.ι l)))
 |nilfn:cU w G .nilfn .nilFunc
 |fn (f:FuncId) (as bs:List au) (us vs:Array Value):cn w G as us.toList→cn w G bs vs.toList→cU w G (.fn f as bs) (.func (.func f) us vs)
 |nilsl (a:Option Addr) (cap:Nat):cU w G (.sl []) (.slice a 0 cap)
 |sl (xs:List au) (ad:Addr) (cap k:Nat) (vs:List Value):xs≠[]→xs.length≤cap→G.g ad.block= .imm→ad.block < w.heap.size→ad.spot=none→(∀x∈xs,x.cells.length=k)→cn w G (bx xs) vs→cellsIn w ad vs→
   cU w G (.sl xs) (.slice (some ad) xs.length cap)
inductive cn(w:World)(G:Gh):List au→List Value→Prop
 |nil:cn w G [] []
 |cons (d:au) (v:Value) (ds:List au) (vs:List Value):d.one=true→cU w G d v→cn w G ds vs→cn w G (d::ds) (v::vs)
end
structure uw(w:World)(G:Gh)(w':World)(G':Gh):Prop where
 g:∀b,G.g b= .imm→b < w.heap.size→G'.g b= .imm∧w'.heap[b]? =w.heap[b]?
 size:w.heap.size≤w'.heap.size
 n:G.n≤G'.n
 ι:∀l,l < G.n→G'.ι l=G.ι l
 P:G'.P=G.P
theorem uw.refl(w:World)(G:Gh):uw w G w G:=⟨fun _ h _=>⟨h,rfl⟩,nR _,nR _,fun _ _=>rfl,rfl⟩
theorem lZ{w w':World}{a:Addr}(h:w'.heap[a.block]? =w.heap[a.block]?):w'.cell? a=w.cell? a:=by
 simp only[World.cell?,h]
theorem gW(a:Addr)(n:Nat):(a.add n).block=a.block:=by unfold Addr.add;split <;> rfl
theorem tV{w:World}{a:Addr}{v:Value}(h:w.cell? a=some v):a.block < w.heap.size:=by
 unfold World.cell? at h
 split at h
 ·rename_i hb;exact(Array.getElem?_eq_some_iff.1 hb).1
 ·cases h
theorem cellsIn.mono{w w':World}{ad:Addr}{vs:List Value}(h:cellsIn w ad vs)(hb:ad.block < w.heap.size→w'.heap[ad.block]? =w.heap[ad.block]?):cellsIn w' ad vs:=fun i v hv=>by
 have h1:=h i v hv
 have h2:=tV h1
 rw[gW]at h2
 rw[lZ (w:=w) (by rw[gW];exact hb h2)]
 exact h1
mutual
theorem cU.mono{w w':World}{G G':Gh}(M:uw w G w' G'):∀{d:au} {v:Value},cU w G d v→cU w' G' d v
 |_,_,.int k n=>.int k n
 |_,_,.bool b=>.bool b
 |_,_,.str s=>.str s
 |_,_,.agg cs vs h=>.agg cs vs (h.mono M)
 |_,_,.nilptr=>.nilptr
 |_,_,.ptr l off h=>by rw[← M.ι l h];exact .ptr l off (Nat.lt_of_lt_of_le h M.n)
 |_,_,.nilmap=>.nilmap
 |_,_,.map l h=>by rw[← M.ι l h];exact .map l (Nat.lt_of_lt_of_le h M.n)
 |_,_,.nilfn=>.nilfn
 |_,_,.fn f as bs us vs h1 h2=>.fn f as bs us vs (h1.mono M) (h2.mono M)
 |_,_,.nilsl a cap=>.nilsl a cap
 |_,_,.sl xs ad cap k vs hne hcap hg hb hs hk hr hc=>.sl xs ad cap k vs hne hcap (M.g _ hg hb).1 (Nat.lt_of_lt_of_le hb M.size) hs hk (hr.mono M) (hc.mono fun h=>(M.g _ hg h).2)
theorem cn.mono{w w':World}{G G':Gh}(M:uw w G w' G'):∀{ds:List au} {vs:List Value},cn w G ds vs→cn w' G' ds vs
 |_,_,.nil=>.nil
 |_,_,.cons d v ds vs h1 h2 h3=>.cons d v ds vs h1 (h2.mono M) (h3.mono M)
end
theorem cn.length{w:World}{G:Gh}:∀{ds:List au} {vs:List Value},cn w G ds vs→vs.length=ds.length
 |_,_,.nil=>rfl
 |_,_,.cons _ _ _ _ _ _ h=>by simp[h.length]
theorem cn.get{w:World}{G:Gh}:∀{ds:List au} {vs:List Value},cn w G ds vs→∀(i:Nat) (d:au),ds[i]? =some d→∃v,vs[i]? =some v∧d.one=true∧cU w G d v
 |_,_,.nil=>fun i d h=>by simp at h
 |_,_,.cons d v ds vs h1 h2 h3=>fun i d' h=>by
  cases i with
  |zero=>simp at h;subst h;exact⟨v,rfl,h1,h2⟩
  |succ i=>simp at h;simpa using h3.get i d' h
theorem cn.drop{w:World}{G:Gh}:∀(n:Nat) {ds:List au} {vs:List Value},cn w G ds vs→cn w G (ds.drop n) (vs.drop n)
 |0,_,_,h=>by simpa using h
 |n+1,_,_,.nil=>by simp;exact .nil
 |n+1,_,_,.cons _ _ _ _ _ _ h=>by simpa using h.drop n
theorem cn.take{w:World}{G:Gh}:∀(n:Nat) {ds:List au} {vs:List Value},cn w G ds vs→cn w G (ds.take n) (vs.take n)
 |0,_,_,h=>by simp;exact .nil
 |n+1,_,_,.nil=>by simp;exact .nil
 |n+1,_,_,.cons _ _ _ _ h1 h2 h=>by simpa using .cons _ _ _ _ h1 h2 (h.take n)
theorem cn.append{w:World}{G:Gh}:∀{ds:List au} {vs:List Value} {ds':List au} {vs':List Value},cn w G ds vs→cn w G ds' vs'→cn w G (ds++ds') (vs++vs')
 |_,_,_,_,.nil,h=>h
 |_,_,_,_,.cons _ _ _ _ h1 h2 h3,h=>.cons _ _ _ _ h1 h2 (h3.append h)
theorem cU.cells{w:World}{G:Gh}{d:au}{v:Value}(h:cU w G d v):cn w G d.cells v.cells.toList:=by
 cases h with
 |agg cs vs h=>simpa[au.cells,Value.cells]using h
 |int k n=>exact .cons _ _ _ _ rfl (.int k n) .nil
 |bool b=>exact .cons _ _ _ _ rfl (.bool b) .nil
 |str s=>exact .cons _ _ _ _ rfl (.str s) .nil
 |nilptr=>exact .cons _ _ _ _ rfl .nilptr .nil
 |ptr l off h=>exact .cons _ _ _ _ rfl (.ptr l off h) .nil
 |nilmap=>exact .cons _ _ _ _ rfl .nilmap .nil
 |map l h=>exact .cons _ _ _ _ rfl (.map l h) .nil
 |nilfn=>exact .cons _ _ _ _ rfl .nilfn .nil
 |fn f as bs us vs h1 h2=>exact .cons _ _ _ _ rfl (.fn f as bs us vs h1 h2) .nil
 |nilsl a cap=>exact .cons _ _ _ _ rfl (.nilsl a cap) .nil
 |sl xs ad cap k vs h1 h2 h3 h4 h5 h6 h7 h8=>exact .cons _ _ _ _ rfl (.sl xs ad cap k vs h1 h2 h3 h4 h5 h6 h7 h8) .nil
theorem cU.oneV{w:World}{G:Gh}{d:au}{v:Value}(h:cU w G d v)(h1:d.one=true):v.oneCell'=true:=by
 cases h <;> first|rfl|simp[au.one]at h1
def ams(fr:Nat×Nat)(size:Nat):Prop:=∀i,i < size→¬ (fr.1≤i∧i < fr.2)
def cp(w:World)(G:Gh)(t:Tag)(e:TypeId)(xs:List au)(v:Value):Prop:=
 (xs=[]∧∃a,v= .slice a 0 0)∨
 ∃b cap arr,v= .slice (some ⟨b,0,none⟩) xs.length cap∧G.g b=t∧w.heap[b]? =some (.cells arr e (0,0))∧arr.size=cap*G.P.cellsOf e∧xs.length≤cap∧cap≤maxLen∧
  (∀x∈xs,x.cells.length=G.P.cellsOf e)∧cn w G (bx xs) (arr.toList.take (xs.length*G.P.cellsOf e))
def dK(w:World)(G:Gh)(t:Tag):CV→Value→Prop
 |.val d,v=>cU w G d v
 |.nil,v=>∃a,v= .slice a 0 0
 |.row k xs,v=>cp w G t k xs v
 |.dead,_=>True
def awG(w:World)(G:Gh)(l:Nat)(cs:List CV)(vs:List Value):Prop:=
 vs.length=cs.length∧∀(i:Nat) (c:CV) (v:Value),cs[i]? =some c→vs[i]? =some v→dK w G (.cell l i) c v∧v.oneCell'=true
def gG(w:World)(G:Gh)(l:Nat):dB→Prop
 |.cells cs=>G.g (G.ι l)= .box l∧∃arr e fr,w.heap[G.ι l]? =some (.cells arr e fr)∧ams fr arr.size∧awG w G l cs arr.toList
 |.map kt es=>G.g (G.ι l)= .box l∧(∃td,G.P.underlying kt=some td∧∀e∈es,isKey G.P kt td e.1=true)∧∃ents clock,w.heap[G.ι l]? =some (.map ents clock)∧(ents.size=es.length∧clock=es.length∧∀(i:Nat) (m:MapEntry),ents[i]? =some m→m.born=i)∧
   ∀(i:Nat) (e:au×au) (m:MapEntry),es[i]? =some e→ents[i]? =some m→cU w G e.1 m.key∧cU w G e.2 m.val
def dn(w:World)(G:Gh)(a:Act):fb→Value→Prop
 |.slot i,v=>a.tmps.getD i undef=v
 |.cell l i,v=>w.cell? ⟨G.ι l,i,none⟩=some v
def ez(w:World)(G:Gh)(s:St)(a:Act)(t:Tag):SV→Value→Prop
 |.cv c,v=>dK w G t c v
 |.undef,v=>v=undef
 |.alias r,v=>(∃p,s.rowAt r=some p)∧dn w G a r v
 |.imm cs,v=>∃ad vs,v= .pointer (some ad)∧ad.spot=none∧G.g ad.block= .imm∧ad.block < w.heap.size∧cn w G cs vs∧cellsIn w ad vs
 |.elt r j off,v=>∃k xs b n cap,s.rowAt r=some (k,xs)∧j < xs.length∧dn w G a r (.slice (some ⟨b,0,none⟩) n cap)∧v= .pointer (some ⟨b,j*G.P.cellsOf k+off,none⟩)
 |.bld cs,v=>∃vs:Array Value,v= .agg vs∧vs.size=cs.length∧∀(j:Nat) (c:CV) (u:Value),cs[j]? =some c→vs[j]? =some u→(c matches .val _|.nil)∧dK w G .other c u∧u.oneCell'=true
 |.tup ds,v=>∃vs:Array Value,v= .tuple vs∧vs.size=ds.length∧∀(j:Nat) (d:au) (u:Value),ds[j]? =some d→vs[j]? =some u→cU w G d u
structure nj(w:World)(G:Gh)(h:bn):Prop where
 n:G.n=h.n
 obj:∀l o,h.at_ l=some o→l < h.n∧gG w G l o
structure Rel(w:World)(G:Gh)(s:St)(a:Act):Prop where
 slots:∀i,ez w G s a (.slot i) (s.get i) (a.tmps.getD i undef)
 heap:nj w G s.box
 fresh:∀b,w.heap.size≤b→G.g b= .other
structure Kept(w:World)(G:Gh)(w':World)(G':Gh):Prop where
 os:w'.os=w.os
 tape:w'.tape=w.tape
 output:w'.output=w.output
 size:w.heap.size≤w'.heap.size
 imm:∀b,G.g b= .imm→b < w.heap.size→G'.g b= .imm∧w'.heap[b]? =w.heap[b]?
 other:∀b,G.g b= .other→b < w.heap.size→G'.g b= .other∧w'.heap[b]? =w.heap[b]?
 n:G.n≤G'.n
 ι:∀l,l < G.n→G'.ι l=G.ι l
 P:G'.P=G.P
theorem Kept.mono{w w':World}{G G':Gh}(h:Kept w G w' G'):uw w G w' G':=⟨h.imm,h.size,h.n,h.ι,h.P⟩
theorem Kept.refl(w:World)(G:Gh):Kept w G w G:=⟨rfl,rfl,rfl,nR _,fun _ h _=>⟨h,rfl⟩,fun _ h _=>⟨h,rfl⟩,nR _,fun _ _=>rfl,rfl⟩
theorem Kept.trans{w1 w2 w3:World}{G1 G2 G3:Gh}(h:Kept w1 G1 w2 G2)(k:Kept w2 G2 w3 G3):Kept w1 G1 w3 G3 where
 os:=k.os.trans h.os
 tape:=k.tape.trans h.tape
 output:=k.output.trans h.output
 size:=Nat.le_trans h.size k.size
 imm b hb hl:=by
  obtain⟨h1,h2⟩:=h.imm b hb hl
  obtain⟨h3,h4⟩:=k.imm b h1 (Nat.lt_of_lt_of_le hl h.size)
  exact⟨h3,h4.trans h2⟩
 other b hb hl:=by
  obtain⟨h1,h2⟩:=h.other b hb hl
  obtain⟨h3,h4⟩:=k.other b h1 (Nat.lt_of_lt_of_le hl h.size)
  exact⟨h3,h4.trans h2⟩
 n:=Nat.le_trans h.n k.n
 ι l hl:=(k.ι l (Nat.lt_of_lt_of_le hl h.n)).trans (h.ι l hl)
 P:=k.P.trans h.P
def Gh.re(G:Gh)(t t':Tag):Gh:=⟨G.P,fun b=>if G.g b=t then t' else G.g b,G.ι,G.n⟩
theorem ik(w:World)(G:Gh){t t':Tag}(ht:t≠ .imm):uw w G w (G.re t t') where
 g b hb hl:=⟨by simp only[Gh.re,hb];rw[if_neg (fun h=>ht h.symm)],rfl⟩
 size:=nR _
 n:=nR _
 ι _ _:=rfl
 P:=rfl
theorem nm(w:World)(G:Gh){t t':Tag}(ht:t≠ .imm)(ho:t≠ .other):Kept w G w (G.re t t') where
 os:=rfl
 tape:=rfl
 output:=rfl
 size:=nR _
 imm b hb _:=⟨by simp only[Gh.re,hb];rw[if_neg (fun h=>ht h.symm)],rfl⟩
 other b hb _:=⟨by simp only[Gh.re,hb];rw[if_neg (fun h=>ho h.symm)],rfl⟩
 n:=nR _
 ι _ _:=rfl
 P:=rfl
theorem cp.re{w:World}{G:Gh}{u:Tag}{k:Nat}{xs:List au}{v:Value}{t t':Tag}(h:cp w G u k xs v)(ht:t≠ .imm)(hu:u≠t):cp w (G.re t t') u k xs v:=by
 rcases h with h|⟨b,cap,arr,h1,h2,h3,h4,h5,h6,h7,h8⟩
 ·exact .inl h
 ·exact .inr ⟨b,cap,arr,h1,by simp only[Gh.re,h2];rw[if_neg hu],h3,h4,h5,h6,h7,h8.mono (ik w G ht)⟩
theorem cp.retag{w:World}{G:Gh}{k:Nat}{xs:List au}{v:Value}{t t':Tag}(h:cp w G t k xs v)(ht:t≠ .imm):cp w (G.re t t') t' k xs v:=by
 rcases h with h|⟨b,cap,arr,h1,h2,h3,h4,h5,h6,h7,h8⟩
 ·exact .inl h
 ·exact .inr ⟨b,cap,arr,h1,by simp only[Gh.re,h2,if_true],h3,h4,h5,h6,h7,h8.mono (ik w G ht)⟩
theorem dK.re{w:World}{G:Gh}{u:Tag}{c:CV}{v:Value}{t t':Tag}(h:dK w G u c v)(ht:t≠ .imm)(hu:u≠t):dK w (G.re t t') u c v:=by
 cases c with
 |val d=>exact cU.mono (ik w G ht) h
 |nil=>exact h
 |row k xs=>exact cp.re h ht hu
 |dead=>trivial
theorem dK.retag{w:World}{G:Gh}{c:CV}{v:Value}{t t':Tag}(h:dK w G t c v)(ht:t≠ .imm):dK w (G.re t t') t' c v:=by
 cases c with
 |val d=>exact cU.mono (ik w G ht) h
 |nil=>exact h
 |row k xs=>exact cp.retag h ht
 |dead=>trivial
theorem gG.re{w:World}{G:Gh}{l:Nat}{o:dB}{t t':Tag}(h:gG w G l o)(ht:t≠ .imm)(hb:t≠ .box l)(hc:∀i,t≠ .cell l i):gG w (G.re t t') l o:=by
 cases o with
 |cells cs=>
  obtain⟨h1,arr,e,fr,h2,h3,h4,h5⟩:=h
  exact⟨by simp only[Gh.re,h1];rw[if_neg (fun h=>hb h.symm)],arr,e,fr,h2,h3,h4,fun i c v hci hv=>⟨((h5 i c v hci hv).1).re ht (fun h=>hc i h.symm),(h5 i c v hci hv).2⟩⟩
 |map kt es=>
  obtain⟨h1,hk,ents,clock,h2,h3,h4⟩:=h
  exact⟨by simp only[Gh.re,h1];rw[if_neg (fun h=>hb h.symm)],hk,ents,clock,h2,h3,fun i e m he hm=>⟨((h4 i e m he hm).1).mono (ik w G ht),((h4 i e m he hm).2).mono (ik w G ht)⟩⟩
theorem nj.re{w:World}{G:Gh}{h:bn}{t t':Tag}(hh:nj w G h)(ht:t≠ .imm)(hb:∀l,t≠ .box l)(hc:∀l i,t≠ .cell l i):nj w (G.re t t') h:=
 ⟨hh.n,fun l o ho=>⟨(hh.obj l o ho).1,(hh.obj l o ho).2.re ht (hb l) (hc l)⟩⟩
theorem ic(f:SV→SV)(hf:f (.cv .dead)= .cv .dead):∀(l:List (Nat×SV)) (i:Nat),look (dy f l) i=f (look l i)
 | [],i=>by simp[look,dy,hf]
 |(j,v)::l,i=>by
  simp only[dy,look]
  split
  ·rfl
  ·exact ic f hf l i
theorem ez.move{w w':World}{G G':Gh}{s s':St}{a a':Act}{u u':Tag}{sv:SV}{v:Value}(p:fb→Bool)(M:uw w G w' G')
  (hrow:∀k xs,sv= .cv (.row k xs)→cp w G u k xs v→cp w' G' u' k xs v)
  (hroot:∀r,p r=false→∀q,s.rowAt r=some q→s'.rowAt r=some q∧∀v,dn w G a r v→dn w' G' a' r v)
  (h:ez w G s a u sv v):ez w' G' s' a' u' (sv.drop p) v:=by
 cases sv with
 |cv c=>
  cases c with
  |val d=>exact cU.mono M h
  |nil=>exact h
  |row k xs=>exact hrow k xs rfl h
  |dead=>trivial
 |undef=>exact h
 |alias r=>
  simp only[SV.drop]
  cases hp:p r with
  |true=>simp;trivial
  |false=>
   obtain⟨⟨q,hq⟩,hv⟩:=h
   obtain⟨h1,h2⟩:=hroot r hp q hq
   simp only[Bool.false_eq_true,if_false]
   exact⟨⟨q,h1⟩,h2 _ hv⟩
 |imm cs=>
  obtain⟨ad,vs,h1,h2,h3,h4,h5,h6⟩:=h
  exact⟨ad,vs,h1,h2,(M.g _ h3 h4).1,Nat.lt_of_lt_of_le h4 M.size,h5.mono M,h6.mono fun hl=>(M.g _ h3 hl).2⟩
 |elt r j off=>
  simp only[SV.drop]
  cases hp:p r with
  |true=>simp;trivial
  |false=>
   obtain⟨k,xs,b,n,cap,h1,h2,h3,h4⟩:=h
   obtain⟨g1,g2⟩:=hroot r hp _ h1
   simp only[Bool.false_eq_true,if_false]
   exact⟨k,xs,b,n,cap,g1,h2,g2 _ h3,by rw[M.P];exact h4⟩
 |bld cs=>
  obtain⟨vs,h1,h2,h3⟩:=h
  refine⟨vs,h1,h2,fun j c x hc hx=>?_⟩
  obtain⟨g1,g2,g3⟩:=h3 j c x hc hx
  refine⟨g1,?_,g3⟩
  cases c with
  |val d=>exact cU.mono M g2
  |nil=>exact g2
  |row k xs=>simp at g1
  |dead=>trivial
 |tup ds=>
  obtain⟨vs,h1,h2,h3⟩:=h
  exact⟨vs,h1,h2,fun j d x hd hx=>(h3 j d x hd hx).mono M⟩
theorem nl(sv:SV):sv.drop (fun _=>false)=sv:=by cases sv <;> rfl
theorem getD_set_ne(a:Array Value)(d i:Nat)(v x:Value)(h:d≠i):(a.setIfInBounds d v).getD i x=a.getD i x:=by
 simp[Array.getElem?_setIfInBounds_ne h]
theorem aa4(a:Array Value)(d:Nat)(v x:Value)(h:d < a.size):(a.setIfInBounds d v).getD d x=v:=by
 simp[h]
theorem Rel.no_alias{w:World}{G:Gh}{s:St}{a:Act}(h:Rel w G s a){r:fb}(hr:s.rowAt r=none)(i:Nat):(s.get i).drop (fun r'=>decide (r'=r))=s.get i:=by
 have hs:=h.slots i
 cases hg:s.get i with
 |alias r'=>
  rw[hg]at hs
  obtain⟨⟨q,hq⟩,_⟩:=hs
  have:r'≠r:=fun e=>by rw[e,hr]at hq;cases hq
  simp[SV.drop,this]
 |elt r' j o=>
  rw[hg]at hs
  obtain⟨k,xs,b,n,cap,h1,_⟩:=hs
  have:r'≠r:=fun e=>by rw[e,hr]at h1;cases h1
  simp[SV.drop,this]
 |_=>rfl
theorem ajh{w:World}{G:Gh}{s:St}{a:Act}(h:Rel w G s a)(d:Nat)(sv:SV)(i:Nat):
  (s.put (some d) sv).get i=if d=i then sv.drop (fun r=>decide (r= .slot d))else(s.get i).drop (fun r=>decide (r= .slot d)):=by
 have hn:(∀k xs,look s.slots d≠ .cv (.row k xs))→s.rowAt (.slot d)=none:=fun hx=>by
  simp only[St.rowAt,St.get]
 simp only[St.put]
 split
 ·simp only[St.get,look]
  split
  ·rfl
  ·rw[ic _ rfl];rfl
 ·rename_i hx
  simp only[St.get,look]
  split
  ·rfl
  ·exact(h.no_alias (hn hx) i).symm
theorem qx(s:St)(d:Option Nat)(sv:SV):(s.put d sv).box=s.box:=by
 cases d with
 |none=>rfl
 |some d=>simp only[St.put];split <;> rfl
theorem ajR{w:World}{G:Gh}{s:St}{a:Act}(h:Rel w G s a)(d:Nat)(sv:SV){r:fb}(hr:r≠ .slot d)(q:Nat×List au)(hq:s.rowAt r=some q):(s.put (some d) sv).rowAt r=some q:=by
 cases r with
 |slot i=>
  have hne:d≠i:=fun e=>hr (by rw[e])
  simp only[St.rowAt]at hq ⊢
  rw[ajh h,if_neg hne]
  split at hq
  ·rename_i k xs he
   rw[he];simpa[SV.drop]using hq
  ·cases hq
 |cell l i=>simpa only[St.rowAt,qx]using hq
theorem Rel.put{w:World}{G:Gh}{s:St}{a:Act}(h:Rel w G s a){d:Nat}{sv:SV}{x:Value}(hv:ez w G s a .ret sv x)(hd:d < a.tmps.size):
  Rel w (G.re .ret (.slot d)) (s.put (some d) sv) (a.put (some d) x):=by
 have hroot:∀r,decide (r=fb.slot d)=false→∀q,s.rowAt r=some q→(s.put (some d) sv).rowAt r=some q∧∀v,dn w G a r v→dn w (G.re .ret (.slot d)) (a.put (some d) x) r v:=fun r hr q hq=>by
  have hne:r≠ .slot d:=by simpa using hr
  refine⟨ajR h d sv hne q hq,fun v hv=>?_⟩
  cases r with
  |slot i=>
   have:d≠i:=fun e=>hne (by rw[e])
   simp only[dn,Act.put]at hv ⊢
   rw[getD_set_ne _ _ _ _ _ this];exact hv
  |cell l i=>exact hv
 refine⟨fun i=>?_,?_,fun b hb=>?_⟩
 ·rw[ajh h]
  by_cases e:d=i
  ·subst e
   rw[if_pos rfl]
   simp only[Act.put]
   rw[aa4 _ _ _ _ hd]
   exact ez.move _ (ik w G (by decide)) (fun k xs _ hr=>hr.retag (by decide)) hroot hv
  ·rw[if_neg e]
   simp only[Act.put]
   rw[getD_set_ne _ _ _ _ _ e]
   exact ez.move _ (ik w G (by decide)) (fun k xs _ hr=>hr.re (by decide) (by intro e;cases e)) hroot (h.slots i)
 ·rw[qx]
  exact h.heap.re (by decide) (by intro l e;cases e) (by intro l i e;cases e)
 ·simp only[Gh.re,h.fresh b hb];rw[if_neg (by decide)]
def eC:fb→Tag
 |.slot i=>.slot i
 |.cell l i=>.cell l i
theorem oM{r r':fb}(h:eC r=eC r'):r=r':=by
 cases r <;> cases r' <;> simp_all[eC]
theorem gj{h:bn}{l i:Nat}{c:CV}(hc:h.cell l i=c)(hne:c≠ .dead):∃cs,h.at_ l=some (.cells cs)∧cs[i]? =some c:=by
 unfold bn.cell at hc
 split at hc
 ·rename_i cs hcs
  refine⟨cs,hcs,?_⟩
  rw[gD]at hc
  cases hx:cs[i]? with
  |none=>rw[hx]at hc;exact absurd hc.symm hne
  |some y=>rw[hx]at hc;simp at hc;rw[hc]
 ·exact absurd hc.symm hne
theorem Rel.row{w:World}{G:Gh}{s:St}{a:Act}(h:Rel w G s a){r:fb}{k:Nat}{xs:List au}(hr:s.rowAt r=some (k,xs)):
  ∃v,dn w G a r v∧cp w G (eC r) k xs v:=by
 cases r with
 |slot i=>
  simp only[St.rowAt]at hr
  split at hr
  ·rename_i k' xs' he
   cases hr
   have:=h.slots i
   rw[he]at this
   exact⟨_,rfl,this⟩
  ·cases hr
 |cell l i=>
  simp only[St.rowAt]at hr
  split at hr
  ·rename_i k' xs' he
   cases hr
   obtain⟨cs,hcs,hi⟩:=gj he (by simp)
   obtain⟨hl,h1,arr,e,fr,h2,h3,h4,h5⟩:=h.heap.obj l _ hcs
   have hlt:i < cs.length:=by
    have:=List.getElem?_eq_some_iff.1 hi
    exact this.1
   have hv:arr.toList[i]? =some (arr.toList[i]'(by omega)):=gE _
   refine⟨arr.toList[i]'(by omega),?_,(h5 i _ _ hi hv).1⟩
   simp only[dn,World.cell?,h2]
   simpa using hv
  ·cases hr
theorem cJ{w:World}{G:Gh}{a:Act}{r:fb}{v v':Value}(h:dn w G a r v)(h':dn w G a r v'):v=v':=by
 cases r with
 |slot i=>exact h.symm.trans h'
 |cell l i=>simp only[dn]at h h';rw[h]at h';exact sI h'
theorem set_getElem?{α:Type}(l:List α)(i j:Nat)(x:α):(l.set i x)[j]? =if i=j∧i < l.length then some x else l[j]? :=by
 rw[List.getElem?_set]
 by_cases e:i=j
 ·subst e
  by_cases hl:i < l.length <;> simp[hl]
 ·simp[e]
theorem iw(h:bn)(l i:Nat)(c:CV)(m:Nat):(h.setCell l i c).at_ m=(match h.at_ m with|some (.cells cs)=>if m=l then some (.cells (cs.set i c))else some (.cells cs)|o=>o):=by
 unfold bn.setCell
 cases hl:h.at_ l with
 |none=>
  simp only
  cases hm:h.at_ m with
  |none=>rfl
  |some o=>
   cases o with
   |cells cs=>have:m≠l:=fun e=>by rw[e,hl]at hm;cases hm
              simp[this]
   |map kt es=>rfl
 |some o=>
  cases o with
  |map kt es=>
   simp only
   cases hm:h.at_ m with
   |none=>rfl
   |some o=>
    cases o with
    |cells cs=>have:m≠l:=fun e=>by rw[e,hl]at hm;cases hm
               simp[this]
    |map kt es=>rfl
  |cells cs=>
   simp only[bn.upd]
   by_cases e:m=l
   ·subst e;simp[hl]
   ·simp only[e,if_false]
    cases hm:h.at_ m with
    |none=>rfl
    |some o=>cases o <;> rfl
theorem gR(h:bn)(l i:Nat)(c:CV):(h.setCell l i c).n=h.n:=by
 unfold bn.setCell;split <;> rfl
theorem kU(h:bn)(l i:Nat)(c:CV)(m j:Nat)(hne:¬ (m=l∧j=i)):(h.setCell l i c).cell m j=h.cell m j:=by
 unfold bn.cell
 rw[iw]
 cases hm:h.at_ m with
 |none=>rfl
 |some o=>
  cases o with
  |map kt es=>rfl
  |cells cs=>
   simp only
   by_cases e:m=l
   ·subst e
    have hj:i≠j:=fun e=>hne ⟨rfl,e.symm⟩
    simp only[if_true,gD]
    rw[List.getElem?_set_ne hj]
   ·simp[e]
theorem nj.setCell{w:World}{G G':Gh}{h:bn}{l i:Nat}{c:CV}(hh:nj w G h)(M:uw w G w G')(hn:G'.n=G.n)(hι:∀m,G'.ι m=G.ι m)(hbox:∀m b,G.g b= .box m→G'.g b= .box m)
  (hcell:∀m j b,¬ (m=l∧j=i)→G.g b= .cell m j→G'.g b= .cell m j)
  (hc:∀cs arr e fr v,h.at_ l=some (.cells cs)→w.heap[G.ι l]? =some (.cells arr e fr)→arr.toList[i]? =some v→i < cs.length→dK w G' (.cell l i) c v):nj w G' (h.setCell l i c):=by
 refine⟨by rw[gR,hn];exact hh.n,fun m o ho=>?_⟩
 rw[iw]at ho
 rw[gR]
 have hrow:∀m j c v,¬ (m=l∧j=i)→dK w G (.cell m j) c v→dK w G' (.cell m j) c v:=fun m j c v hne hr=>by
  cases c with
  |val d=>exact cU.mono M hr
  |nil=>exact hr
  |dead=>trivial
  |row k xs=>
   rcases hr with hr|⟨b,cap,arr,h1,h2,h3,h4,h5,h6,h7,h8⟩
   ·exact .inl hr
   ·exact .inr ⟨b,cap,arr,h1,hcell _ _ _ hne h2,h3,by rw[M.P];exact h4,h5,h6,by rw[M.P];exact h7,by rw[M.P];exact h8.mono M⟩
 cases hm:h.at_ m with
 |none=>rw[hm]at ho;cases ho
 |some o'=>
  rw[hm]at ho
  obtain⟨hlt,hobj⟩:=hh.obj m o' hm
  refine⟨hlt,?_⟩
  cases o' with
  |map kt es=>
   simp only at ho;cases ho
   obtain⟨h1,hk,ents,clock,h2,h3,h4⟩:=hobj
   exact⟨by rw[hι];exact hbox _ _ h1,by rw[M.P];exact hk,ents,clock,by rw[hι];exact h2,h3,fun i e m he hm=>⟨((h4 i e m he hm).1).mono M,((h4 i e m he hm).2).mono M⟩⟩
  |cells cs=>
   obtain⟨h1,arr,e,fr,h2,h3,h4,h5⟩:=hobj
   simp only at ho
   by_cases em:m=l
   ·subst em
    simp only[if_true,sJ]at ho
    subst ho
    refine⟨by rw[hι];exact hbox _ _ h1,arr,e,fr,by rw[hι];exact h2,h3,by simpa using h4,fun j c' v hj hv=>?_⟩
    rw[set_getElem?]at hj
    split at hj
    ·rename_i hij
     obtain⟨rfl,hil⟩:=hij
     cases hj
     have hlt:i < cs.length:=hil
     refine⟨hc cs arr e fr v hm h2 hv hlt,(h5 i _ v (gE hlt) hv).2⟩
    ·rename_i hij
     have hji:j≠i:=fun e=>by
      subst e
      have:=List.getElem?_eq_some_iff.1 hj
      exact hij ⟨rfl,this.1⟩
     refine⟨hrow m j c' v (fun h=>hji h.2) (h5 j c' v hj hv).1,(h5 j c' v hj hv).2⟩
   ·rw[if_neg em]at ho
    cases ho
    exact⟨by rw[hι];exact hbox _ _ h1,arr,e,fr,by rw[hι];exact h2,h3,h4,fun j c' v hj hv=>⟨hrow m j c' v (fun h=>em h.1) (h5 j c' v hj hv).1,(h5 j c' v hj hv).2⟩⟩
theorem aox{G:Gh}{t t' u:Tag}{b:Nat}(hb:G.g b=u)(hu:u≠t):(G.re t t').g b=u:=by simp only[Gh.re,hb];rw[if_neg hu]
theorem ez.moveTo{w w':World}{G G':Gh}{s s':St}{a a':Act}{u u':Tag}{sv:SV}{v:Value}(M:uw w G w' G')
  (hrow:∀k xs,sv= .cv (.row k xs)→cp w G u k xs v→cp w' G' u' k xs v)
  (hroot:∀r q,s.rowAt r=some q→s'.rowAt r=some q∧∀v,dn w G a r v→dn w' G' a' r v)
  (h:ez w G s a u sv v):ez w' G' s' a' u' sv v:=by
 have:=ez.move (fun _=>false) M hrow (fun r _ q hq=>hroot r q hq) h
 rwa[nl]at this
theorem mi(s:St)(r:fb)(j:Nat):(s.eff (.kill r)).get j=if r= .slot j then .cv .dead else(s.get j).drop (fun r'=>decide (r'=r)):=by
 cases r with
 |slot i=>
  simp only[St.eff,St.setRoot,St.get,look]
  by_cases e:i=j
  ·subst e;simp
  ·rw[if_neg e,ic _ rfl,if_neg (by simpa using e)];rfl
 |cell l i=>
  simp only[St.eff,St.setRoot,St.get]
  rw[ic _ rfl];simp;rfl
theorem ag5(s:St){r r':fb}(hne:r'≠r)(q:Nat×List au)(hq:s.rowAt r'=some q):(s.eff (.kill r)).rowAt r'=some q:=by
 cases r' with
 |slot j=>
  simp only[St.rowAt]at hq ⊢
  rw[mi,if_neg (fun e=>hne e.symm)]
  split at hq
  ·rename_i k xs he;rw[he];simpa[SV.drop]using hq
  ·cases hq
 |cell m j=>
  cases r with
  |slot i=>exact hq
  |cell l i=>
   simp only[St.rowAt,St.eff,St.setRoot]at hq ⊢
   rw[kU _ _ _ _ _ _ (fun h=>hne (by rw[h.1,h.2]))]
   exact hq
theorem Rel.kill{w:World}{G:Gh}{s:St}{a:Act}(h:Rel w G s a)(r:fb):Rel w (G.re (eC r) .ret) (s.eff (.kill r)) a:=by
 have hti:eC r≠ .imm:=by cases r <;> (intro e;cases e)
 have hto:eC r≠ .other:=by cases r <;> (intro e;cases e)
 refine⟨fun j=>?_,?_,fun b hb=>?_⟩
 ·rw[mi]
  by_cases e:r= .slot j
  ·rw[if_pos e];trivial
  ·rw[if_neg e]
   refine ez.move _ (ik w G hti) (fun k xs _ hr=>hr.re hti (fun he=>e (oM (r:=.slot j) he).symm)) (fun r' hr' q hq=>?_) (h.slots j)
   exact⟨ag5 s (by simpa using hr') q hq,fun v hv=>by cases r' <;> exact hv⟩
 ·cases r with
  |slot i=>exact h.heap.re hti (by intro l e;cases e) (by intro l i e;cases e)
  |cell l i=>
   refine h.heap.setCell (ik w G hti) rfl (fun _=>rfl) (fun m b hb=>aox hb (by intro e;cases e)) (fun m j b hne hb=>aox hb (by intro e;cases e;exact hne ⟨rfl,rfl⟩)) (fun _ _ _ _ _ _ _ _ _=>trivial)
 ·simp only[Gh.re,h.fresh b hb];rw[if_neg (fun e=>hto e.symm)]
theorem tk(s:St)(r:fb)(d:au)(j:Nat):(s.eff (.fix r d)).get j=if r= .slot j then .cv (.val d)else(s.get j).refix r d:=by
 cases r with
 |slot i=>
  simp only[St.eff,St.setRoot,St.get,look]
  by_cases e:i=j
  ·subst e;simp
  ·rw[if_neg e,ic _ rfl,if_neg (by simpa using e)]
 |cell l i=>
  simp only[St.eff,St.setRoot,St.get]
  rw[ic _ rfl];simp
theorem amj(s:St){r r':fb}{d:au}(hne:r'≠r)(q:Nat×List au)(hq:s.rowAt r'=some q):(s.eff (.fix r d)).rowAt r'=some q:=by
 cases r' with
 |slot j=>
  simp only[St.rowAt]at hq ⊢
  rw[tk,if_neg (fun e=>hne e.symm)]
  split at hq
  ·rename_i k xs he;rw[he];simpa[SV.refix]using hq
  ·cases hq
 |cell m j=>
  cases r with
  |slot i=>exact hq
  |cell l i=>
   simp only[St.rowAt,St.eff,St.setRoot]at hq ⊢
   rw[kU _ _ _ _ _ _ (fun h=>hne (by rw[h.1,h.2]))]
   exact hq
theorem cp.fixed{w:World}{G:Gh}{t:Tag}{k:Nat}{xs:List au}{v:Value}(h:cp w G t k xs v)(ht:t≠ .imm):cU w (G.re t .imm) (.sl xs) v:=by
 rcases h with⟨rfl,a,rfl⟩|⟨b,cap,arr,rfl,h2,h3,h4,h5,h6,h7,h8⟩
 ·exact .nilsl a 0
 ·by_cases hx:xs=[]
  ·subst hx;exact .nilsl _ _
  ·refine .sl xs _ cap (G.P.cellsOf k) (arr.toList.take (xs.length*G.P.cellsOf k)) hx h5 (by simp[Gh.re,h2]) (Array.getElem?_eq_some_iff.1 h3).1 rfl h7 (h8.mono (ik w G ht)) (fun i v hv=>?_)
   have hadd:(⟨b,0,none⟩:Addr).add i=⟨b,i,none⟩:=by unfold Addr.add;split <;> simp_all
   rw[hadd]
   have hv':arr.toList[i]? =some v:=by
    rw[List.getElem?_take]at hv
    split at hv
    ·exact hv
    ·cases hv
   simp only[World.cell?,h3]
   simpa using hv'
theorem Rel.fix{w:World}{G:Gh}{s:St}{a:Act}(h:Rel w G s a){r:fb}{k:Nat}{xs:List au}(hr:s.rowAt r=some (k,xs)):Rel w (G.re (eC r) .imm) (s.eff (.fix r (.sl xs))) a:=by
 have hti:eC r≠ .imm:=by cases r <;> (intro e;cases e)
 have hto:eC r≠ .other:=by cases r <;> (intro e;cases e)
 obtain⟨v0,hv0,hrow⟩:=h.row hr
 have hfix:=hrow.fixed hti
 refine⟨fun j=>?_,?_,fun b hb=>?_⟩
 ·rw[tk]
  by_cases e:r= .slot j
  ·rw[if_pos e]
   subst e
   have:a.tmps.getD j undef=v0:=hv0
   rw[this]
   exact hfix
  ·rw[if_neg e]
   have hs:=h.slots j
   have hgen:∀sv,sv=s.get j→(sv.drop (fun r'=>decide (r'=r))=sv.refix r (.sl xs))→ez w (G.re (eC r) .imm) (s.eff (.fix r (.sl xs))) a (.slot j) (sv.refix r (.sl xs)) (a.tmps.getD j undef):=fun sv hsv hd=>by
    rw[← hd]
    rw[← hsv]at hs
    refine ez.move _ (ik w G hti) (fun k xs _ hr=>hr.re hti (fun he=>e (oM (r:=.slot j) he).symm)) (fun r' hr' q hq=>?_) hs
    exact⟨amj s (by simpa using hr') q hq,fun v hv=>by cases r' <;> exact hv⟩
   cases hg:s.get j with
   |alias r'=>
    by_cases er:r'=r
    ·subst er
     rw[hg]at hs
     obtain⟨_,hv⟩:=hs
     simp only[SV.refix,if_true]
     show cU _ _ _ _
     rw[cJ hv hv0]
     exact hfix
    ·have:=hgen _ hg.symm (by simp[SV.drop,SV.refix,er])
     exact this
   |elt r' i o=>exact hgen _ hg.symm (by simp[SV.drop,SV.refix])
   |_=>exact hgen _ hg.symm rfl
 ·cases r with
  |slot i=>exact h.heap.re hti (by intro l e;cases e) (by intro l i e;cases e)
  |cell l i=>
   refine h.heap.setCell (ik w G hti) rfl (fun _=>rfl) (fun m b hb=>aox hb (by intro e;cases e)) (fun m j b hne hb=>aox hb (by intro e;cases e;exact hne ⟨rfl,rfl⟩)) (fun cs arr e fr v _ hw hv _=>?_)
   have:v=v0:=by
    simp only[dn,World.cell?,hw]at hv0
    have hv':arr[i]? =some v:=by simpa using hv
    simp only[Option.isSome_none,Bool.false_eq_true,if_false]at hv0
    rw[hv']at hv0;exact sI hv0
   rw[this];exact hfix
 ·simp only[Gh.re,h.fresh b hb];rw[if_neg (fun e=>hto e.symm)]
theorem dJ(w:World)(G:Gh)(r:fb)(t':Tag):Kept w G w (G.re (eC r) t'):=nm w G (by cases r <;> (intro e;cases e)) (by cases r <;> (intro e;cases e))
theorem eX(s:St):∀(es es':List Eff),s.effs (es++es')=(s.effs es).effs es'
 | [],_=>rfl
 |e::es,es'=>by simp only[List.cons_append,St.effs];exact eX _ es es'
def aw9:Operand→Tag
 |.tmp t=>.slot t
 |_=>.ret
theorem asQ(w:World)(G:Gh)(s:St)(a:Act)(t:Tag)(v:Value):ez w G s a t (lit v) v:=by
 unfold lit
 split
 ·exact .int _ _
 ·exact .bool _
 ·exact .str _
 ·exact .nilptr
 ·exact .nilmap
 ·exact⟨none,rfl⟩
 ·exact .nilfn
 ·trivial
theorem Rel.opv{w:World}{G:Gh}{s:St}{a:Act}(h:Rel w G s a)(x:Operand):ez w G s a (aw9 x) (s.opv x) (a.eval x):=by
 cases x with
 |tmp t=>exact h.slots t
 |const v=>exact asQ w G s a _ v
 |global g=>trivial
 |func f=>exact .fn f [] [] #[] #[] .nil .nil
theorem xV{w:World}{G:Gh}{d:au}{v:Value}(h:cU w G d v)(hv:v.oneCell'=true):d.one=true:=by
 cases h <;> first|rfl|(simp[Value.oneCell']at hv)
theorem so{w:World}{G:Gh}{t:Tag}:∀{cs:List CV} {ds:List au} {vs:List Value},je cs=some ds→vs.length=cs.length→
  (∀(j:Nat) (c:CV) (u:Value),cs[j]? =some c→vs[j]? =some u→(c matches .val _|.nil)∧dK w G t c u∧u.oneCell'=true)→cn w G ds vs
 | [],ds,vs,h,hl,hr=>by
  simp[je]at h;subst h
  have:vs=[]:=List.eq_nil_of_length_eq_zero (by simpa using hl)
  subst this;exact .nil
 |c::cs,ds,vs,h,hl,hr=>by
  simp only[je]at h
  cases hc:c.toD with
  |none=>rw[hc]at h;simp at h
  |some d=>
   rw[hc]at h
   simp only[oB]at h
   cases hds:je cs with
   |none=>rw[hds]at h;simp at h
   |some ds'=>
    rw[hds]at h
    simp only[oB,sJ]at h
    subst h
    cases vs with
    |nil=>simp at hl
    |cons v vs=>
     obtain⟨g1,g2,g3⟩:=hr 0 c v rfl rfl
     have hd:cU w G d v:=by
      cases c with
      |val d'=>simp only[CV.toD,sJ]at hc;subst hc;exact g2
      |nil=>
       simp only[CV.toD,sJ]at hc;subst hc
       obtain⟨a,rfl⟩:=g2
       exact .nilsl a 0
      |row k xs=>simp at g1
      |dead=>simp at g1
     exact .cons d v ds' vs (xV hd g3) hd (so hds (by simpa using hl) (fun j c u hc hu=>hr (j+1) c u (by simpa using hc) (by simpa using hu)))
theorem wG{w:World}{G:Gh}{s:St}{a:Act}{t:Tag}{cs:List CV}{ds:List au}{v:Value}(h:ez w G s a t (.bld cs) v)(hd:je cs=some ds):cU w G (.agg ds) v:=by
 obtain⟨vs,rfl,h2,h3⟩:=h
 exact .agg ds vs (so hd (by simpa using h2) (fun j c u hc hu=>h3 j c u hc (by simpa using hu)))
theorem Rel.optVal{w:World}{G:Gh}{s:St}{a:Act}(h:Rel w G s a){x:Operand}{d:au}(hd:optVal s x=some d):cU w G d (a.eval x):=by
 have ho:=h.opv x
 unfold Val.optVal at hd
 split at hd
 ·rename_i d' he
  cases hd
  rw[he]at ho
  exact ho
 ·rename_i cs he
  rw[he]at ho
  cases hc:je cs with
  |none=>rw[hc]at hd;simp at hd
  |some ds=>rw[hc]at hd;simp at hd;subst hd;exact wG ho hc
 ·cases hd
theorem Rel.asInt{w:World}{G:Gh}{s:St}{a:Act}(h:Rel w G s a){x:Operand}{k:IntKind}{n:Int}(hd:s.asInt x=some (k,n)):a.eval x= .int k n:=by
 have ho:=h.opv x
 unfold St.asInt at hd
 split at hd
 ·rename_i k' n' he
  cases hd
  rw[he]at ho
  have ho':cU w G (.int k n) (a.eval x):=ho
  generalize a.eval x=v at ho' ⊢
  cases ho'
  rfl
 ·cases hd
structure uM(w:World)(G:Gh)(s:St)(a:Act)(es:List Eff)(G':Gh):Prop where
 rel:Rel w G' (s.effs es) a
 kept:Kept w G w G'
theorem uM.none{w:World}{G:Gh}{s:St}{a:Act}(h:Rel w G s a):uM w G s a [] G:=⟨h,Kept.refl w G⟩
theorem il{s:St}{x:Operand}{sv:SV}(h:s.opv x=sv)(hl:∀v,lit v≠sv)(hf:∀f,SV.cv (.val (.fn f [] []))≠sv)(hd:SV.cv .dead≠sv):∃t,x= .tmp t:=by
 cases x with
 |tmp t=>exact⟨t,rfl⟩
 |const v=>exact absurd h (hl v)
 |global g=>exact absurd h hd
 |func f=>exact absurd h (hf f)
theorem jB(v:Value)(k:Nat)(xs:List au):lit v≠ .cv (.row k xs):=by unfold lit;split <;> (intro e;cases e)
theorem zN(v:Value)(r:fb):lit v≠ .alias r:=by unfold lit;split <;> (intro e;cases e)
theorem Rel.rowAt_slot{s:St}{t:Nat}{k:Nat}{xs:List au}(h:s.get t= .cv (.row k xs)):s.rowAt (.slot t)=some (k,xs):=by simp only[St.rowAt,h]
theorem Rel.asVal{w:World}{G:Gh}{s:St}{a:Act}(h:Rel w G s a){x:Operand}{d:au}{es:List Eff}(hd:s.asVal x=some (d,es)):
  ∃G',uM w G s a es G'∧cU w G' d (a.eval x):=by
 have ho:=h.opv x
 unfold St.asVal at hd
 split at hd
 ·rename_i d' he
  simp only[sJ,pJ]at hd
  obtain⟨rfl,rfl⟩:=hd
  rw[he]at ho
  exact⟨G,.none h,ho⟩
 ·rename_i he
  simp only[sJ,pJ]at hd
  obtain⟨rfl,rfl⟩:=hd
  rw[he]at ho
  obtain⟨b,hb⟩:=ho
  rw[hb]
  exact⟨G,.none h,.nilsl b 0⟩
 ·rename_i k xs he
  simp only[sJ,pJ]at hd
  obtain⟨rfl,rfl⟩:=hd
  obtain⟨t,rfl⟩:=il he (fun v=>jB v k xs) (fun f e=>by cases e) (fun e=>by cases e)
  have hr:=Rel.rowAt_slot (s:=s) (t:=t) he
  rw[he]at ho
  exact⟨_,⟨h.fix hr,dJ w G (.slot t) .imm⟩,cp.fixed ho (by intro e;cases e)⟩
 ·rename_i r he
  rw[he]at ho
  cases hr:s.rowAt r with
  |none=>rw[hr]at hd;simp at hd
  |some p=>
   rw[hr]at hd
   simp only[oB,sJ,pJ]at hd
   obtain⟨rfl,rfl⟩:=hd
   obtain⟨v,hv,hrow⟩:=h.row (k:=p.1) (xs:=p.2) hr
   obtain⟨_,hv'⟩:=ho
   rw[cJ hv' hv]
   exact⟨_,⟨h.fix (k:=p.1) hr,dJ w G r .imm⟩,hrow.fixed (by cases r <;> (intro e;cases e))⟩
 ·rename_i cs he
  rw[he]at ho
  cases hc:je cs with
  |none=>rw[hc]at hd;simp at hd
  |some ds=>
   rw[hc]at hd
   simp only[oB,sJ,pJ]at hd
   obtain⟨rfl,rfl⟩:=hd
   exact⟨G,.none h,wG ho hc⟩
 ·cases hd
def Reads(w:World)(G:Gh)(xs:List au)(v:Value):Prop:=
 ∃A cap,v= .slice A xs.length cap∧(xs≠[]→∃ad vs k,A=some ad∧ad.spot=none∧ad.block < w.heap.size∧(∀x∈xs,x.cells.length=k)∧cn w G (bx xs) vs∧cellsIn w ad vs)
theorem cU.reads{w:World}{G:Gh}{xs:List au}{v:Value}(h:cU w G (.sl xs) v):Reads w G xs v:=by
 cases h with
 |nilsl a cap=>exact⟨a,cap,rfl,fun h=>absurd rfl h⟩
 |sl xs ad cap k vs h1 h2 h3 h4 h5 h6 h7 h8=>exact⟨some ad,cap,rfl,fun _=>⟨ad,vs,k,rfl,h5,h4,h6,h7,h8⟩⟩
theorem oJ{w:World}{b:Nat}{arr:Array Value}{e:TypeId}{fr:Nat×Nat}(h:w.heap[b]? =some (.cells arr e fr))(n:Nat):cellsIn w ⟨b,0,none⟩ (arr.toList.take n):=fun i v hv=>by
 have hadd:(⟨b,0,none⟩:Addr).add i=⟨b,i,none⟩:=by unfold Addr.add;split <;> simp_all
 rw[hadd]
 have hv':arr.toList[i]? =some v:=by
  rw[List.getElem?_take]at hv
  split at hv
  ·exact hv
  ·cases hv
 simp only[World.cell?,h]
 simpa using hv'
theorem cp.reads{w:World}{G:Gh}{t:Tag}{k:Nat}{xs:List au}{v:Value}(h:cp w G t k xs v):Reads w G xs v:=by
 rcases h with⟨rfl,a,rfl⟩|⟨b,cap,arr,rfl,h2,h3,h4,h5,h6,h7,h8⟩
 ·exact⟨a,0,rfl,fun h=>absurd rfl h⟩
 ·exact⟨_,cap,rfl,fun _=>⟨_,_,G.P.cellsOf k,rfl,rfl,(Array.getElem?_eq_some_iff.1 h3).1,h7,h8,oJ h3 _⟩⟩
theorem Rel.list{w:World}{G:Gh}{s:St}{a:Act}(h:Rel w G s a){x:Operand}{xs:List au}(hd:s.list (s.opv x)=some xs):Reads w G xs (a.eval x):=by
 have ho:=h.opv x
 unfold St.list at hd
 split at hd
 ·rename_i he;cases hd;rw[he]at ho;exact cU.reads ho
 ·rename_i he;cases hd;rw[he]at ho
  obtain⟨b,hb⟩:=ho
  rw[hb]
  exact⟨b,0,rfl,fun h=>absurd rfl h⟩
 ·rename_i k ys he;cases hd;rw[he]at ho;exact cp.reads ho
 ·rename_i r he
  rw[he]at ho
  cases hr:s.rowAt r with
  |none=>rw[hr]at hd;simp at hd
  |some p=>
   rw[hr]at hd
   simp only[oB,sJ]at hd
   subst hd
   obtain⟨v,hv,hrow⟩:=h.row (k:=p.1) (xs:=p.2) hr
   obtain⟨_,hv'⟩:=ho
   rw[cJ hv' hv]
   exact hrow.reads
 ·cases hd
def jP(P:Program)(o:Oper)(w:World)(G:Gh)(s:St)(a:Act)(sv:SV)(es:List Eff):Prop:=
 ∃x w' G',((execOp a.eval o).run P w= .ok (.value x) w'∨((execOp a.eval o).run P w= .ok .skip w'∧x=undef))∧Kept w G w' G'∧Rel w' G' (s.effs es) a∧ez w' G' (s.effs es) a .ret sv x
variable{P:Program}{o:Oper}{w:World}{G:Gh}{s:St}{a:Act}{sv:SV}{es:List Eff}
theorem jP.still(h:Rel w G s a){x:Value}(hr:(execOp a.eval o).run P w= .ok (.value x) w)(hv:ez w G s a .ret sv x):jP P o w G s a sv []:=
 ⟨x,w,G,.inl hr,Kept.refl w G,h,hv⟩
theorem jP.went{G':Gh}(h:uM w G s a es G'){x:Value}(hr:(execOp a.eval o).run P w= .ok (.value x) w)(hv:ez w G' (s.effs es) a .ret sv x):jP P o w G s a sv es:=
 ⟨x,w,G',.inl hr,h.kept,h.rel,hv⟩
theorem ez.any{t t':Tag}{v:Value}(h:ez w G s a t sv v)(hn:∀k xs,sv≠ .cv (.row k xs)):ez w G s a t' sv v:=by
 cases sv with
 |cv c=>cases c with
  |row k xs=>exact absurd rfl (hn k xs)
  |_=>exact h
 |_=>exact h
theorem wv{x:Operand}(h:Rel w G s a)(ho:moveOp s x=some (sv,es))(hr:(execOp a.eval o).run P w= .ok (.value (a.eval x)) w):jP P o w G s a sv es:=by
 have hx:=h.opv x
 unfold moveOp at ho
 split at ho
 all_goals try (rename_i he;have he:=he;rw[he]at hx;simp only[sJ,pJ]at ho;obtain⟨rfl,rfl⟩:=ho)
 ·exact .still h hr (hx.any (fun _ _ e=>by cases e))
 ·exact .still h hr (hx.any (fun _ _ e=>by cases e))
 ·rename_i he
  obtain⟨t,rfl⟩:=il he (fun v=>jB v _ _) (fun f e=>by cases e) (fun e=>by cases e)
  exact .still h hr ⟨⟨_,Rel.rowAt_slot (s:=s) (t:=t) he⟩,rfl⟩
 ·exact .still h hr (hx.any (fun _ _ e=>by cases e))
 ·exact .still h hr (hx.any (fun _ _ e=>by cases e))
 ·exact .still h hr (hx.any (fun _ _ e=>by cases e))
 ·exact .still h hr (hx.any (fun _ _ e=>by cases e))
 ·exact .still h hr (hx.any (fun _ _ e=>by cases e))
 ·cases ho
theorem akp{x:Operand}(h:Rel w G s a)(ho:assignOp s x=some (sv,es))(hr:(execOp a.eval o).run P w= .ok (.value (a.eval x)) w):jP P o w G s a sv es:=by
 have hx:=h.opv x
 unfold assignOp at ho
 split at ho
 ·rename_i k xs he
  rw[he]at hx
  simp only[sJ,pJ]at ho
  obtain⟨rfl,rfl⟩:=ho
  obtain⟨t,rfl⟩:=il he (fun v=>jB v k xs) (fun f e=>by cases e) (fun e=>by cases e)
  refine .went ⟨h.kill (.slot t),dJ w G (.slot t) .ret⟩ hr ?_
  exact cp.retag hx (by intro e;cases e)
 ·rename_i i he
  rw[he]at hx
  cases hra:s.rowAt (.slot i)with
  |none=>rw[hra]at ho;simp at ho
  |some p=>
   rw[hra]at ho
   simp only[oB,sJ,pJ]at ho
   obtain⟨rfl,rfl⟩:=ho
   obtain⟨v,hv,hrow⟩:=h.row (k:=p.1) (xs:=p.2) hra
   obtain⟨_,hv'⟩:=hx
   refine .went ⟨h.kill (.slot i),dJ w G (.slot i) .ret⟩ hr ?_
   rw[cJ hv' hv]
   exact cp.retag hrow (by intro e;cases e)
 ·exact wv h ho hr
theorem jd{d:au}{x:Value}(h:Rel w G s a)(ho:ret d=some (sv,es))(hr:(execOp a.eval o).run P w= .ok (.value x) w)(hd:cU w G d x):jP P o w G s a sv es:=by
 simp only[Val.ret,sJ,pJ]at ho
 obtain⟨rfl,rfl⟩:=ho
 exact .still h hr hd
theorem aiG{op:UnOp}{d r:au}{v:Value}(hv:cU w G d v)(hd:unD op d=some r):∃x,(Op.unary op v).run P w= .ok x w∧cU w G r x:=by
 unfold unD at hd
 split at hd
 ·cases hv;simp only[sJ]at hd;subst hd;exact⟨_,rfl,.int _ _⟩
 ·cases hv;simp only[sJ]at hd;subst hd;exact⟨_,rfl,.bool _⟩
 ·cases hv
  simp only[we,sJ]at hd;subst hd
  exact⟨_,rfl,.int _ _⟩
 ·cases hd
theorem ag2{op:BinOp}{t:TypeId}{k:IntKind}{m n:Int}{r:au}(h1:op≠ .shl)(h2:op≠ .shr)(hd:we op k m n=some r):∃x,(binOp op t (.int k m) (.int k n)).run P w= .ok x w∧cU w G r x:=by
 cases op <;> simp only[we]at hd
 all_goals try (simp only[sJ]at hd;subst hd)
 all_goals first
  |exact absurd rfl h1
  |exact absurd rfl h2
  |(refine⟨_,?_,by constructor⟩;simp[binOp,Op.intArith,Op.intBits,Op.intCmp];done)
  |(refine⟨_,?_,.bool _⟩;simp[binOp,Op.intArith,Op.intBits,Op.intCmp];done)
  |(split at hd
    ·cases hd
    ·rename_i hz
     simp only[sJ]at hd;subst hd
     refine⟨_,?_,.int _ _⟩
     simp[binOp,Op.intDiv,hz])
theorem aaG{op:BinOp}{t:TypeId}{k k':IntKind}{m n:Int}{r:au}(h1:op= .shl∨op= .shr)(hd:su op k m n=some r):∃x,(binOp op t (.int k m) (.int k' n)).run P w= .ok x w∧cU w G r x:=by
 unfold su at hd
 split at hd
 ·cases hd
 ·rename_i hn
  rcases h1 with rfl|rfl
  all_goals
   simp only[sJ]at hd;subst hd
   exact⟨_,by simp[binOp,Op.shift,hn],.int _ _⟩
theorem afX{op:BinOp}{t:TypeId}{m n:ByteArray}{r:au}(hd:aee op m n=some r):∃x,(binOp op t (.string m) (.string n)).run P w= .ok x w∧cU w G r x:=by
 cases op <;> simp only[aee]at hd
 all_goals try (simp only[sJ]at hd;subst hd)
 all_goals first
  |(cases hd;done)
  |(refine⟨_,?_,.bool _⟩;simp[binOp,Op.stringOp];done)
  |(split at hd
    ·cases hd
    ·rename_i hz
     simp only[sJ]at hd;subst hd
     refine⟨_,?_,.str _⟩
     simp only[binOp,Op.stringOp]
     rw[if_neg hz];rfl)
theorem nN{d:Nat}{t:TypeId}{td:TypeDesc}{x y:au}{u v:Value}{e:Bool}(ht:P.underlying t=some td)(hx:cU w G x u)(hy:cU w G y v)(hd:eY td x y=some e):
  (Op.equalIn (d+1) t u v).run P w= .ok e w:=by
 unfold eY at hd
 split at hd
 ·split at hd
  ·rename_i hk
   cases hx;cases hy
   simp only[sJ]at hd;subst hd;subst hk
   simp[Op.equalIn,run_underlying ht]
  ·cases hd
 ·cases hx;cases hy;simp only[sJ]at hd;subst hd;simp[Op.equalIn,run_underlying ht]
 ·cases hx;cases hy;simp only[sJ]at hd;subst hd;simp[Op.equalIn,run_underlying ht]
 ·cases hx;cases hy <;> (simp only[sJ]at hd;subst hd;simp[Op.equalIn,run_underlying ht])
 ·cases hx;cases hy;simp only[sJ]at hd;subst hd;simp[Op.equalIn,run_underlying ht]
 ·cases hd
theorem tB{t:TypeId}{d:TypeDesc}(ht:P.underlying t=some d)(w:World):(isAgg t).run P w= .ok (fl P t) w:=by
 unfold isAgg
 rw[Sem.run_bind,run_underlying ht w]
 unfold fl
 rw[ht]
 cases d <;> rfl
theorem jM{t:TypeId}{d:TypeDesc}(ht:P.underlying t=some d)(ha:fl P t=false){cs:Array Value}{off:Nat}{v:Value}(hv:cs[off]? =some v)(w:World):(part t cs off).run P w= .ok v w:=by
 unfold part
 simp only[Sem.run_bind,tB ht,Result.andThen_ok,ha,Bool.false_eq_true,if_false,hv,Sem.run_pure]
theorem mB{d:Nat}{as bs:List au}{us vs:Array Value}(ha:cn w G as us.toList)(hb:cn w G bs vs.toList):∀(fs:List Field) {e:Bool},fM P as bs fs=some e→(Op.eqFields (d+1) us vs fs).run P w= .ok e w
 | [],e,h=>by simp only[fM,sJ]at h;subst h;rfl
 |f::fs,e,h=>by
  simp only[fM]at h
  split at h
  ·cases h
  ·rename_i hn
   have hn1:f.name≠ "_" :=fun e=>hn (.inl e)
   have hn2:fl P f.type=false:=by simpa using fun e=>hn (.inr e)
   cases ht:P.underlying f.type with
   |none=>rw[ht]at h;simp at h
   |some td=>
    rw[ht]at h
    simp only[oB]at h
    cases h1:as[f.offset]? with
    |none=>rw[h1]at h;simp at h
    |some x=>
     cases h2:bs[f.offset]? with
     |none=>rw[h1,h2]at h;simp at h
     |some y=>
      rw[h1,h2]at h
      simp only[oB]at h
      obtain⟨u,hu,_,hxu⟩:=ha.get _ _ h1
      obtain⟨v,hv,_,hyv⟩:=hb.get _ _ h2
      cases he:eY td x y with
      |none=>rw[he]at h;simp at h
      |some b=>
       rw[he]at h
       simp only[oB]at h
       have hr:=nN (P:=P) (w:=w) (d:=d) ht hxu hyv he
       have hpu:=jM (P:=P) ht hn2 (cs:=us) (off:=f.offset) (v:=u) (by simpa using hu) w
       have hpv:=jM (P:=P) ht hn2 (cs:=vs) (off:=f.offset) (v:=v) (by simpa using hv) w
       simp only[Op.eqFields,if_pos hn1,Sem.run_bind,hpu,hpv,Result.andThen_ok,hr]
       cases b with
       |true=>simp only[if_true]at h;simp only[Bool.not_true,Bool.false_eq_true,if_false];exact mB ha hb fs h
       |false=>simp only[Bool.false_eq_true,if_false,sJ]at h;subst h;simp
theorem asU{t:TypeId}{x y:au}{u v:Value}{e:Bool}(hx:cU w G x u)(hy:cU w G y v)(hd:eqD P t x y=some e):(Op.equal t u v).run P w= .ok e w:=by
 unfold eqD at hd
 cases ht:P.underlying t with
 |none=>rw[ht]at hd;simp at hd
 |some td=>
  rw[ht]at hd
  simp only[oB]at hd
  split at hd
  ·split at hd
   ·cases hd
   ·rename_i fs as bs hn
    cases hx with
    |agg _ us hu=>
     cases hy with
     |agg _ vs hv=>
      have hf:P.fieldsOf t=fs:=by simp[Program.fieldsOf,ht]
      unfold Op.equal Op.maxDepth
      rw[run_equalIn_struct (P:=P) w 9999 t us vs (by rw[hf];exact ht) (by simpa using fun e=>hn (.inl e)),hf]
      exact mB hu hv _ hd
  ·unfold Op.equal Op.maxDepth
   exact nN ht hx hy hd
theorem jj{op:BinOp}{t:TypeId}{x y:Operand}{u v:Value}(h1:∀z,u≠ .agg z)(h2:u≠ .nilIface):(eqGuard op t x y u v).run P w= .ok () w:=by
 cases u with
 |agg z=>exact absurd rfl (h1 z)
 |nilIface=>exact absurd rfl h2
 |_=>cases op <;> simp[eqGuard]
theorem run_eqGuard_agg{op:BinOp}{t:TypeId}{x y:Operand}{u v:Array Value}(h:P.eqGuardType P.depth t=false):(eqGuard op t x y (.agg u) (.agg v)).run P w= .ok () w:=by
 cases op <;> simp[eqGuard,h]
theorem oY{d:au}{v:Value}(h:cU w G d v):v≠ .nilIface:=by cases h <;> (intro e;cases e)
theorem akX{d:au}{z:Array Value}(h:cU w G d (.agg z)):∃cs,d= .agg cs:=by cases h;exact⟨_,rfl⟩
theorem aoV{op:BinOp}{t:TypeId}{a b r:au}{u v:Value}{x y:Operand}(hu:cU w G a u)(hv:cU w G b v)(hd:ai3 P op t a b=some r):
  ∃z,(do eqGuard op t x y u v;binOp op t u v:Sem Value).run P w= .ok z w∧cU w G r z:=by
 have guard:(∀cs,a≠ .agg cs)→(eqGuard op t x y u v).run P w= .ok () w:=fun hn=>jj (fun z e=>by
  subst e
  obtain⟨cs,hcs⟩:=akX hu
  exact hn cs hcs) (oY hu)
 unfold ai3 at hd
 split at hd
 ·rename_i k a' k' b'
  have hg:=guard (by intro cs e;cases e)
  split at hd
  ·rename_i hs
   cases hu;cases hv
   obtain⟨z,h1,h2⟩:=aaG (P:=P) (w:=w) (G:=G) (t:=t) (by cases op <;> simp[adH]at hs ⊢) hd
   refine⟨z,?_,h2⟩
   simp only[Sem.run_bind,hg,Result.andThen_ok]
   exact h1
  ·rename_i hs
   split at hd
   ·rename_i hk
    subst hk
    cases hu;cases hv
    obtain⟨z,h1,h2⟩:=ag2 (P:=P) (w:=w) (G:=G) (t:=t) (fun e=>by subst e;exact hs rfl) (fun e=>by subst e;exact hs rfl) hd
    refine⟨z,?_,h2⟩
    simp only[Sem.run_bind,hg,Result.andThen_ok]
    exact h1
   ·cases hd
 ·have hg:=guard (by intro cs e;cases e)
  cases hu;cases hv
  obtain⟨z,h1,h2⟩:=afX (P:=P) (w:=w) (G:=G) (t:=t) hd
  refine⟨z,?_,h2⟩
  simp only[Sem.run_bind,hg,Result.andThen_ok]
  exact h1
 ·rename_i hn1 hn2
  have key:∃e,eqD P t a b=some e∧((op= .eql∧r= .bool e)∨(op= .neq∧r= .bool (!e))):=by
   unfold me at hd
   cases he:eqD P t a b with
   |none=>rw[he]at hd;split at hd <;> simp at hd
   |some e=>
    rw[he]at hd
    refine⟨e,rfl,?_⟩
    split at hd
    ·simp at hd;exact .inl ⟨rfl,hd.symm⟩
    ·simp at hd;exact .inr ⟨rfl,hd.symm⟩
    ·cases hd
  obtain⟨e,he,hop⟩:=key
  have hr:=asU (P:=P) (w:=w) hu hv he
  have hg:(eqGuard op t x y u v).run P w= .ok () w:=by
   by_cases hagg:∃z,u= .agg z
   ·obtain⟨z,rfl⟩:=hagg
    obtain⟨cs,rfl⟩:=akX hu
    unfold eqD at he
    cases ht:P.underlying t with
    |none=>rw[ht]at he;simp at he
    |some td=>
     rw[ht]at he
     simp only[oB]at he
     split at he
     ·split at he
      ·cases he
      ·rename_i hn
       cases hv
       exact run_eqGuard_agg (by simpa using fun e=>hn (.inr e))
     ·rename_i hna
      unfold eY at he
      split at he <;> simp_all
   ·exact jj (fun z e=>hagg ⟨z,e⟩) (oY hu)
  have hb:(binOp op t u v).run P w= .ok (if op= .eql then .bool e else .bool (!e)) w:=by
   rcases hop with⟨rfl,_⟩|⟨rfl,_⟩
   all_goals
    cases hu <;> cases hv <;> first
     |(simp[binOp,Sem.run_bind,hr];done)
     |(exact absurd rfl (hn1 _ _ _ _ rfl))
     |(exact absurd rfl (hn2 _ _ rfl))
     |skip
  refine⟨_,by simp only[Sem.run_bind,hg,Result.andThen_ok];exact hb,?_⟩
  rcases hop with⟨rfl,rfl⟩|⟨rfl,rfl⟩
  ·exact .bool _
  ·exact .bool _
variable{P:Program}{o:Oper}{w:World}{G:Gh}{s:St}{a:Act}{sv:SV}{es:List Eff}
theorem ae{α β:Type}{x:Option α}{f:α→Option β}{y:β}:x.bind f=some y↔∃z,x=some z∧f z=some y:=by
 cases x <;> simp
theorem aqN{op:UnOp}{t:TypeId}{x:Operand}(h:Rel w G s a)(hop:o.op= .unOp op t x)(ho:((optVal s x).bind fun d=>(unD op d).bind ret)=some (sv,es)):jP P o w G s a sv es:=by
 simp only[ae]at ho
 obtain⟨d,hd,r,hr,ho⟩:=ho
 obtain⟨z,h1,h2⟩:=aiG (P:=P) (h.optVal hd) hr
 exact jd h ho (x:=z) (by simp only[execOp,hop,Sem.run_bind,h1,Result.andThen_ok,Sem.run_pure]) h2
theorem anI{op:BinOp}{t t':TypeId}{x y:Operand}(h:Rel w G s a)(hop:o.op= .binOp op t x y t')(ho:((optVal s x).bind fun d=>(optVal s y).bind fun e=>(ai3 P op t d e).bind ret)=some (sv,es)):jP P o w G s a sv es:=by
 simp only[ae]at ho
 obtain⟨d,hd,e,he,r,hr,ho⟩:=ho
 obtain⟨z,h1,h2⟩:=aoV (P:=P) (x:=x) (y:=y) (h.optVal hd) (h.optVal he) hr
 refine jd h ho (x:=z) ?_ h2
 simp only[execOp,hop]
 rw[Sem.run_bind,h1];rfl
theorem ar6{c x y:Operand}(h:Rel w G s a)(hop:o.op= .pick c x y)(ho:(match s.opv c with|.cv (.val (.bool t))=>if t then moveOp s x else moveOp s y|_=>none)=some (sv,es)):jP P o w G s a sv es:=by
 split at ho
 ·rename_i t hc
  have hx:=h.opv c
  rw[hc]at hx
  have hx':cU w G (.bool t) (a.eval c):=hx
  have hb:a.eval c= .bool t:=by generalize a.eval c=v at hx';cases hx';rfl
  cases t with
  |true=>
   exact wv h (by simpa using ho) (by simp[execOp,hop,hb,asBool])
  |false=>
   exact wv h (by simpa using ho) (by simp[execOp,hop,hb,asBool])
 ·cases ho
theorem wK{e:TypeId}(h:amO P e=true):P.underlying e=some (.int .u8):=by
 unfold amO at h
 split at h
 ·assumption
 ·cases h
theorem yu{f:Value→ByteArray→Sem (ForInStep ByteArray)}(hf:∀n r,f (.int .u8 n) r=pure (ForInStep.yield (r.push (UInt8.ofNat n.toNat)))):∀{ds:List au} {bs:List UInt8} {vs:List Value},strOf ds=some bs→cn w G ds vs→∀(s0:ByteArray),
  (forIn (m:=Sem) vs s0 f).run P w= .ok (bs.foldl ByteArray.push s0) w
 | [],bs,vs,hs,hr,s0=>by
  simp only[strOf,sJ]at hs;subst hs
  cases hr
  simp
 |d::ds,bs,vs,hs,hr,s0=>by
  cases hr with
  |cons _ v _ vs h1 h2 h3=>
   unfold strOf at hs
   split at hs
   ·rename_i heq;cases heq
   ·rename_i n ds' heq
    cases heq
    simp only[ae,sJ]at hs
    obtain⟨bs',hb,rfl⟩:=hs
    cases h2
    simp only[List.forIn_cons,hf,Sem.run_bind,Sem.run_pure,Result.andThen_ok,List.foldl_cons]
    exact yu hf hb h3 _
   ·cases hs
theorem foldl_push(bs:List UInt8):∀(s0:ByteArray),bs.foldl ByteArray.push s0=⟨s0.data++bs.toArray⟩:=by
 induction bs with
 |nil=>intro s0;simp
 |cons b bs ih=>intro s0;simp only[List.foldl_cons,ih,ByteArray.push];simp
theorem kP:∀{xs:List au},(∀x∈xs,x.one=true)→bx xs=xs
 | [],_=>rfl
 |x::xs,h=>by
  have h1:=h x (by simp)
  have h2:=kP (xs:=xs) fun y hy=>h y (by simp[hy])
  simp only[bx,List.flatMap_cons]at h2 ⊢
  rw[h2]
  cases x <;> first|rfl|simp[au.one]at h1
theorem vW:∀{ds:List au} {bs:List UInt8},strOf ds=some bs→∀x∈ds,x.one=true
 | [],_,_=>by simp
 |d::ds,bs,hs=>by
  unfold strOf at hs
  split at hs
  ·rename_i heq;cases heq
  ·rename_i n ds' heq
   cases heq
   simp only[ae,sJ]at hs
   obtain⟨bs',hb,rfl⟩:=hs
   intro x hx
   rcases List.mem_cons.1 hx with rfl|hx
   ·rfl
   ·exact vW hb x hx
  ·cases hs
theorem run_bytesToString{ds:List au}{bs:List UInt8}{v:Value}(hr:Reads w G ds v)(hs:strOf ds=some bs):(Conv.bytesToString v).run P w= .ok (.string ⟨bs.toArray⟩) w:=by
 obtain⟨A,cap,rfl,hr⟩:=hr
 by_cases hd:ds=[]
 ·subst hd
  simp only[strOf,sJ]at hs;subst hs
  cases A with
  |none=>simp[Conv.bytesToString];rfl
  |some ad=>simp[Conv.bytesToString,loadCells,loadCellsFrom];rfl
 ·obtain⟨ad,vs,k,rfl,h1,h2,h3,h4,h5⟩:=hr hd
  rw[kP (vW hs)]at h4
  have hl:=h4.length
  have hlc:=run_loadCells_list (P:=P) (w:=w) ad vs h5
  rw[hl]at hlc
  simp only[Conv.bytesToString,Sem.run_bind,hlc,Result.andThen_ok]
  rw[← Array.forIn_toList]
  rw[yu (P:=P) (fun n r=>rfl) hs h4 ByteArray.empty,foldl_push]
  simp
theorem ahm{src dst:TypeId}{x:Operand}(h:Rel w G s a)(hop:o.op= .convert src dst x)(ho:convertOp P s src dst x=some (sv,es))(hn:∀e,P.underlying dst≠some (.slice e)):jP P o w G s a sv es:=by
 unfold convertOp at ho
 split at ho
 ·rename_i k0 k hs hd
  simp only[ae]at ho
  obtain⟨⟨k',n⟩,hx,ho⟩:=ho
  have hv:=h.asInt hx
  refine jd h ho (x:=.int k (k.wrap n)) ?_ (.int _ _)
  simp[execOp,hop,convert,Sem.run_bind,run_underlying hs,run_underlying hd,hv,Conv.intToInt]
 ·rename_i hs hd
  simp only[ae]at ho
  obtain⟨d,hx,ho⟩:=ho
  have hv:=h.optVal hx
  cases d with
  |str b=>
   generalize hu:a.eval x=u at hv
   cases hv
   refine jd h ho (x:=.string b) ?_ (.str _)
   simp[execOp,hop,convert,Sem.run_bind,run_underlying hs,run_underlying hd,hu]
  |_=>simp at ho
 ·rename_i e hs hd
  split at ho
  ·rename_i he
   simp only[ae]at ho
   obtain⟨ds,hl,b,hb,ho⟩:=ho
   have hrd:=h.list hl
   have hc:=run_bytesToString (P:=P) hrd hb
   obtain⟨A,cap,hA,_⟩:=hrd
   refine jd h ho (x:=.string ⟨b.toArray⟩) ?_ (.str _)
   have hue:=wK he
   rw[hA]at hc
   simp[execOp,hop,convert,Sem.run_bind,run_underlying hs,run_underlying hd,hA,run_underlying hue,hc]
  ·cases ho
 ·rename_i e hs hd
  exact absurd hd (hn _)
 ·rename_i e hs hd
  exact absurd hd (hn _)
 ·cases ho
theorem cU.get_tup{t:Tag}{ds:List au}{v:Value}{i:Nat}{d:au}(h:ez w G s a t (.tup ds) v)(hd:ds[i]? =some d):∃u,(Instr.extract v i).run P w= .ok u w∧cU w G d u:=by
 obtain⟨vs,rfl,h2,h3⟩:=h
 have hlt:i < ds.length:=(List.getElem?_eq_some_iff.1 hd).1
 have hv:vs[i]? =some (vs[i]'(by omega)):=Array.getElem?_eq_getElem _
 exact⟨_,by simp[Instr.extract,hv],h3 i d _ hd hv⟩
theorem ahS{x:Operand}{i:Nat}(h:Rel w G s a)(hop:o.op= .extract x i)(ho:extractOp s x i=some (sv,es)):jP P o w G s a sv es:=by
 unfold extractOp at ho
 split at ho
 ·rename_i ds he
  have hx:=h.opv x
  rw[he]at hx
  simp only[ae]at ho
  obtain⟨d,hd,ho⟩:=ho
  obtain⟨u,h1,h2⟩:=cU.get_tup (P:=P) hx hd
  exact jd h ho (x:=u) (by simp only[execOp,hop,Sem.run_bind,h1,Result.andThen_ok,Sem.run_pure]) h2
 ·cases ho
theorem aaY{x:Operand}(h:Rel w G s a)(hop:o.op= .nilCheck x)(ho:(match s.opv x with|.cv (.val (.ptr (some a)))=>ret (.ptr (some a))|.cv (.val (.fn f a b))=>ret (.fn f a b)|_=>none)=some (sv,es)):jP P o w G s a sv es:=by
 have hx:=h.opv x
 split at ho
 ·rename_i p he
  rw[he]at hx
  have hx':cU w G (.ptr (some p)) (a.eval x):=hx
  refine jd h ho (x:=a.eval x) ?_ hx'
  generalize hu:a.eval x=u at hx'
  cases hx'
  simp[execOp,hop,hu]
 ·rename_i f as bs he
  rw[he]at hx
  have hx':cU w G (.fn f as bs) (a.eval x):=hx
  refine jd h ho (x:=a.eval x) ?_ hx'
  generalize hu:a.eval x=u at hx'
  cases hx'
  simp[execOp,hop,hu]
 ·cases ho
theorem eW{t:TypeId}(hc:P.cellsOf t≠0)(w:World):(sizeOf t).run P w= .ok (P.cellsOf t) w:=by
 unfold Program.cellsOf at hc ⊢
 cases hi:P.info? t with
 |none=>rw[hi]at hc;simp at hc
 |some i=>simp[sizeOf,typeInfo,hi]
theorem add_add(ad:Addr)(i j:Nat)(hs:ad.spot=none):(ad.add i).add j=ad.add (i+j):=by
 obtain⟨b,o,sp⟩:=ad
 simp at hs;subst hs
 unfold Addr.add
 split <;> split <;> split <;> simp_all <;> omega
theorem wB(ad:Addr)(i:Nat)(hs:ad.spot=none):(ad.add i).spot=none:=by
 unfold Addr.add;split <;> simp[hs]
theorem add_lit(b off i:Nat):(⟨b,off,none⟩:Addr).add i=⟨b,off+i,none⟩:=by
 unfold Addr.add;split <;> simp_all
theorem cellsIn.drop{ad:Addr}{vs:List Value}(h:cellsIn w ad vs)(n:Nat)(hs:ad.spot=none):cellsIn w (ad.add n) (vs.drop n):=fun i v hv=>by
 rw[add_add _ _ _ hs]
 exact h (n+i) v (by simpa using hv)
theorem cellsIn.take{ad:Addr}{vs:List Value}(h:cellsIn w ad vs)(n:Nat):cellsIn w ad (vs.take n):=fun i v hv=>by
 rw[List.getElem?_take]at hv
 split at hv
 ·exact h i v hv
 ·cases hv
def SV.on(n:Nat):SV→SV
 |.cv (.val (.ptr (some (l,off))))=>.cv (.val (.ptr (some (l,off+n))))
 |.imm cs=>.imm (cs.drop n)
 |.elt r i off=>.elt r i (off+n)
 |v=>v
theorem apS{t:Tag}{v:Value}(n:Nat)(h:ez w G s a t sv v)(hv:(∃p,sv= .cv (.val (.ptr (some p))))∨(∃cs,sv= .imm cs)∨(∃r i off,sv= .elt r i off)):
  ∃ad,v= .pointer (some ad)∧ad.spot=none∧ez w G s a .ret (sv.on n) (.pointer (some (ad.add n))):=by
 rcases hv with⟨⟨l,off⟩,rfl⟩|⟨cs,rfl⟩|⟨r,i,off,rfl⟩
 ·have h':cU w G (.ptr (some (l,off))) v:=h
  cases h' with
  |ptr l off hl=>
   refine⟨_,rfl,rfl,?_⟩
   rw[add_lit]
   exact .ptr l (off+n) hl
 ·obtain⟨ad,vs,rfl,h2,h3,h4,h5,h6⟩:=h
  exact⟨ad,rfl,h2,ad.add n,vs.drop n,rfl,wB _ _ h2,by rw[gW];exact h3,by rw[gW];exact h4,h5.drop n,h6.drop n h2⟩
 ·obtain⟨k,xs,b,m,cap,h1,h2,h3,rfl⟩:=h
  refine⟨_,rfl,rfl,k,xs,b,m,cap,h1,h2,h3,?_⟩
  rw[add_lit,Nat.add_assoc]
theorem ym{t:TypeId}{x:Operand}{f:Nat}(h:Rel w G s a)(hop:o.op= .fieldAddr t x f)(ho:fieldAddrOp P s t x f=some (sv,es)):jP P o w G s a sv es:=by
 unfold fieldAddrOp at ho
 split at ho
 ·rename_i fs ht
  simp only[ae]at ho
  obtain⟨fd,hf,ho⟩:=ho
  split at ho
  ·cases ho
  ·rename_i hc
   have hx:=h.opv x
   have key:∀sv0,s.opv x=sv0→((∃p,sv0= .cv (.val (.ptr (some p))))∨(∃cs,sv0= .imm cs)∨(∃r i off,sv0= .elt r i off))→sv=sv0.on fd.offset→es=[]→jP P o w G s a sv es:=fun sv0 h0 h1 h2 h3=>by
    rw[h0]at hx
    obtain⟨ad,hv,hsp,hr⟩:=apS fd.offset hx h1
    subst h2;subst h3
    refine .still h (x:=.pointer (some (ad.add fd.offset))) ?_ hr
    simp[execOp,hop,Instr.fieldAt,Sem.run_bind,run_underlying ht,hf,hv,Instr.sureAddr,fieldPlace,eW hc,hc]
   split at ho
   ·rename_i l off he
    simp only[Val.ret,sJ,pJ]at ho
    exact key _ he (.inl ⟨_,rfl⟩) ho.1.symm ho.2.symm
   ·rename_i cs he
    simp only[sJ,pJ]at ho
    exact key _ he (.inr (.inl ⟨_,rfl⟩)) ho.1.symm ho.2.symm
   ·rename_i r i off he
    simp only[sJ,pJ]at ho
    exact key _ he (.inr (.inr ⟨_,_,_,rfl⟩)) ho.1.symm ho.2.symm
   ·cases ho
 ·cases ho
variable{P:Program}{o:Oper}{w:World}{G:Gh}{s:St}{a:Act}{sv:SV}{es:List Eff}
def valOf(P:Program)(t:TypeId)(vs:List Value):Value:=if fl P t then .agg vs.toArray else vs.headD undef
theorem mI{t:TypeId}{ds:List au}{d:au}{vs:List Value}(h:gu P t ds=some d)(hr:cn w G ds vs):
  (∃td,P.underlying t=some td)∧P.cellsOf t≠0∧cU w G d (valOf P t vs)∧(fl P t=false→vs.length=1):=by
 unfold gu at h
 split at h
 ·cases h
 ·rename_i hc
  split at h
  ·rename_i ha
   cases h
   refine⟨?_,hc,?_,fun e=>by rw[ha]at e;cases e⟩
   ·unfold fl at ha
    cases hu:P.underlying t with
    |none=>rw[hu]at ha;cases ha
    |some td=>exact⟨td,rfl⟩
   ·simp only[valOf,ha,if_true]
    exact .agg ds _ (by simpa using hr)
  ·rename_i ha
   split at h
   ·rename_i td d' hu
    cases h
    cases hr with
    |cons _ v _ vs h1 h2 h3=>
     cases h3
     refine⟨⟨_,hu⟩,hc,?_,fun _=>rfl⟩
     simp only[valOf,ha];exact h2
   ·cases h
theorem nJ{t:TypeId}{td:TypeDesc}{ad:Addr}{vs:List Value}(hu:P.underlying t=some td)(hc:P.cellsOf t≠0)(hl:vs.length=P.cellsOf t)(h1:fl P t=false→vs.length=1)(h:cellsIn w ad vs):
  (loadVar t ad).run P w= .ok (valOf P t vs) w:=by
 unfold loadVar
 rw[Sem.run_bind,tB hu]
 simp only[Result.andThen_ok]
 cases ha:fl P t with
 |true=>
  have hlc:=run_loadCells_list (P:=P) (w:=w) ad vs h
  rw[hl]at hlc
  simp only[if_true,Sem.run_bind,eW hc,Result.andThen_ok,hlc,Sem.run_pure,valOf,ha]
 |false=>
  match vs,h1 ha with
  | [v],_=>
   have:=h 0 v rfl
   simp only[Addr.add,if_true]at this
   simp[Go.load,Sem.run,this,valOf,ha]
theorem jQ{α:Type}(l:List α)(off n i:Nat)(v:α)(h:((l.drop off).take n)[i]? =some v):l[off+i]? =some v:=by
 rw[List.getElem?_take]at h
 split at h
 ·simpa using h
 ·cases h
theorem nU:∀{cs:List CV} {j:Nat} {c:CV},eQ cs=false→cs[j]? =some c→c.isRow=false
 | [],j,c,_,hc=>by simp at hc
 |c0::cs,j,c,hn,hc=>by
  simp only[eQ,Bool.or_eq_false_iff]at hn
  cases j with
  |zero=>simp at hc;subst hc;exact hn.1
  |succ j=>exact nU hn.2 (by simpa using hc)
theorem qn:∀{cs:List CV} {ds:List au} {j:Nat},je cs=some ds→cs[j]? ≠some .dead
 | [],ds,j,_=>by simp
 |c0::cs,ds,j,hd=>by
  simp only[je,ae]at hd
  obtain⟨d0,hd0,ds',hd',_⟩:=hd
  cases j with
  |zero=>intro e;simp at e;subst e;cases hd0
  |succ j=>simpa using qn (j:=j) hd'
theorem mK(K:Nat):∀{xs:List au} {i:Nat} {e:au},(∀x∈xs,x.cells.length=K)→xs[i]? =some e→((bx xs).drop (i*K)).take K=e.cells
 | [],i,e,_,h=>by simp at h
 |x::xs,0,e,hk,h=>by
  simp at h;subst h
  have h1:=hk x (by simp)
  simp only[bx,List.flatMap_cons,Nat.zero_mul,List.drop_zero]
  rw[← h1,List.take_left']
  rfl
 |x::xs,i+1,e,hk,h=>by
  have h1:=hk x (by simp)
  have h2:=mK K (xs:=xs) (i:=i) (e:=e) (fun y hy=>hk y (by simp[hy])) (by simpa using h)
  simp only[bx,List.flatMap_cons]at h2 ⊢
  rw[Nat.add_mul,Nat.one_mul,Nat.add_comm,← List.drop_drop,List.drop_left' h1]
  exact h2
theorem Rel.elem(h:Rel w G s a){r:fb}{k:Nat}{xs:List au}{i:Nat}{e:au}(hr:s.rowAt r=some (k,xs))(he:xs[i]? =some e):
  ∃b n cap arr,dn w G a r (.slice (some ⟨b,0,none⟩) n cap)∧G.g b=eC r∧w.heap[b]? =some (.cells arr k (0,0))∧e.cells.length=G.P.cellsOf k∧arr.size=cap*G.P.cellsOf k∧xs.length≤cap∧n=xs.length∧
   cn w G e.cells ((arr.toList.drop (i*G.P.cellsOf k)).take (G.P.cellsOf k))∧cellsIn w ⟨b,i*G.P.cellsOf k,none⟩ ((arr.toList.drop (i*G.P.cellsOf k)).take (G.P.cellsOf k)):=by
 obtain⟨v,hv,hrow⟩:=h.row hr
 rcases hrow with⟨rfl,_⟩|⟨b,cap,arr,rfl,h2,h3,h4,h5,h6,h7,h8⟩
 ·simp at he
 ·have hlt:i < xs.length:=(List.getElem?_eq_some_iff.1 he).1
  refine⟨b,_,cap,arr,hv,h2,h3,h7 e (List.mem_of_getElem? he),h4,h5,rfl,?_,?_⟩
  ·have:=(h8.drop (i*G.P.cellsOf k)).take (G.P.cellsOf k)
   rw[mK _ h7 he]at this
   rw[List.drop_take,List.take_take]at this
   have hle:G.P.cellsOf k≤xs.length*G.P.cellsOf k - i*G.P.cellsOf k:=by
    rw[← Nat.sub_mul]
    exact Nat.le_mul_of_pos_left _ (by omega)
   rwa[Nat.min_eq_left hle]at this
  ·intro j u hu
   have hu':=jQ _ _ _ _ _ hu
   rw[add_lit]
   simp only[World.cell?,h3]
   simpa using hu'
def aaj(P:Program)(o:Oper)(w:World)(G:Gh)(s:St)(a:Act)(sv:SV)(es:List Eff):Prop:=
 es=[]∧∃x,(execOp a.eval o).run P w= .ok (.value x) w∧ez w G s a .ret sv x
theorem aaj.still(h:Rel w G s a){x:Value}(hr:(execOp a.eval o).run P w= .ok (.value x) w)(hv:ez w G s a .ret sv x):aaj P o w G s a sv []:=⟨rfl,x,hr,hv⟩
theorem anv{d:au}{x:Value}(h:Rel w G s a)(ho:ret d=some (sv,es))(hr:(execOp a.eval o).run P w= .ok (.value x) w)(hd:cU w G d x):aaj P o w G s a sv es:=by
 simp only[Val.ret,sJ,pJ]at ho
 obtain⟨rfl,rfl⟩:=ho
 exact .still h hr hd
theorem wg{t:TypeId}{x:Operand}(h:Rel w G s a)(hP:G.P=P)(hop:o.op= .load t x)(ho:loadOp P s t x=some (sv,es)):aaj P o w G s a sv es:=by
 have hx:=h.opv x
 have fin:∀(ad:Addr) (ds:List au) (d:au) (vs:List Value),a.eval x= .pointer (some ad)→gu P t ds=some d→cn w G ds vs→ds.length=P.cellsOf t→cellsIn w ad vs→ret d=some (sv,es)→aaj P o w G s a sv es:=fun ad ds d vs hv hd hr hl hc ho=>by
  obtain⟨⟨td,hu⟩,h1,h2,h3⟩:=mI hd hr
  refine anv h ho (x:=valOf P t vs) ?_ h2
  have:=nJ (P:=P) (w:=w) hu h1 (by rw[hr.length];exact hl) h3 hc
  simp only[execOp,hop,Instr.loadAt,hv,Instr.sureAddr,Sem.run_bind,Sem.run_pure,Result.andThen_ok,this]
 unfold loadOp at ho
 split at ho
 ·cases ho
 rename_i hz
 have hz0:P.cellsOf t≠0:=fun e=>hz (.inl e)
 obtain⟨td,htd⟩:∃td,P.underlying t=some td:=by
  cases hq:P.underlying t with
  |none=>exact absurd (.inr (by rw[hq];rfl)) hz
  |some td=>exact⟨td,rfl⟩
 split at ho
 ·rename_i l off he
  rw[he]at hx
  have hx':cU w G (.ptr (some (l,off))) (a.eval x):=hx
  generalize hu:a.eval x=u at hx'
  cases hx' with
  |ptr _ _ hl=>
  split at ho
  ·rename_i cs hcs
   obtain⟨hln,hg,arr,e,fr,hw,hfr,hsz,hbox⟩:=h.heap.obj l _ hcs
   have hcell:∀i v,arr.toList[off+i]? =some v→w.cell? ((⟨G.ι l,off,none⟩:Addr).add i)=some v:=fun i v hv=>by
    rw[add_lit];simp only[World.cell?,hw];simpa using hv
   unfold ajV at ho
   split at ho
   ·rename_i hag
    split at ho
    ·cases ho
    ·rename_i hlen
     simp only[ae]at ho
     obtain⟨ds,hds,ho⟩:=ho
     split at ho
     ·cases ho
     ·rename_i hrow
      simp only[sJ,pJ]at ho
      obtain⟨rfl,rfl⟩:=ho
      have hlen':((arr.toList.drop off).take (P.cellsOf t)).length=((cs.drop off).take (P.cellsOf t)).length:=by simp;rw[← hsz];simp
      have hrel:=so (w:=w) (G:=G) (t:=.other) hds hlen' (fun j c u hc hu=>by
       have h1:=jQ _ _ _ _ _ hc
       have h2:=jQ _ _ _ _ _ hu
       have h3:=hbox _ _ _ h1 h2
       have hnr:=nU (by simpa using hrow) hc
       cases c with
       |val d=>exact⟨rfl,h3.1,h3.2⟩
       |nil=>exact⟨rfl,h3.1,h3.2⟩
       |row k xs=>cases hnr
       |dead=>exact absurd hc (qn hds))
      have hdsl:((arr.toList.drop off).take (P.cellsOf t)).length=P.cellsOf t:=by
       rw[hlen',List.length_take]
       simp only[Nat.not_lt]at hlen
       omega
      have:=nJ (P:=P) (w:=w) (ad:=⟨G.ι l,off,none⟩) (vs:=(arr.toList.drop off).take (P.cellsOf t)) htd hz0 hdsl (fun e=>by rw[hag]at e;cases e) (fun i v hv=>hcell i v (jQ _ _ _ _ _ hv))
      refine .still h (x:=valOf P t ((arr.toList.drop off).take (P.cellsOf t))) ?_ ?_
      ·simp only[execOp,hop,Instr.loadAt,hu,Instr.sureAddr,Sem.run_bind,Sem.run_pure,Result.andThen_ok,this]
      ·simp only[valOf,hag,if_true]
       exact cU.agg ds _ (by simpa using hrel)
   ·rename_i hag
    split at ho
    ·cases ho
    ·rename_i h1
     have h1:P.cellsOf t=1:=by simpa using h1
     have hone:∀v,arr.toList[off]? =some v→(execOp a.eval o).run P w= .ok (.value v) w:=fun v hv=>by
      have:=nJ (P:=P) (w:=w) (ad:=⟨G.ι l,off,none⟩) (vs:=[v]) htd hz0 (by simp[h1]) (fun _=>rfl) (fun i u hi=>by
       cases i with
       |zero=>simp at hi;subst hi;exact hcell 0 _ (by simpa using hv)
       |succ i=>simp at hi)
      simp only[execOp,hop,Instr.loadAt,hu,Instr.sureAddr,Sem.run_bind,Sem.run_pure,Result.andThen_ok,this]
      simp[valOf,hag]
     have hget:∀c,cs[off]? =some c→∃v,arr.toList[off]? =some v∧dK w G (.cell l off) c v:=fun c hc=>by
      have hlt:off < cs.length:=(List.getElem?_eq_some_iff.1 hc).1
      have hv:arr.toList[off]? =some (arr.toList[off]'(by omega)):=gE _
      exact⟨_,hv,(hbox _ _ _ hc hv).1⟩
     split at ho
     ·rename_i d hc
      simp only[sJ,pJ]at ho
      obtain⟨rfl,rfl⟩:=ho
      obtain⟨v,hv,hr⟩:=hget _ hc
      exact .still h (hone v hv) hr
     ·rename_i hc
      simp only[sJ,pJ]at ho
      obtain⟨rfl,rfl⟩:=ho
      obtain⟨v,hv,hr⟩:=hget _ hc
      exact .still h (hone v hv) hr
     ·rename_i k xs hc
      simp only[sJ,pJ]at ho
      obtain⟨rfl,rfl⟩:=ho
      obtain⟨v,hv,hr⟩:=hget _ hc
      refine .still h (hone v hv) ⟨⟨(k,xs),?_⟩,?_⟩
      ·simp only[St.rowAt,bn.cell,hcs,gD,hc,gS]
      ·have:=hcell 0 v (by simpa using hv)
       show w.cell? ⟨G.ι l,off,none⟩=some v
       simpa[add_lit]using this
     ·cases ho
  ·cases ho
 ·rename_i cs he
  rw[he]at hx
  obtain⟨ad,vs,h1,h2,h3,h4,h5,h6⟩:=hx
  split at ho
  ·cases ho
  ·rename_i hlen
   simp only[ae]at ho
   obtain⟨d,hd,ho⟩:=ho
   exact fin ad _ d _ h1 hd (h5.take _) (by rw[List.length_take];omega) (h6.take _) ho
 ·rename_i r i off he
  rw[he]at hx
  simp only[ae]at ho
  obtain⟨p,hp,e,hei,ho⟩:=ho
  split at ho
  ·cases ho
  ·rename_i hlen
   simp only[ae]at ho
   obtain⟨d,hd,ho⟩:=ho
   obtain⟨k,xs,b,m,cap,g1,g2,g3,g4⟩:=hx
   rw[hp]at g1
   cases g1
   obtain⟨b',n',cap',arr,f1,f2,f3,f4,_,_,_,f5,f6⟩:=h.elem hp hei
   cases cJ g3 f1
   refine fin _ _ d _ g4 hd ((f5.drop off).take (P.cellsOf t)) (by rw[List.length_take];omega) ?_ ho
   have:=(f6.drop off rfl).take (P.cellsOf t)
   rwa[add_lit]at this
 ·cases ho
theorem asZ{t:TypeId}{x:Operand}(h:Rel w G s a)(hP:G.P=P)(hop:o.op= .load t x)(ho:loadOp P s t x=some (sv,es)):jP P o w G s a sv es:=by
 obtain⟨rfl,y,h1,h2⟩:=wg h hP hop ho
 exact .still h h1 h2
variable{P:Program}{o:Oper}{w:World}{G:Gh}{s:St}{a:Act}{sv:SV}{es:List Eff}
theorem aae{t:TypeId}{td:TypeDesc}{cs:Array Value}{off:Nat}(hu:P.underlying t=some td)(hc:P.cellsOf t≠0)(h1:fl P t=false→((cs.toList.drop off).take (P.cellsOf t)).length=1):
  (part t cs off).run P w= .ok (valOf P t ((cs.toList.drop off).take (P.cellsOf t))) w:=by
 unfold part
 rw[Sem.run_bind,tB hu]
 simp only[Result.andThen_ok]
 cases ha:fl P t with
 |true=>
  simp only[if_true,Sem.run_bind,eW hc,Result.andThen_ok,Sem.run_pure,valOf,ha]
  congr 2
  apply Array.ext'
  simp only[Array.toList_extract]
  rw[List.extract_eq_take_drop];simp
 |false=>
  have hl:=h1 ha
  cases hv:cs[off]? with
  |none=>
   have:cs.toList.drop off=[]:=by
    apply List.drop_eq_nil_of_le
    have:=Array.getElem?_eq_none_iff.1 hv
    simpa using this
   rw[this]at hl;simp at hl
  |some v=>
   have hv':cs.toList[off]? =some v:=by simpa using hv
   have hd:cs.toList.drop off=v::cs.toList.drop (off+1):=by
    have hlt:=(List.getElem?_eq_some_iff.1 hv').1
    rw[List.drop_eq_getElem_cons hlt]
    congr 1
    exact(List.getElem?_eq_some_iff.1 hv').2
   have hn:∃n,P.cellsOf t=n+1:=⟨P.cellsOf t - 1,by omega⟩
   obtain⟨n,hn⟩:=hn
   simp[valOf,ha,hd,hn]
theorem apy{t:TypeId}{x:Operand}{f:Nat}(h:Rel w G s a)(hop:o.op= .field t x f)(ho:fieldOp P s t x f=some (sv,es)):jP P o w G s a sv es:=by
 unfold fieldOp at ho
 split at ho
 ·rename_i fs ht
  simp only[ae]at ho
  obtain⟨fd,hf,d,hd,ho⟩:=ho
  have hv:=h.optVal hd
  split at ho
  ·rename_i cs
   split at ho
   ·rename_i hlen
    simp only[ae]at ho
    obtain⟨d,hd',ho⟩:=ho
    generalize hu:a.eval x=u at hv
    cases hv with
    |agg _ vs hr=>
     have hr':=(hr.drop fd.offset).take (P.cellsOf fd.type)
     obtain⟨⟨td,htd⟩,h1,h2,h3⟩:=mI hd' hr'
     refine jd h ho (x:=valOf P fd.type ((vs.toList.drop fd.offset).take (P.cellsOf fd.type))) ?_ h2
     have:=aae (P:=P) (w:=w) (cs:=vs) (off:=fd.offset) htd h1 h3
     simp only[execOp,hop,Instr.field,Sem.run_bind,run_underlying ht,Result.andThen_ok,hf,hu,asAgg,Sem.run_pure,this]
   ·cases ho
  ·cases ho
 ·cases ho
theorem kl{k:IntKind}{n:Int}:(asIntOf (.int k n)).run P w= .ok (k,n) w:=rfl
theorem aaA{t:TypeId}{x ix:Operand}(h:Rel w G s a)(hP:G.P=P)(hop:o.op= .indexAddr t x ix)(ho:indexAddrOp P s t x ix=some (sv,es)):jP P o w G s a sv es:=by
 unfold indexAddrOp at ho
 simp only[ae]at ho
 obtain⟨⟨k,i⟩,hi,ho⟩:=ho
 have hiv:=h.asInt hi
 have hx:=h.opv x
 simp only at ho
 split at ho
 ·cases ho
 rename_i hneg
 have hnn:0≤i:=by omega
 have hlt:∀n:Nat,i.toNat < n→i < (n:Int):=fun n hn=>by omega
 split at ho
 ·rename_i e ht
  split at ho
  ·cases ho
  rename_i hc0
  have runs:∀ad (n cap:Nat),a.eval x= .slice (some ad) n cap→i.toNat < n→(execOp a.eval o).run P w= .ok (.value (.pointer (some (ad.add (i.toNat*P.cellsOf e))))) w:=fun ad n cap hu hn=>by
   simp[execOp,hop,Instr.indexAt,Sem.run_bind,hiv,kl,run_underlying ht,hu,hnn,hlt _ hn,eW hc0]
  have row:∀r k xs u,s.rowAt r=some (k,xs)→dn w G a r u→a.eval x=u→i.toNat < xs.length→k=e→jP P o w G s a (.elt r i.toNat 0) []:=fun r k xs u hr hu he hl hk=>by
   subst hk
   obtain⟨v,hv,hrow⟩:=h.row hr
   cases cJ hu hv
   rcases hrow with⟨rfl,_⟩|⟨b,cap,arr,rfl,h2,h3,h4,h5,h6,h7,h8⟩
   ·simp at hl
   ·refine .still h (runs _ _ _ he hl) ⟨k,xs,b,xs.length,cap,hr,hl,hv,?_⟩
    rw[add_lit,Nat.zero_add,Nat.add_zero,hP]
  split at ho
  ·rename_i xs he
   rw[he]at hx
   simp only[ae]at ho
   obtain⟨d,hd,ho⟩:=ho
   split at ho
   ·rename_i hk
    simp only[sJ,pJ]at ho
    obtain⟨rfl,rfl⟩:=ho
    have hx':cU w G (.sl xs) (a.eval x):=hx
    generalize hu:a.eval x=u at hx'
    cases hx' with
    |nilsl A cap=>simp at hd
    |sl xs ad cap kk vs g1 g2 g3 g4 g5 g6 g7 g8=>
     have hlen:i.toNat < xs.length:=(List.getElem?_eq_some_iff.1 hd).1
     have hkk:kk=P.cellsOf e:=by rw[← hk];exact(g6 d (List.mem_of_getElem? hd)).symm
     subst hkk
     refine .still h (runs _ _ _ hu hlen) ?_
     refine⟨ad.add (i.toNat*P.cellsOf e),(vs.drop (i.toNat*P.cellsOf e)).take (P.cellsOf e),rfl,wB _ _ g5,by rw[gW];exact g3,by rw[gW];exact g4,?_,(g8.drop _ g5).take _⟩
     have:=(g7.drop (i.toNat*P.cellsOf e)).take (P.cellsOf e)
     rwa[mK _ g6 hd]at this
   ·cases ho
  ·rename_i k' xs he
   split at ho
   ·rename_i hk
    simp only[sJ,pJ]at ho
    obtain⟨rfl,rfl⟩:=ho
    obtain⟨t',rfl⟩:=il he (fun v=>jB v _ _) (fun f e=>by cases e) (fun e=>by cases e)
    exact row _ _ _ _ (Rel.rowAt_slot (s:=s) (t:=t') he) rfl rfl hk.1 hk.2
   ·cases ho
  ·rename_i r he
   rw[he]at hx
   simp only[ae]at ho
   obtain⟨p,hp,ho⟩:=ho
   split at ho
   ·rename_i hk
    simp only[sJ,pJ]at ho
    obtain⟨rfl,rfl⟩:=ho
    exact row r p.1 p.2 _ hp hx.2 rfl hk.1 hk.2
   ·cases ho
  ·cases ho
 ·rename_i n e ht
  split at ho
  ·cases ho
  rename_i hc
  have hc0:P.cellsOf e≠0:=fun h=>hc (.inl h)
  have hin:i.toNat < n:=by
   by_cases hh:i.toNat < n
   ·exact hh
   ·exact absurd (.inr hh) hc
  have key:∀sv0,s.opv x=sv0→((∃p,sv0= .cv (.val (.ptr (some p))))∨(∃cs,sv0= .imm cs)∨(∃r i off,sv0= .elt r i off))→sv=sv0.on (i.toNat*P.cellsOf e)→es=[]→jP P o w G s a sv es:=fun sv0 h0 h1 h2 h3=>by
   rw[h0]at hx
   obtain⟨ad,hv,hsp,hr⟩:=apS (i.toNat*P.cellsOf e) hx h1
   subst h2;subst h3
   refine .still h (x:=.pointer (some (ad.add (i.toNat*P.cellsOf e)))) ?_ hr
   simp[execOp,hop,Instr.indexAt,Sem.run_bind,hiv,kl,run_underlying ht,hv,Instr.sureAddr,hnn,hlt _ hin,eW hc0]
  split at ho
  ·rename_i l off he
   simp only[sJ,pJ]at ho
   exact key _ he (.inl ⟨_,rfl⟩) ho.1.symm ho.2.symm
  ·rename_i cs he
   simp only[sJ,pJ]at ho
   exact key _ he (.inr (.inl ⟨_,rfl⟩)) ho.1.symm ho.2.symm
  ·rename_i r j off he
   simp only[sJ,pJ]at ho
   exact key _ he (.inr (.inr ⟨_,_,_,rfl⟩)) ho.1.symm ho.2.symm
  ·cases ho
 ·cases ho
theorem anM{t:TypeId}{x ix:Operand}(h:Rel w G s a)(hop:o.op= .index t x ix)(ho:indexOp P s t x ix=some (sv,es)):jP P o w G s a sv es:=by
 unfold indexOp at ho
 simp only[ae]at ho
 obtain⟨⟨k,i⟩,hi,ho⟩:=ho
 have hiv:=h.asInt hi
 simp only at ho
 split at ho
 ·cases ho
 rename_i hneg
 have hnn:0≤i:=by omega
 simp only[ae]at ho
 obtain⟨d,hd,ho⟩:=ho
 have hv:=h.optVal hd
 split at ho
 ·rename_i b ht
  simp only[ae]at ho
  obtain⟨c,hc,ho⟩:=ho
  generalize hu:a.eval x=u at hv
  cases hv
  refine jd h ho (x:=.int .u8 c.toNat) ?_ (.int _ _)
  have hlt:i.toNat < b.size:=by
   have:=(List.getElem?_eq_some_iff.1 hc).1
   simpa using this
  have hg:b[i.toNat]? =some c:=by
   rw[getElem?_pos b i.toNat hlt]
   have h2:b.data[i.toNat]'hlt=c:=by simpa using(List.getElem?_eq_some_iff.1 hc).2
   exact congrArg some h2
  simp[execOp,hop,Instr.index,Sem.run_bind,hiv,kl,run_underlying ht,hu,hnn,hg]
 ·rename_i n e cs ht
  split at ho
  ·rename_i hlen
   simp only[ae]at ho
   obtain⟨d,hd',ho⟩:=ho
   generalize hu:a.eval x=u at hv
   cases hv with
   |agg _ vs hr=>
    have hr':=(hr.drop (i.toNat*P.cellsOf e)).take (P.cellsOf e)
    obtain⟨⟨td,htd⟩,h1,h2,h3⟩:=mI hd' hr'
    refine jd h ho (x:=valOf P e ((vs.toList.drop (i.toNat*P.cellsOf e)).take (P.cellsOf e))) ?_ h2
    have:=aae (P:=P) (w:=w) (cs:=vs) (off:=i.toNat*P.cellsOf e) htd h1 h3
    have hlt:i < (n:Int):=by omega
    simp only[execOp,hop,Instr.index,Sem.run_bind,run_underlying ht,Result.andThen_ok,hu,hiv,kl,hnn,hlt,and_self,if_true,eW h1,this,Sem.run_pure]
  ·cases ho
 ·cases ho
theorem Reads.len{xs:List au}{v:Value}(h:Reads w G xs v):∃A cap,v= .slice A xs.length cap:=by
 obtain⟨A,cap,h1,_⟩:=h;exact⟨A,cap,h1⟩
theorem Reads.len'{xs:List au}{v:Value}(h:Reads w G xs v):∃A cap,v= .slice A xs.length cap:=h.len
theorem avM{t:TypeId}{x:Operand}(h:Rel w G s a)(hop:o.op= .call ⟨.builtin .len,#[x],#[t]⟩)(ho:lenOp P s t x=some (sv,es)):jP P o w G s a sv es:=by
 unfold lenOp at ho
 split at ho
 ·rename_i ht
  simp only[ae]at ho
  obtain⟨d,hd,ho⟩:=ho
  have hv:=h.optVal hd
  split at ho
  ·rename_i b
   generalize hu:a.eval x=u at hv
   cases hv
   exact jd h ho (x:=.int .i64 b.size) (by simp[execOp,hop,resolve,invoke,builtin,Builtin.len_,Sem.run_bind,run_underlying ht,hu,goInt]) (.int _ _)
  ·cases ho
 ·rename_i e ht
  simp only[ae]at ho
  obtain⟨xs,hl,ho⟩:=ho
  obtain⟨A,cap,hu⟩:=(h.list hl).len
  exact jd h ho (x:=.int .i64 xs.length) (by simp[execOp,hop,resolve,invoke,builtin,Builtin.len_,Sem.run_bind,run_underlying ht,hu,goInt]) (.int _ _)
 ·rename_i kt e ht
  simp only[ae]at ho
  obtain⟨d,hd,ho⟩:=ho
  have hv:=h.optVal hd
  split at ho
  ·generalize hu:a.eval x=u at hv
   cases hv
   exact jd h ho (x:=.int .i64 0) (by simp[execOp,hop,resolve,invoke,builtin,Builtin.len_,Sem.run_bind,run_underlying ht,hu,goInt]) (.int _ _)
  ·rename_i l
   generalize hu:a.eval x=u at hv
   cases hv with
   |map _ hl=>
   split at ho
   ·rename_i kt' es' hes
    obtain⟨_,_,_,ents,clock,hw,⟨hsz,_⟩,_⟩:=h.heap.obj l _ hes
    refine jd h ho (x:=.int .i64 es'.length) ?_ (.int _ _)
    simp[execOp,hop,resolve,invoke,builtin,Builtin.len_,Sem.run_bind,run_underlying ht,hu,goInt,getObj,Sem.run,hw,hsz]
   ·cases ho
  ·cases ho
 ·cases ho
variable{P:Program}{o:Oper}{w:World}{G:Gh}{s:St}{a:Act}{sv:SV}{es:List Eff}
theorem pW(K:Nat):∀{xs:List au} (n:Nat),(∀x∈xs,x.cells.length=K)→bx (xs.take n)=(bx xs).take (n*K)
 | [],n,_=>by simp[bx]
 |x::xs,0,_=>by simp[bx]
 |x::xs,n+1,hk=>by
  have h1:=hk x (by simp)
  have h2:=pW K (xs:=xs) n (fun y hy=>hk y (by simp[hy]))
  simp only[bx,List.take_succ_cons,List.flatMap_cons]at h2 ⊢
  rw[h2,List.take_append,h1]
  have:(n+1)*K - K=n*K:=by rw[Nat.add_mul,Nat.one_mul];omega
  rw[this]
  congr 1
  rw[List.take_of_length_le]
  rw[h1,Nat.add_mul];omega
theorem oD(K:Nat):∀{xs:List au} (n:Nat),(∀x∈xs,x.cells.length=K)→bx (xs.drop n)=(bx xs).drop (n*K)
 | [],n,_=>by simp[bx]
 |x::xs,0,_=>by simp
 |x::xs,n+1,hk=>by
  have h1:=hk x (by simp)
  have h2:=oD K (xs:=xs) n (fun y hy=>hk y (by simp[hy]))
  simp only[bx,List.drop_succ_cons,List.flatMap_cons]at h2 ⊢
  rw[h2,Nat.add_mul,Nat.one_mul,Nat.add_comm,← List.drop_drop,List.drop_left' h1]
theorem fQ{x:Operand}{k:IntKind}{i:Int}{y:Nat}{code:Go.BoundsCode}(h:Rel w G s a)(hi:s.asInt x=some (k,i))(h0:0≤i)(h1:i≤(y:Int)):(Instr.sliceBound (a.eval x) y code).run P w= .ok i.toNat w:=by
 simp[Instr.sliceBound,h.asInt hi,kl,Sem.run_bind,h0,h1]
theorem tj{K:Nat}{xs:List au}:jk K xs=true↔∀x∈xs,x.cells.length=K:=by
 simp[jk,List.all_eq_true]
theorem aeY{len d n:Nat}{x:Option Operand}(hb:boundOf s len d x=some n)(hd:d≤len):n≤len:=by
 cases x with
 |none=>simp only[boundOf,sJ]at hb;omega
 |some x=>
  simp only[boundOf,ae]at hb
  obtain⟨⟨k,i⟩,hi,hb⟩:=hb
  split at hb
  ·rename_i hc;simp only[sJ]at hb;omega
  ·cases hb
theorem vQ{isSlice:Bool}{len cap hh l:Nat}{lo hi:Option Operand}(h:Rel w G s a)(hlc:len≤cap)(h1:boundOf s len len hi=some hh)(h2:boundOf s hh 0 lo=some l):
  (Instr.sliceBounds isSlice len cap (lo.map a.eval) (hi.map a.eval) none).run P w= .ok (l,hh,cap) w:=by
 cases hi with
 |none=>
  simp only[boundOf,sJ]at h1;subst h1
  cases lo with
  |none=>simp only[boundOf,sJ]at h2;subst h2;simp[Instr.sliceBounds,Sem.run_bind]
  |some x=>
   simp only[boundOf,ae]at h2
   obtain⟨⟨k,i⟩,hi,h2⟩:=h2
   split at h2
   ·rename_i hc
    simp only[sJ]at h2;subst h2
    have:=fun code=>fQ (P:=P) (code:=code) h hi hc.1 hc.2
    simp[Instr.sliceBounds,Sem.run_bind,this]
   ·cases h2
 |some y=>
  simp only[boundOf,ae]at h1
  obtain⟨⟨k,i⟩,hi,h1⟩:=h1
  split at h1
  ·rename_i hc
   simp only[sJ]at h1;subst h1
   have hy:=fun code=>fQ (P:=P) (code:=code) (y:=cap) h hi hc.1 (by omega)
   cases lo with
   |none=>simp only[boundOf,sJ]at h2;subst h2;simp[Instr.sliceBounds,Sem.run_bind,hy]
   |some x=>
    simp only[boundOf,ae]at h2
    obtain⟨⟨k',j⟩,hj,h2⟩:=h2
    split at h2
    ·rename_i hc'
     simp only[sJ]at h2;subst h2
     have hx:=fun code=>fQ (P:=P) (code:=code) h hj hc'.1 hc'.2
     simp[Instr.sliceBounds,Sem.run_bind,hy,hx]
    ·cases h2
  ·cases h1
theorem ok_slice{t:TypeId}{x:Operand}{lo hi mx:Option Operand}(h:Rel w G s a)(hop:o.op= .slice t x lo hi mx)(ho:sliceOp P s t x lo hi mx=some (sv,es)):jP P o w G s a sv es:=by
 unfold sliceOp at ho
 split at ho
 ·rename_i ht
  simp only[ae]at ho
  obtain⟨d,hd,ho⟩:=ho
  have hv:=h.optVal hd
  split at ho
  ·rename_i b
   simp only[ae]at ho
   obtain⟨hh,h1,l,h2,ho⟩:=ho
   generalize hu:a.eval x=u at hv
   cases hv
   refine jd h ho (x:=.string (b.extract l hh)) ?_ (.str _)
   have hb:=vQ (P:=P) (isSlice:=false) h (nR b.size) h1 h2
   simp[execOp,hop,Instr.sliceAt,Instr.slice,Sem.run_bind,run_underlying ht,hu,hb]
  ·cases ho
 ·rename_i e ht
  simp only[ae]at ho
  obtain⟨⟨d,es'⟩,hd,ho⟩:=ho
  obtain⟨G',hw,hv⟩:=h.asVal hd
  simp only at ho
  split at ho
  ·rename_i xs
   simp only[ae]at ho
   obtain⟨hh,h1,l,h2,ho⟩:=ho
   split at ho
   ·cases ho
   rename_i hcs
   have hc0:P.cellsOf e≠0:=fun h=>hcs (.inl h)
   have hsz:∀x∈xs,x.cells.length=P.cellsOf e:=tj.1 (by simpa using fun h=>hcs (.inr h))
   simp only[sJ,pJ]at ho
   obtain⟨rfl,rfl⟩:=ho
   have hle:=aeY h1 (nR _)
   have hle2:=aeY h2 (Nat.zero_le _)
   generalize hu:a.eval x=u at hv
   have hrun:∀A n cap,u= .slice A n cap→n=xs.length→n≤cap→(execOp a.eval o).run P w= .ok (.value (.slice (if cap=l then A else A.map (·.add (l*P.cellsOf e))) (hh - l) (cap - l))) w:=fun A n cap hA hn hcap=>by
    subst hn
    have hb:=vQ (P:=P) (isSlice:=true) h hcap h1 h2
    simp only[execOp,hop,Instr.sliceAt,Instr.slice,Sem.run_bind,run_underlying ht,Result.andThen_ok,hu,hA,Option.map_none,hb,Sem.run_pure,eW hc0]
   cases hv with
   |nilsl A cap=>
    have hh0:hh=0:=by simpa using hle
    have hl0:l=0:=by omega
    subst hh0;subst hl0
    refine .went hw (hrun A 0 cap rfl rfl (Nat.zero_le _)) ?_
    simp only[List.take_nil,List.drop_nil]
    exact cU.nilsl _ _
   |sl xs ad cap kk vs g1 g2 g3 g4 g5 g6 g7 g8=>
    refine .went hw (hrun (some ad) _ cap rfl rfl g2) ?_
    show cU w G' (.sl ((xs.take hh).drop l)) _
    have hlen:((xs.take hh).drop l).length=hh - l:=by simp;omega
    by_cases hemp:hh=l
    ·have:(xs.take hh).drop l=[]:=List.eq_nil_of_length_eq_zero (by rw[hlen];omega)
     rw[this,hemp,Nat.sub_self]
     exact .nilsl _ _
    ·have hcl:cap≠l:=by omega
     rw[if_neg hcl,Option.map_some,← hlen]
     have hsz':∀x∈(xs.take hh).drop l,x.cells.length=P.cellsOf e:=fun x hx=>hsz x (List.mem_of_mem_take (List.mem_of_mem_drop hx))
     refine .sl _ (ad.add (l*P.cellsOf e)) (cap - l) (P.cellsOf e) ((vs.take (hh*P.cellsOf e)).drop (l*P.cellsOf e)) (fun hn=>by rw[hn]at hlen;simp at hlen;omega) (by omega) (by rw[gW];exact g3) (by rw[gW];exact g4) (wB _ _ g5) hsz' ?_ ((g8.take _).drop _ g5)
     rw[oD (P.cellsOf e) l (fun x hx=>hsz x (List.mem_of_mem_take hx)),pW (P.cellsOf e) hh hsz]
     exact(g7.take _).drop _
  ·cases ho
 ·rename_i e m ht
  simp only[ae]at ho
  obtain⟨xs,hl,⟨k,m'⟩,hm,hh,h1,l,h2,ho⟩:=ho
  split at ho
  ·rename_i hz
   obtain⟨hm0,hh0,hl0,his,hc0⟩:=hz
   simp only at hm0
   subst hm0;subst hh0;subst hl0
   simp only[sJ,pJ]at ho
   obtain⟨rfl,rfl⟩:=ho
   obtain⟨A,cap,hu⟩:=(h.list hl).len
   have hmx:=fun code=>fQ (P:=P) (code:=code) (y:=cap) h hm (Int.le_refl _) (by omega)
   refine .still h (x:=.slice A 0 0) ?_ ⟨A,rfl⟩
   have hb:(Instr.sliceBounds true xs.length cap (lo.map a.eval) (hi.map a.eval) (some (a.eval m))).run P w= .ok (0,0,0) w:=by
    cases hi with
    |none=>simp at his
    |some y=>
     simp only[boundOf,ae]at h1
     obtain⟨⟨k1,i1⟩,hi1,h1⟩:=h1
     split at h1
     ·rename_i hc
      have hi0:i1=0:=by have:=hc.1;have:=hc.2;simp at this;omega
      subst hi0
      have hy:=fun code=>fQ (P:=P) (code:=code) (y:=0) h hi1 (Int.le_refl _) (by simp)
      cases lo with
      |none=>simp[Instr.sliceBounds,Sem.run_bind,hmx,hy]
      |some x=>
       simp only[boundOf,ae]at h2
       obtain⟨⟨k2,i2⟩,hi2,h2⟩:=h2
       split at h2
       ·rename_i hc'
        have hi0:i2=0:=by have:=hc'.1;have:=hc'.2;simp at this;omega
        subst hi0
        have hx:=fun code=>fQ (P:=P) (code:=code) (y:=0) h hi2 (Int.le_refl _) (by simp)
        simp[Instr.sliceBounds,Sem.run_bind,hmx,hy,hx]
       ·cases h2
     ·cases h1
   simp only[execOp,hop,Instr.sliceAt,Instr.slice,Sem.run_bind,run_underlying ht,Result.andThen_ok,hu,Option.map_some,hb,Sem.run_pure,eW hc0]
   simp
  ·cases ho
 ·cases ho
theorem pf(h:Rel w G s a):∀{xs:List Operand} {ds:List au},optVals s xs=some ds→ds.all au.one=true→cn w G ds (xs.map a.eval)
 | [],ds,hd,_=>by simp only[optVals,sJ]at hd;subst hd;exact .nil
 |x::xs,ds,hd,h1=>by
  simp only[optVals,ae,sJ]at hd
  obtain⟨d,hx,ds',hxs,rfl⟩:=hd
  simp only[List.all_cons,bA]at h1
  exact .cons _ _ _ _ h1.1 (h.optVal hx) (pf h hxs h1.2)
theorem aa0{f:FuncId}{first caps:Array Operand}(h:Rel w G s a)(hop:o.op= .makeFunc (.func f) first caps)
  (ho:((optVals s first.toList).bind fun a=>(optVals s caps.toList).bind fun b=>if a.all au.one&&b.all au.one then ret (.fn f a b)else none)=some (sv,es)):jP P o w G s a sv es:=by
 simp only[ae]at ho
 obtain⟨as,ha,bs,hb,ho⟩:=ho
 split at ho
 ·rename_i h1
  simp only[bA]at h1
  refine jd h ho (x:=.func (.func f) (first.map a.eval) (caps.map a.eval)) (by simp[execOp,hop,Instr.makeFunc]) (.fn f as bs _ _ ?_ ?_)
  ·have:=pf h ha h1.1;simpa using this
  ·have:=pf h hb h1.2;simpa using this
 ·cases ho
theorem uU(h:Rel w G s a):∀{xs:List Operand} {l:List (IntKind×Int)},asInts s xs=some l→xs.map a.eval=l.map fun p=>Value.int p.1 p.2
 | [],l,hd=>by simp only[asInts,sJ]at hd;subst hd;rfl
 |x::xs,l,hd=>by
  simp only[asInts,ae,sJ]at hd
  obtain⟨⟨k,n⟩,hx,l',hxs,rfl⟩:=hd
  simp[h.asInt hx,uU h hxs]
theorem tK{mx:Bool}:∀{l:List (IntKind×Int)} {k:IntKind} {n:Int} {d:au},gg mx k n l=some d→
  ∃m,d= .int k m∧((l.map fun p=>Value.int p.1 p.2).foldlM (if mx then Builtin.max2 else Builtin.min2) (.int k n)).run P w= .ok (.int k m) w
 | [],k,n,d,hd=>by
  simp only[gg,sJ]at hd;subst hd
  exact⟨n,rfl,by simp⟩
 |(k',b)::l,k,n,d,hd=>by
  simp only[gg]at hd
  split at hd
  ·rename_i hk
   subst hk
   obtain⟨m,h1,h2⟩:=tK (l:=l) hd
   refine⟨m,h1,?_⟩
   simp only[List.map_cons,List.foldlM_cons,Sem.run_bind]
   cases mx with
   |true=>simp only[if_true]at h2 ⊢;simp only[Builtin.max2,Sem.run_pure,Result.andThen_ok];exact h2
   |false=>simp only[Bool.false_eq_true,if_false]at h2 ⊢;simp only[Builtin.min2,Sem.run_pure,Result.andThen_ok];exact h2
  ·cases hd
theorem aao{mx:Bool}{args:Array Operand}{ts:Array TypeId}(h:Rel w G s a)(hop:o.op= .call ⟨.builtin (if mx then .max else .min),args,ts⟩)
  (ho:((asInts s args.toList).bind fun l=>match l with|(k,a)::l=>(gg mx k a l).bind ret | []=>none)=some (sv,es)):jP P o w G s a sv es:=by
 simp only[ae]at ho
 obtain⟨l,hl,ho⟩:=ho
 split at ho
 ·rename_i k n l'
  simp only[ae]at ho
  obtain⟨d,hd,ho⟩:=ho
  obtain⟨m,rfl,hr⟩:=tK (P:=P) (w:=w) hd
  have hm:=uU h hl
  refine jd h ho (x:=.int k m) ?_ (.int _ _)
  have hm':List.map a.eval args.toList=Value.int k n::l'.map fun p=>Value.int p.1 p.2:=by simpa using hm
  cases mx with
  |true=>simp only[if_true]at hop hr;simp[execOp,hop,resolve,invoke,builtin,Builtin.max_,hm',hr]
  |false=>simp only[Bool.false_eq_true,if_false]at hop hr;simp[execOp,hop,resolve,invoke,builtin,Builtin.min_,hm',hr]
 ·cases ho
theorem qO{t:Tag}(v:Value):dK w G t (eM v) v∧(eM v≠ .dead→v.oneCell'=true)∧(eM v).isRow=false:=by
 unfold eM
 split <;> first
  |exact⟨.int _ _,fun _=>rfl,rfl⟩
  |exact⟨.bool _,fun _=>rfl,rfl⟩
  |exact⟨.str _,fun _=>rfl,rfl⟩
  |exact⟨.nilptr,fun _=>rfl,rfl⟩
  |exact⟨.nilmap,fun _=>rfl,rfl⟩
  |exact⟨⟨none,rfl⟩,fun _=>rfl,rfl⟩
  |exact⟨.nilfn,fun _=>rfl,rfl⟩
  |exact⟨trivial,fun h=>absurd rfl h,rfl⟩
theorem pg{t:TypeId}{cs:List CV}(h:cd P t=some cs):∃z i,P.info? t=some i∧i.zero=some z∧(zeroValue t).run P w= .ok z w∧z.cells.toList.map eM=cs∧z=valOf P t z.cells.toList:=by
 unfold cd at h
 simp only[ae]at h
 obtain⟨i,hi,z,hz,h⟩:=h
 refine⟨z,i,hi,hz,by simp[zeroValue,typeInfo,hi,hz],?_,?_⟩
 ·split at h
  ·split at h
   ·simp at h;simpa[Value.cells]using h
   ·cases h
  ·rename_i hn
   split at h
   ·cases h
   ·simp at h
    cases z <;> first|exact absurd rfl (hn _)|simpa[Value.cells]using h
 ·split at h
  ·split at h
   ·rename_i ha;simp[valOf,ha,Value.cells]
   ·cases h
  ·rename_i hn
   split at h
   ·cases h
   ·rename_i ha
    cases z <;> first|exact absurd rfl (hn _)|simp[valOf,ha,Value.cells]
theorem ahq{cs:List CV}{vs:List Value}{ds:List au}(hm:vs.map eM=cs)(hd:je cs=some ds):cn w G ds vs:=by
 refine so (t:=.other) hd (by rw[← hm];simp) fun j c u hc hu=>?_
 have hz:eM u=c:=by
  rw[← hm]at hc
  simp only[gP,hu,Option.map_some,sJ]at hc
  exact hc
 obtain⟨h1,h2,h3⟩:=qO (w:=w) (G:=G) (t:=.other) u
 rw[hz]at h1 h2 h3
 cases c with
 |val d=>exact⟨rfl,h1,h2 (by simp)⟩
 |nil=>exact⟨rfl,h1,h2 (by simp)⟩
 |row k xs=>cases h3
 |dead=>exact absurd hc (qn hd)
theorem qj{t:TypeId}{d:au}(h:lq P t=some d):∃z i,P.info? t=some i∧i.zero=some z∧(zeroValue t).run P w= .ok z w∧cU w G d z∧P.cellsOf t≠0:=by
 unfold lq at h
 simp only[ae]at h
 obtain⟨cs,hcs,ds,hds,hd⟩:=h
 obtain⟨z,i,hi,hz,hrun,hm,hv⟩:=pg (w:=w) hcs
 have hr:=ahq (w:=w) (G:=G) hm hds
 obtain⟨_,hc0,hrel,_⟩:=mI hd hr
 exact⟨z,i,hi,hz,hrun,by rw[hv];exact hrel,hc0⟩
theorem vl{k:IntKind}:∀{ds:List au},mX k ds=true→∀(i:Nat) (d:au),ds[i]? =some d→∃n,d= .int k n
 | [],_,i,d,h=>by simp at h
 |x::ds,h,i,d,hd=>by
  cases x <;> simp[mX]at h
  cases i with
  |zero=>simp at hd;exact⟨_,by rw[← hd,h.1]⟩
  |succ i=>exact vl h.2 i d (by simpa using hd)
theorem pN{n:Nat}{e:TypeId}{cs:List au}(h:aeP P n e cs=true):cs.length=n∧P.cellsOf e=1∧∃k,P.underlying e=some (.int k)∧mX k cs=true:=by
 unfold aeP at h
 simp only[bA,beq_iff_eq]at h
 obtain⟨⟨h1,h2⟩,h3⟩:=h
 split at h3
 ·rename_i k hk;exact⟨h1,h2,k,hk,h3⟩
 ·cases h3
theorem tI{e:TypeId}{k:IntKind}(h:P.underlying e=some (.int k)):fl P e=false:=by unfold fl;rw[h]
theorem xh{e:TypeId}{k:IntKind}(hu:P.underlying e=some (.int k)){cs:List au}{us:Array Value}(hc:cn w G cs us.toList)(hi:mX k cs=true){i:Nat}(hlt:i < cs.length):∃n,cs[i]? =some (.int k n)∧(part e us i).run P w= .ok (.int k n) w:=by
 obtain⟨n,hn⟩:=vl hi i cs[i] (gE hlt)
 have hx:cs[i]? =some (.int k n):=by rw[← hn];exact gE hlt
 obtain⟨v,hv,_,hr⟩:=hc.get i _ hx
 cases hr
 exact⟨n,hx,jM (P:=P) hu (tI hu) (by simpa using hv) w⟩
theorem rE{e:TypeId}{k:IntKind}(hu:P.underlying e=some (.int k)){d:Nat}{as bs:List au}{us vs:Array Value}(ha:cn w G as us.toList)(hb:cn w G bs vs.toList)(ia:mX k as=true)(ib:mX k bs=true)(hl:as.length=bs.length):
  ∀(m i:Nat),i+m=as.length→(Op.eqItems (d+1) e 1 us vs (List.range' i m)).run P w= .ok (kr (as.drop i) (bs.drop i)) w
 |0,i,h=>by
  rw[List.drop_of_length_le (by omega),List.drop_of_length_le (by omega)]
  simp[Op.eqItems,kr]
 |m+1,i,h=>by
  obtain⟨x,hx,px⟩:=xh (P:=P) hu ha ia (i:=i) (by omega)
  obtain⟨y,hy,py⟩:=xh (P:=P) hu hb ib (i:=i) (by omega)
  have ih:=rE hu (d:=d) ha hb ia ib hl m (i+1) (by omega)
  have da:as.drop i= .int k x::as.drop (i+1):=by rw[List.drop_eq_getElem_cons (by omega)];congr 1;exact sI (by rw[← hx];exact(gE (by omega)).symm)
  have db:bs.drop i= .int k y::bs.drop (i+1):=by rw[List.drop_eq_getElem_cons (by omega)];congr 1;exact sI (by rw[← hy];exact(gE (by omega)).symm)
  rw[da,db,List.range'_succ]
  simp only[kr,decide_true,Bool.true_and]
  simp only[Op.eqItems,Nat.mul_one,Sem.run_bind,px,py,Result.andThen_ok,run_equalIn_int w d e k k x y hu]
  cases hxy:(x==y)with
  |true=>simpa using ih
  |false=>simp
theorem rY{as bs:List au}:∀(fs:List Field) (i:Nat) {as' bs':List au},as.drop i=as'→bs.drop i=bs'→eE P fs i as'=true→eE P fs i bs'=true→fM P as bs fs=some (kr as' bs')
 | [],i,[],[],_,_,_,_=>rfl
 | [],i,_::_,_,_,_,h,_=>by simp[eE]at h
 | [],i,[],_::_,_,_,_,h=>by simp[eE]at h
 |f::fs,i,[],_,_,_,h,_=>by simp[eE]at h
 |f::fs,i,x::as',[],_,_,_,h=>by simp[eE]at h
 |f::fs,i,x::as',y::bs',ea,eb,h,h'=>by
  cases x <;> simp[eE]at h
  cases y <;> simp[eE]at h'
  rename_i k a k' b
  obtain⟨⟨⟨h1,h2⟩,h3⟩,h4⟩:=h
  obtain⟨⟨⟨_,_⟩,h3'⟩,h4'⟩:=h'
  split at h3
  ·rename_i k0 hk0
   rw[hk0]at h3'
   simp only[decide_eq_true_eq]at h3 h3'
   subst h3;subst h3'
   have ga:as[f.offset]? =some (.int k0 a):=by
    have:=congrArg (fun l:List au=>l[0]?) ea
    simp only[List.getElem?_drop,Nat.add_zero,List.getElem?_cons_zero]at this
    rw[h2];exact this
   have gb:bs[f.offset]? =some (.int k0 b):=by
    have:=congrArg (fun l:List au=>l[0]?) eb
    simp only[List.getElem?_drop,Nat.add_zero,List.getElem?_cons_zero]at this
    rw[h2];exact this
   have na:=congrArg List.tail ea
   have nb:=congrArg List.tail eb
   rw[List.tail_drop,List.tail_cons]at na nb
   have ih:=rY fs (i+1) na nb h4 h4'
   simp only[fM]
   rw[if_neg (by simp[h1,tI hk0]),hk0,oB,ga,oB,gb,oB]
   simp only[eY,if_true,oB,kr,decide_true,Bool.true_and]
   cases hab:(a==b)with
   |true=>simpa using ih
   |false=>simp
  ·cases h3
theorem nt{cs:List au}{us:Array Value}(hus:cn w G cs us.toList):∀(L:List Field) (i:Nat) {cs':List au},cs.drop i=cs'→eE P L i cs'=true→∀f∈L,f.name≠ "_" ∧∃k x,P.underlying f.type=some (.int k)∧(part f.type us f.offset).run P w= .ok (.int k x) w
 | [],i,cs',_,_=>by simp
 |f::L,i,[],_,h=>by simp[eE]at h
 |f::L,i,x::cs',he,hs=>by
  cases x <;> simp[eE]at hs
  rename_i k a
  obtain⟨⟨⟨h1,h2⟩,h3⟩,h4⟩:=hs
  split at h3
  ·rename_i k0 hk0
   simp only[decide_eq_true_eq]at h3
   subst h3
   have hx:cs[f.offset]? =some (.int k0 a):=by
    have:=congrArg (fun l:List au=>l[0]?) he
    simp only[List.getElem?_drop,Nat.add_zero,List.getElem?_cons_zero]at this
    rw[h2];exact this
   obtain⟨v,hv,_,hr⟩:=hus.get _ _ hx
   cases hr
   have hp:=jM (P:=P) hk0 (tI hk0) (cs:=us) (off:=f.offset) (v:=.int k0 a) (by simpa using hv) w
   have ne:=congrArg List.tail he
   rw[List.tail_drop,List.tail_cons]at ne
   intro g hg
   rcases List.mem_cons.1 hg with rfl|hg
   ·exact⟨h1,k0,a,hk0,hp⟩
   ·exact nt hus L (i+1) ne h4 g hg
  ·cases h3
theorem yK{t:TypeId}{d:TypeDesc}(h:P.underlying t=some d):∃i,P.info? t=some i:=info_of_underlying h
theorem ajX{kt:TypeId}{td:TypeDesc}{k k':au}{u u':Value}(ht:P.underlying kt=some td)(h:isKey P kt td k=true)(h':isKey P kt td k'=true)(hu:cU w G k u)(hu':cU w G k' u'):(Op.equal kt u u').run P w= .ok (ja k k') w:=by
 unfold Op.equal Op.maxDepth
 have sc:eY td k k'=some (ja k k')→(Op.equalIn 10000 kt u u').run P w= .ok (ja k k') w:=fun hs=>nN ht hu hu' hs
 cases td <;> cases k <;> simp[isKey]at h <;> cases k' <;> simp[isKey]at h'
 case bool.bool.bool=>exact sc rfl
 case int.int.int=>subst h;subst h';exact sc (by simp[eY,ja])
 case string.str.str=>exact sc rfl
 case struct.agg.agg fs as bs=>
  cases hu with
  |agg _ us hus=>
   cases hu' with
   |agg _ vs hvs=>
    have hf:P.fieldsOf kt=fs:=by simp[Program.fieldsOf,ht]
    rw[run_equalIn_struct (P:=P) w 9999 kt us vs (by rw[hf];exact ht) (by simpa using h.1),hf]
    exact mB hus hvs _ (rY fs.toList 0 rfl rfl h.2 h'.2)
 case array.agg.agg n e as bs=>
  cases hu with
  |agg _ us hus=>
   cases hu' with
   |agg _ vs hvs=>
    obtain⟨a1,a2,ki,a3,a4⟩:=pN h
    obtain⟨b1,_,kj,b3,b4⟩:=pN h'
    rw[a3]at b3;cases b3
    obtain⟨inf,hinf⟩:=yK a3
    rw[run_equalIn_array (P:=P) w 9999 us vs ht hinf,a2,List.range_eq_range']
    exact rE a3 (d:=9998) hus hvs a4 b4 (by omega) n 0 (by omega)
def gH(k:au):List (au×au)→List MapEntry→Nat→Option (Nat×Value)
 |e::es,m::ms,i=>if ja k e.1 then some (i,m.val)else gH k es ms (i+1)
 |_,_,_=>none
theorem ov{kt:TypeId}{td:TypeDesc}(ht:P.underlying kt=some td){k:au}{u:Value}(h:isKey P kt td k=true)(hu:cU w G k u):∀{es:List (au×au)} {ms:List MapEntry} (i:Nat),(∀e∈es,isKey P kt td e.1=true)→ms.length=es.length→
  (∀(i:Nat) (e:au×au) (m:MapEntry),es[i]? =some e→ms[i]? =some m→cU w G e.1 m.key∧cU w G e.2 m.val)→(Instr.findAsking kt u ms i).run P w= .ok (gH k es ms i) w
 | [],ms,i,_,hl,_=>by
  have:ms=[]:=List.eq_nil_of_length_eq_zero (by simpa using hl)
  subst this
  simp[Instr.findAsking,gH]
 |e::es,[],i,_,hl,_=>by simp at hl
 |e::es,m::ms,i,hk,hl,hr=>by
  obtain⟨h1,h2⟩:=hr 0 e m rfl rfl
  have hs:=ajX (P:=P) ht h (hk e (by simp)) hu h1
  simp only[Instr.findAsking,Sem.run_bind,hs,Result.andThen_ok,gH]
  cases hkk:ja k e.1 with
  |true=>simp
  |false=>
   simp only[Bool.false_eq_true,if_false]
   exact ov ht h hu (i+1) (fun e he=>hk e (by simp[he])) (by simpa using hl) (fun i e m he hm=>hr (i+1) e m (by simpa using he) (by simpa using hm))
theorem abx{kt:TypeId}{td:TypeDesc}{k k':au}{u u':Value}(hsc:∀cs,k≠ .agg cs)(h:isKey P kt td k=true)(h':isKey P kt td k'=true)(hu:cU w G k u)(hu':cU w G k' u'):Instr.sameNow td u u'=some (ja k k'):=by
 cases td <;> cases k <;> simp[isKey]at h <;> cases k' <;> simp[isKey]at h' <;> cases hu <;> cases hu' <;> simp_all[Instr.sameNow,ja]
theorem tt{kt:TypeId}{td:TypeDesc}{k:au}{u:Value}(hsc:∀cs,k≠ .agg cs)(h:isKey P kt td k=true)(hu:cU w G k u):∀{es:List (au×au)} {ms:List MapEntry} (i:Nat),(∀e∈es,isKey P kt td e.1=true)→ms.length=es.length→
  (∀(i:Nat) (e:au×au) (m:MapEntry),es[i]? =some e→ms[i]? =some m→cU w G e.1 m.key∧cU w G e.2 m.val)→Instr.findNow td u ms i=some (gH k es ms i)
 | [],ms,i,_,hl,_=>by
  have:ms=[]:=List.eq_nil_of_length_eq_zero (by simpa using hl)
  subst this
  rfl
 |e::es,[],i,_,hl,_=>by simp at hl
 |e::es,m::ms,i,hk,hl,hr=>by
  obtain⟨h1,h2⟩:=hr 0 e m rfl rfl
  have hs:=abx (P:=P) hsc h (hk e (by simp)) hu h1
  simp only[Instr.findNow,hs,gH]
  cases hkk:ja k e.1 with
  |true=>rfl
  |false=>
   simp only[Bool.false_eq_true,if_false]
   exact tt hsc h hu (i+1) (fun e he=>hk e (by simp[he])) (by simpa using hl) (fun i e m he hm=>hr (i+1) e m (by simpa using he) (by simpa using hm))
theorem mG{kt:TypeId}{td:TypeDesc}(ht:P.underlying kt=some td){k:au}{u:Value}(h:isKey P kt td k=true)(hu:cU w G k u){es:List (au×au)}{ms:List MapEntry}(hk:∀e∈es,isKey P kt td e.1=true)(hl:ms.length=es.length)
  (hr:∀(i:Nat) (e:au×au) (m:MapEntry),es[i]? =some e→ms[i]? =some m→cU w G e.1 m.key∧cU w G e.2 m.val):(Instr.findKey kt u ms).run P w= .ok (gH k es ms 0) w:=by
 by_cases hsc:∀cs,k≠ .agg cs
 ·have:=tt (P:=P) hsc h hu (ms:=ms) 0 hk hl hr
  simp[Instr.findKey,run_underlying ht,this]
 ·have hwide:(match P.underlying kt with|some (.array _ _)|some (.struct _)=>true|_=>false)=true:=by
   rw[ht]
   cases k
   case agg cs=>cases td <;> simp[isKey]at h <;> rfl
   all_goals exact absurd (fun cs=>by simp) hsc
  rw[run_findKey_eq (P:=P) w hwide]
  exact ov ht h hu 0 hk hl hr
theorem wF{k:au}:∀{es:List (au×au)} {ms:List MapEntry} (i:Nat),ms.length=es.length→
  (∀(i:Nat) (e:au×au) (m:MapEntry),es[i]? =some e→ms[i]? =some m→cU w G e.1 m.key∧cU w G e.2 m.val)→
  (fy k es=none→gH k es ms i=none)∧∀v,fy k es=some v→∃j x,gH k es ms i=some (j,x)∧cU w G v x
 | [],ms,i,hl,_=>by
  have:ms=[]:=List.eq_nil_of_length_eq_zero (by simpa using hl)
  subst this
  exact⟨fun _=>rfl,fun v hv=>by simp[fy]at hv⟩
 |e::es,[],i,hl,_=>by simp at hl
 |e::es,m::ms,i,hl,hr=>by
  obtain⟨h1,h2⟩:=hr 0 e m rfl rfl
  simp only[gH,fy]
  cases hkk:ja k e.1 with
  |true=>exact⟨by simp,fun v hv=>by simp at hv;subst hv;exact⟨_,_,rfl,h2⟩⟩
  |false=>
   simp only[Bool.false_eq_true,if_false]
   exact wF (i+1) (by simpa using hl) (fun i e m he hm=>hr (i+1) e m (by simpa using he) (by simpa using hm))
theorem gv{td:TypeDesc}{k:au}{u:Value}{kt:TypeId}{em:Bool}(h:isKey P kt td k=true)(hu:cU w G k u)(ht:P.underlying kt=some td):(Instr.checkKey em 10000 kt u).run P w= .ok () w:=by
 show(Instr.checkKey em (9998+1+1) kt u).run P w= .ok () w
 generalize 9998=n
 cases td <;> cases k <;> simp[isKey]at h
 case bool.bool=>cases hu;simp[Instr.checkKey,Sem.run_bind,run_underlying ht]
 case int.int=>cases hu;simp[Instr.checkKey,Sem.run_bind,run_underlying ht]
 case string.str=>cases hu;simp[Instr.checkKey,Sem.run_bind,run_underlying ht]
 case struct.agg fs cs=>
  cases hu with
  |agg _ us hus=>
   rw[Instr.checkKey]
   simp only[Sem.run_bind,run_underlying ht,Result.andThen_ok]
   rw[← Array.forIn_toList]
   have each:=nt (P:=P) hus fs.toList 0 rfl h.2
   generalize fs.toList=L at each
   induction L with
   |nil=>simp
   |cons f L ih=>
    obtain⟨hn,k,x,hu',px⟩:=each f (by simp)
    have hc:(Instr.checkKey em (n+1) f.type (.int k x)).run P w= .ok () w:=by simp[Instr.checkKey,Sem.run_bind,run_underlying hu']
    simp only[List.forIn_cons,Sem.run_bind,hn,ne_eq,not_false_eq_true,if_true,Result.andThen_ok,px,hc,Sem.run_pure]
    exact ih (fun y hy=>each y (by simp[hy]))
 case array.agg m e cs=>
  cases hu with
  |agg _ us hus=>
   obtain⟨a1,a2,ki,a3,a4⟩:=pN h
   obtain⟨inf,hinf⟩:=yK a3
   rw[Instr.checkKey]
   simp only[Sem.run_bind,run_underlying ht,Result.andThen_ok]
   simp only[Std.Legacy.Range.forIn_eq_forIn_range',Std.Legacy.Range.size,Nat.sub_zero,Nat.add_one_sub_one,Nat.div_one]
   have each:∀j∈List.range' 0 m,j < cs.length:=fun j hj=>by have:=List.mem_range'_1.1 hj;omega
   generalize List.range' 0 m=is at each
   induction is with
   |nil=>simp
   |cons j is ih=>
    obtain⟨x,_,px⟩:=xh (P:=P) a3 hus a4 (i:=j) (each j (by simp))
    have hc:(Instr.checkKey em (n+1) e (.int ki x)).run P w= .ok () w:=by simp[Instr.checkKey,Sem.run_bind,run_underlying a3]
    simp only[List.forIn_cons,Sem.run_bind,_root_.Go.run_sizeOf w hinf,a2,Nat.mul_one,Result.andThen_ok,px,hc,Sem.run_pure]
    exact ih (fun y hy=>each y (by simp[hy]))
theorem Rel.entries(h:Rel w G s a)(hP:G.P=P){kt:TypeId}{td:TypeDesc}{d:au}{u:Value}{es:List (au×au)}(ht:P.underlying kt=some td)(hu:cU w G d u)(hm:mapAt s kt d=some es):
  (u= .map none∧es=[])∨∃l,d= .map (some l)∧u= .map (some (G.ι l))∧s.box.at_ l=some (.map kt es)∧∃ents clock,w.heap[G.ι l]? =some (.map ents clock)∧(ents.size=es.length∧clock=es.length∧∀(i:Nat) (m:MapEntry),ents[i]? =some m→m.born=i)∧(∀e∈es,isKey P kt td e.1=true)∧
   (∀(i:Nat) (e:au×au) (m:MapEntry),es[i]? =some e→ents.toList[i]? =some m→cU w G e.1 m.key∧cU w G e.2 m.val):=by
 unfold mapAt at hm
 split at hm
 ·cases hu;simp at hm;exact .inl ⟨rfl,hm⟩
 ·rename_i l
  cases hu with
  |map _ hl=>
  split at hm
  ·rename_i kt' es' hes
   split at hm
   ·rename_i hk
    subst hk
    simp at hm;subst hm
    obtain⟨_,_,⟨td',htd,hkeys⟩,ents,clock,hw,hsz,hr⟩:=h.heap.obj l _ hes
    rw[hP,ht]at htd
    cases htd
    rw[hP]at hkeys
    exact .inr ⟨l,rfl,rfl,hes,ents,clock,hw,hsz,hkeys,fun i e m he hm=>hr i e m he (by simpa using hm)⟩
   ·cases hm
  ·cases hm
 ·cases hm
theorem amJ{t:TypeId}{x k:Operand}{ok:Bool}(h:Rel w G s a)(hP:G.P=P)(hop:o.op= .lookup t x k ok)(ho:lookupOp P s t x k ok=some (sv,es)):jP P o w G s a sv es:=by
 unfold lookupOp at ho
 split at ho
 ·rename_i kt e ht
  simp only[ae]at ho
  obtain⟨d,hd,kd,hk,td,htd,z,hz,ho⟩:=ho
  split at ho
  ·rename_i hkey
   simp only[ae]at ho
   obtain⟨ents,hm,ho⟩:=ho
   have hu:=h.optVal hd
   have hku:=h.optVal hk
   obtain⟨zv,_,_,_,hzr,hzv,_⟩:=qj (P:=P) (w:=w) (G:=G) hz
   have key:∃v,cU w G ((fy kd ents).getD z) v∧(Instr.lookup t (a.eval x) (a.eval k) ok).run P w= .ok (if ok then .tuple #[v,.bool (fy kd ents).isSome]else v) w:=by
    rcases h.entries hP htd hu hm with⟨he,rfl⟩|⟨l,rfl,he,hat,ms,clock,hw,⟨hsz,_⟩,hkeys,hr⟩
    ·refine⟨zv,by simpa[fy]using hzv,?_⟩
     simp[Instr.lookup,Sem.run_bind,run_underlying ht,he,gv (P:=P) hkey hku htd,mG (P:=P) htd hkey hku (es:=[]) (ms:=[]) (by simp) rfl (by simp),gH,hzr,fy]
    ·have hr1:=mG (P:=P) htd hkey hku hkeys (ms:=ms.toList) (by simpa using hsz) hr
     obtain⟨hr2,hr3⟩:=wF (w:=w) (G:=G) (k:=kd) (es:=ents) (ms:=ms.toList) 0 (by simpa using hsz) hr
     cases hf:fy kd ents with
     |none=>
      rw[hr2 hf]at hr1
      refine⟨zv,hzv,?_⟩
      simp[Instr.lookup,Sem.run_bind,run_underlying ht,he,getObj,Sem.run,hw,gv (P:=P) hkey hku htd,hr1,hzr]
     |some v=>
      obtain⟨j,xv,he3,hv⟩:=hr3 v hf
      rw[he3]at hr1
      refine⟨xv,hv,?_⟩
      simp[Instr.lookup,Sem.run_bind,run_underlying ht,he,getObj,Sem.run,hw,gv (P:=P) hkey hku htd,hr1]
   obtain⟨v,hv,hrun⟩:=key
   cases ok with
   |true=>
    simp only[if_true,sJ,pJ]at ho
    obtain⟨rfl,rfl⟩:=ho
    refine .still h (x:=.tuple #[v,.bool (fy kd ents).isSome]) (by simp only[execOp,hop,Sem.run_bind,hrun,Result.andThen_ok,Sem.run_pure,if_true]) ⟨_,rfl,rfl,fun j d u hd hu=>?_⟩
    match j with
    |0=>simp at hd hu;subst hd;subst hu;exact hv
    |1=>simp at hd hu;subst hd;subst hu;exact .bool _
    |j+2=>simp at hd
   |false=>
    simp only[Bool.false_eq_true,if_false,sJ,pJ]at ho
    obtain⟨rfl,rfl⟩:=ho
    exact .still h (x:=v) (by simp only[execOp,hop,Sem.run_bind,hrun,Result.andThen_ok,Sem.run_pure];rfl) hv
  ·cases ho
 ·cases ho
variable{P:Program}{o:Oper}{w:World}{G:Gh}{s:St}{a:Act}{sv:SV}{es:List Eff}
structure jb(w:World)(G:Gh)(w':World)(G':Gh):Prop where
 os:w'.os=w.os
 tape:w'.tape=w.tape
 output:w'.output=w.output
 size:w.heap.size≤w'.heap.size
 heap:∀b,b < w.heap.size→w'.heap[b]? =w.heap[b]?
 g:∀b,b < w.heap.size→G'.g b=G.g b
 fresh:∀b,w'.heap.size≤b→G'.g b= .other
 n:G.n≤G'.n
 ι:∀l,l < G.n→G'.ι l=G.ι l
 P:G'.P=G.P
theorem jb.kept{w':World}{G':Gh}(h:jb w G w' G'):Kept w G w' G':=⟨h.os,h.tape,h.output,h.size,fun b hb hl=>⟨by rw[h.g b hl];exact hb,h.heap b hl⟩,fun b hb hl=>⟨by rw[h.g b hl];exact hb,h.heap b hl⟩,h.n,h.ι,h.P⟩
theorem im{w:World}{b:Nat}{o:Obj}(h:w.heap[b]? =some o):b < w.heap.size:=(Array.getElem?_eq_some_iff.1 h).1
theorem jb.row{w':World}{G':Gh}(h:jb w G w' G'){t:Tag}{k:Nat}{xs:List au}{v:Value}(hr:cp w G t k xs v):cp w' G' t k xs v:=by
 rcases hr with hr|⟨b,cap,arr,h1,h2,h3,h4,h5,h6,h7,h8⟩
 ·exact .inl hr
 ·have hb:=im h3
  exact .inr ⟨b,cap,arr,h1,by rw[h.g b hb];exact h2,by rw[h.heap b hb];exact h3,by rw[h.P];exact h4,h5,h6,by rw[h.P];exact h7,by rw[h.P];exact h8.mono h.kept.mono⟩
theorem jb.cv{w':World}{G':Gh}(h:jb w G w' G'){t:Tag}{c:CV}{v:Value}(hr:dK w G t c v):dK w' G' t c v:=by
 cases c with
 |val d=>exact cU.mono h.kept.mono hr
 |nil=>exact hr
 |row k xs=>exact h.row hr
 |dead=>trivial
theorem mg{w w':World}{ad:Addr}(h:w'.heap[ad.block]? =w.heap[ad.block]?){v:Value}(hv:w.cell? ad=some v):w'.cell? ad=some v:=by
 rw[lZ h];exact hv
theorem jb.root{w':World}{G':Gh}(h:jb w G w' G')(hh:nj w G s.box){r:fb}{q:Nat×List au}(hq:s.rowAt r=some q){v:Value}(hv:dn w G a r v):dn w' G' a r v:=by
 cases r with
 |slot i=>exact hv
 |cell l i=>
  simp only[St.rowAt]at hq
  split at hq
  ·rename_i k xs hc
   obtain⟨cs,hcs,_⟩:=gj hc (by simp)
   have hl:=(hh.obj l _ hcs).1
   simp only[dn]at hv ⊢
   rw[h.ι l (by rw[hh.n];exact hl)]
   exact mg (h.heap _ (tV hv)) hv
  ·cases hq
theorem jb.svs{w':World}{G':Gh}(h:jb w G w' G')(hh:nj w G s.box){t:Tag}{v:Value}(hr:ez w G s a t sv v):ez w' G' s a t sv v:=
 hr.moveTo h.kept.mono (fun k xs _ hr=>h.row hr) (fun r q hq=>⟨hq,fun v hv=>h.root hh hq hv⟩)
theorem jb.obj{w':World}{G':Gh}(h:jb w G w' G'){l:Nat}{ob:dB}(hl:l < G.n)(hr:gG w G l ob):gG w' G' l ob:=by
 cases ob with
 |cells cs=>
  obtain⟨h1,arr,e,fr,h2,h3,h4,h5⟩:=hr
  have hb:=im h2
  exact⟨by rw[h.ι l hl,h.g _ hb];exact h1,arr,e,fr,by rw[h.ι l hl,h.heap _ hb];exact h2,h3,h4,fun i c v hc hv=>⟨h.cv (h5 i c v hc hv).1,(h5 i c v hc hv).2⟩⟩
 |map kt es=>
  obtain⟨h1,hk,ents,clock,h2,h3,h4⟩:=hr
  have hb:=im h2
  exact⟨by rw[h.ι l hl,h.g _ hb];exact h1,by rw[h.P];exact hk,ents,clock,by rw[h.ι l hl,h.heap _ hb];exact h2,h3,fun i e m he hm=>⟨((h4 i e m he hm).1).mono h.kept.mono,((h4 i e m he hm).2).mono h.kept.mono⟩⟩
theorem jb.heapH{w':World}{G':Gh}(h:jb w G w' G'){hp:bn}(hn:G'.n=G.n)(hh:nj w G hp):nj w' G' hp:=
 ⟨by rw[hn];exact hh.n,fun l ob ho=>⟨(hh.obj l ob ho).1,h.obj (by rw[hh.n];exact(hh.obj l ob ho).1) (hh.obj l ob ho).2⟩⟩
theorem jb.rel{w':World}{G':Gh}(h:jb w G w' G')(hn:G'.n=G.n)(hr:Rel w G s a):Rel w' G' s a:=
 ⟨fun i=>h.svs hr.heap (hr.slots i),h.heapH hn hr.heap,h.fresh⟩
def Gh.set(G:Gh)(b:Nat)(t:Tag):Gh:=⟨G.P,fun x=>if x=b then t else G.g x,G.ι,G.n⟩
theorem mz(h:∀b,w.heap.size≤b→G.g b= .other)(ob:Obj)(t:Tag):jb w G (w.alloc ob) (G.set w.heap.size t) where
 os:=rfl
 tape:=rfl
 output:=rfl
 size:=by simp
 heap b hb:=heap_alloc_old w ob b hb
 g b hb:=by simp only[Gh.set];rw[if_neg (by omega)]
 fresh b hb:=by
  have:w.heap.size < b:=by simp at hb;omega
  simp only[Gh.set];rw[if_neg (by omega)];exact h b (by omega)
 n:=nR _
 ι _ _:=rfl
 P:=rfl
theorem vH{w':World}{G':Gh}(h:jb w.drew G w' G'):jb w G w' G':=⟨h.os,h.tape,h.output,h.size,h.heap,h.g,h.fresh,h.n,h.ι,h.P⟩
theorem ow(hP:G.P=P) {K:Nat}:∀{ps:List (Nat×Operand)} {j:Nat} {G:Gh} {s:St} {ds:List au} {es:List Eff},Rel w G s a→buildElems P s K j ps=some (ds,es)→
  ∃G',uM w G s a es G'∧ds.length=ps.length∧(∀d∈ds,d.cells.length=K)∧∀i p,ps[i]? =some p→p.1=j+i∧∃d,ds[i]? =some d∧cU w G' d (a.eval p.2)
 | [],j,G,s,ds,es,h,hb=>by
  simp only[buildElems,sJ,pJ]at hb
  obtain⟨rfl,rfl⟩:=hb
  exact⟨G,.none h,rfl,by simp,by simp⟩
 |(i,x)::ps,j,G,s,ds,es,h,hb=>by
  simp only[buildElems]at hb
  split at hb
  ·rename_i hij
   simp only[ae]at hb
   obtain⟨⟨d,e1⟩,hd,hb⟩:=hb
   split at hb
   ·rename_i hk
    simp only[ae,sJ,pJ]at hb
    obtain⟨⟨ds',e2⟩,hb,rfl,rfl⟩:=hb
    obtain⟨G1,w1,hv⟩:=h.asVal hd
    obtain⟨G2,w2,hl,hsz,hr⟩:=ow hP w1.rel hb
    refine⟨G2,⟨by rw[eX];exact w2.rel,w1.kept.trans w2.kept⟩,by simp[hl],?_,?_⟩
    ·intro d' hd'
     rcases List.mem_cons.1 hd' with rfl|hd'
     ·exact hk
     ·exact hsz d' hd'
    ·intro i' p hp
     cases i' with
     |zero=>simp at hp;subst hp;exact⟨hij,d,rfl,hv.mono w2.kept.mono⟩
     |succ i'=>
      obtain⟨h1,d',h2,h3⟩:=hr i' p (by simpa using hp)
      exact⟨by omega,d',by simpa using h2,h3⟩
   ·cases hb
  ·cases hb
def laid(off:Nat)(l:List Value)(arr:Array Value):Array Value:=(l.zipIdx 0).foldl (fun cs (cj:Value×Nat)=>cs.setIfInBounds (off+cj.2) cj.1) arr
theorem xI(off:Nat):∀(l:List Value) (m:Nat) (arr:Array Value),off+m+l.length≤arr.size→
  ((l.zipIdx m).foldl (fun cs (cj:Value×Nat)=>cs.setIfInBounds (off+cj.2) cj.1) arr).size=arr.size∧
  ∀q,((l.zipIdx m).foldl (fun cs (cj:Value×Nat)=>cs.setIfInBounds (off+cj.2) cj.1) arr)[q]? =if off+m≤q∧q < off+m+l.length then l[q - (off+m)]? else arr[q]?
 | [],m,arr,_=>by
  refine⟨rfl,fun q=>?_⟩
  simp only[List.zipIdx_nil,List.foldl_nil,List.length_nil]
  rw[if_neg (by omega)]
 |x::l,m,arr,h=>by
  simp only[lC]at h
  obtain⟨h1,h2⟩:=xI off l (m+1) (arr.setIfInBounds (off+m) x) (by simp;omega)
  simp only[List.zipIdx_cons,List.foldl_cons]
  refine⟨by rw[h1];simp,fun q=>?_⟩
  rw[h2 q,Array.getElem?_setIfInBounds,lC]
  by_cases c1:q=off+m
  ·subst c1
   rw[if_neg (by omega),if_pos rfl,if_pos (by omega),if_pos (by omega)]
   simp
  ·by_cases c2:off+m+1≤q∧q < off+m+1+l.length
   ·rw[if_pos (by omega),if_pos (by omega)]
    have:q - (off+m)=(q - (off+(m+1)))+1:=by omega
    rw[this];simp
   ·rw[if_neg (by omega),if_neg (by omega),if_neg (by omega)]
theorem aak{off:Nat}{l:List Value}{arr:Array Value}(h:off+l.length≤arr.size):(laid off l arr).size=arr.size:=(xI off l 0 arr (by omega)).1
theorem ae1{off:Nat}{l:List Value}{arr:Array Value}(h:off+l.length≤arr.size)(q:Nat):(laid off l arr)[q]? =if off≤q∧q < off+l.length then l[q - off]? else arr[q]? :=by
 have:=(xI off l 0 arr (by omega)).2 q
 simpa[laid]using this
theorem zh(place:Nat→Option (Nat×Nat))(cells:Array Value)(i:Nat)(v:Value)(rest:List (Nat×Value)){off size:Nat}(hp:place i=some (off,size))(h1:v.cells.size=size)(h2:off+size≤cells.size):
  Instr.fill place cells ((i,v)::rest)=Instr.fill place (laid off v.cells.toList cells) rest:=by
 have:¬ (v.cells.size≠size||decide (off+v.cells.size > cells.size))=true:=by
  simp only[Bool.or_eq_true,decide_eq_true_eq,not_or,gt_iff_lt]
  exact⟨by simp[h1],by omega⟩
 simp only[Instr.fill,hp]
 rw[if_neg this]
 congr 1
 rw[← Array.foldl_toList,Array.toList_zipIdx]
 rfl
theorem alm{off:Nat}{l:List Value}{arr:Array Value}(h:off+l.length≤arr.size):(laid off l arr).toList.take (off+l.length)=arr.toList.take off++l:=by
 apply List.ext_getElem?
 intro q
 rw[List.getElem?_take,List.getElem?_append,Array.getElem?_toList,ae1 h]
 have hl:(arr.toList.take off).length=off:=by simp;omega
 rw[hl]
 by_cases c1:q < off
 ·rw[if_pos (by omega),if_neg (by omega),if_pos c1,List.getElem?_take,if_pos c1,Array.getElem?_toList]
 ·rw[if_neg c1]
  by_cases c2:q < off+l.length
  ·rw[if_pos c2,if_pos (by omega)]
  ·rw[if_neg c2,gN (by omega)]
theorem vq{K:Nat}:∀{ps:List (Nat×Value)} {cs:Array Value} {j n:Nat} {ds:List au} {vs0:List Value},ds.length=ps.length→(∀d∈ds,d.cells.length=K)→(∀i p,ps[i]? =some p→p.1=j+i∧∃d,ds[i]? =some d∧cU w G d p.2)→
  cs.size=n*K→j+ps.length=n→cs.toList.take (j*K)=vs0→∃cs':Array Value,Instr.fill (fun i=>some (i*K,K)) cs ps=some cs'∧cs'.size=n*K∧∃vs1,cs'.toList=vs0++vs1∧cn w G (bx ds) vs1
 | [],cs,j,n,ds,vs0,hl,hk,hp,hs,hj,ht=>by
  have:ds=[]:=List.eq_nil_of_length_eq_zero (by simpa using hl)
  subst this
  refine⟨cs,rfl,hs,[],?_,.nil⟩
  rw[← ht,List.append_nil,List.take_of_length_le]
  simp at hj;subst hj;simp[hs]
 |p::ps,cs,j,n,[],vs0,hl,_,_,_,_,_=>by simp at hl
 |(i,u)::ps,cs,j,n,d::ds,vs0,hl,hk,hp,hs,hj,ht=>by
  obtain⟨h1,d',h2,h3⟩:=hp 0 (i,u) rfl
  simp at h1 h2;subst h1;subst h2
  have hkd:=hk d (by simp)
  have hcu:=h3.cells
  have hus:u.cells.size=K:=by have:=hcu.length;simp at this;omega
  have hfit:i*K+K≤cs.size:=by
   rw[hs]
   have:(i+1)*K≤n*K:=Nat.mul_le_mul_right _ (by simp at hj;omega)
   rw[Nat.add_mul,Nat.one_mul]at this;omega
  have hul:u.cells.toList.length=K:=by simpa using hus
  rw[zh _ _ _ _ _ rfl hus hfit]
  have htake:=alm (off:=i*K) (l:=u.cells.toList) (arr:=cs) (by rw[hul];exact hfit)
  rw[hul,ht]at htake
  obtain⟨cs',g1,g2,vs1,g3,g4⟩:=vq (K:=K) (ps:=ps) (cs:=laid (i*K) u.cells.toList cs) (j:=i+1) (n:=n) (ds:=ds) (vs0:=vs0++u.cells.toList) (by simpa using hl) (fun d hd=>hk d (by simp[hd]))
   (fun i' p hp'=>by
    obtain⟨f1,f2⟩:=hp (i'+1) p (by simpa using hp')
    exact⟨by omega,by simpa using f2⟩)
   (by rw[aak (by rw[hul];exact hfit)];exact hs) (by simp at hj;omega) (by rw[Nat.add_mul,Nat.one_mul];exact htake)
  refine⟨cs',g1,g2,u.cells.toList++vs1,by rw[g3,List.append_assoc],?_⟩
  simp only[bx,List.flatMap_cons]
  exact hcu.append g4
theorem jP.made{G1:Gh}(hw:uM w G s a es G1){x:Value}{w':World}{G2:Gh}(hg:jb w G1 w' G2)(hn:G2.n=G1.n)(hr:(execOp a.eval o).run P w= .ok (.value x) w')(hv:ez w' G2 (s.effs es) a .ret sv x):jP P o w G s a sv es:=
 ⟨x,w',G2,.inl hr,hw.kept.trans hg.kept,hg.rel hn hw.rel,hv⟩
theorem uM.prog{G':Gh}(h:uM w G s a es G'):G'.P=G.P:=h.kept.P
theorem xP{t:TypeId}{n:Nat}{ps:Array (Nat×Operand)}(h:Rel w G s a)(hP:G.P=P)(hop:o.op= .buildSlice t n ps)
  (ho:(match P.underlying t with|some (.slice e)=>(buildElems P s (P.cellsOf e) 0 ps.toList).bind fun r=>if r.1.length=n∧n*P.cellsOf e≤2^24∧P.cellsOf e≠0∧fe P e then some (.cv (.row e r.1),r.2)else none|_=>none)=some (sv,es)):jP P o w G s a sv es:=by
 split at ho
 ·rename_i e ht
  simp only[ae]at ho
  obtain⟨⟨ds,e1⟩,hb,ho⟩:=ho
  split at ho
  ·rename_i hc
   obtain⟨hn,hsz,hc0,hz⟩:=hc
   simp only[sJ,pJ]at ho
   obtain⟨rfl,rfl⟩:=ho
   obtain⟨G1,hw,hl,hk,hr⟩:=ow (P:=P) hP h hb
   simp only at hn
   have hz':∃i z,P.info? e=some i∧i.zero=some z:=by
    unfold fe at hz
    cases hi:P.info? e with
    |none=>rw[hi]at hz;cases hz
    |some i=>
     rw[hi]at hz
     cases hzz:i.zero with
     |none=>simp[hzz]at hz
     |some z=>exact⟨i,z,rfl,hzz⟩
   obtain⟨i,z,hi,hzz⟩:=hz'
   have hzr:∀w,(zeroValue e).run P w= .ok z w:=fun w=>by simp[zeroValue,typeInfo,hi,hzz]
   generalize hcs:((Array.range (n*P.cellsOf e)).map ((if n*P.cellsOf e=0 then #[]else z.cells)[· %(if n*P.cellsOf e=0 then(#[]:Array Value)else z.cells).size]!))=cs0
   have hcs0:cs0.size=n*P.cellsOf e:=by rw[← hcs];simp
   obtain⟨cs',f1,f2,vs1,f3,f4⟩:=vq (w:=w) (G:=G1) (K:=P.cellsOf e) (ps:=ps.toList.map fun p=>(p.1,a.eval p.2)) (cs:=cs0) (j:=0) (n:=n) (ds:=ds) (vs0:=[]) (by simp[hl]) hk
    (fun i p hp=>by
     simp only[gP,Option.map_eq_some_iff]at hp
     obtain⟨q,hq,rfl⟩:=hp
     obtain⟨g1,d,g2,g3⟩:=hr i q hq
     exact⟨g1,d,g2,g3⟩)
    hcs0 (by rw[List.length_map];omega) (by simp)
   simp only[List.nil_append]at f3
   have hgr:=mz (w:=w) (G:=G1) hw.rel.fresh (.cells cs' e) .ret
   refine .made hw hgr rfl (x:=.slice (some ⟨w.heap.size,0,none⟩) n n) ?_ ?_
   ·have hfill:Instr.fill (fun i=>some (i*P.cellsOf e,P.cellsOf e)) cs0 (ps.map fun x=>(x.fst,a.eval x.snd)).toList=some cs':=by
     rw[Array.toList_map];exact f1
    have hno:¬ n*P.cellsOf e > 2^24:=by omega
    by_cases hz0:n*P.cellsOf e=0
    ·rw[if_pos hz0]at hcs
     simp only[execOp,hop,Instr.buildSlice,Sem.run_bind,run_underlying ht,Result.andThen_ok,eW hc0,if_neg hno,Sem.run_pure,if_pos hz0,hcs,hfill]
     simp[newRow,newObj,Sem.run]
    ·rw[if_neg hz0]at hcs
     simp only[execOp,hop,Instr.buildSlice,Sem.run_bind,run_underlying ht,Result.andThen_ok,eW hc0,if_neg hno,Sem.run_pure,if_neg hz0,hzr,hcs,hfill]
     simp[newRow,newObj,Sem.run]
   ·right
    refine⟨w.heap.size,n,cs',by rw[← hn],by simp[Gh.set],heap_alloc_new w _,?_,by omega,?_,?_,?_⟩
    ·show cs'.size=n*(G1.set _ _).P.cellsOf e
     show cs'.size=n*G1.P.cellsOf e
     rw[hw.prog,hP];exact f2
    ·have:n≤n*P.cellsOf e:=Nat.le_mul_of_pos_right _ (by omega)
     simp only[maxLen];omega
    ·intro x hx
     show _=G1.P.cellsOf e
     rw[hw.prog,hP];exact hk x hx
    ·have:(cs'.toList.take (ds.length*(G1.set w.heap.size .ret).P.cellsOf e))=vs1:=by
      show cs'.toList.take (ds.length*G1.P.cellsOf e)=vs1
      rw[hw.prog,hP,f3,List.take_of_length_le]
      rw[← f3];simp[f2,hn]
     rw[this]
     exact f4.mono hgr.kept.mono
  ·cases ho
 ·cases ho
theorem lg(zs:Array Value)(h0:0 < zs.size):∀n:Nat,(madeCells zs (n*zs.size)).toList=(List.replicate n zs.toList).flatten
 |0=>by simp[madeCells]
 |n+1=>by
  have ih:=lg zs h0 n
  have hsp:(List.range ((n+1)*zs.size))=List.range (n*zs.size)++(List.range zs.size).map (n*zs.size+ ·):=by
   rw[Nat.add_mul,Nat.one_mul,List.range_add]
  have hr:List.replicate (n+1) zs.toList=List.replicate n zs.toList++[zs.toList]:=by rw[List.replicate_succ']
  rw[hr,List.flatten_append,← ih]
  simp only[madeCells,Array.toList_map,Array.toList_range,hsp,List.map_append,List.map_map,List.flatten_cons,List.flatten_nil,List.append_nil]
  congr 1
  apply List.ext_getElem
  ·simp
  ·intro i h1 h2
   simp at h1
   have:(n*zs.size+i)%zs.size=i:=by rw[Nat.mul_comm,Nat.mul_add_mod];exact Nat.mod_eq_of_lt h1
   simp[this,h1]
theorem jV{z:au}{zv:Value}(h:cU w G z zv):∀n:Nat,cn w G (bx (List.replicate n z)) (List.replicate n zv.cells.toList).flatten
 |0=>.nil
 |n+1=>by
  simp only[List.replicate_succ,bx,List.flatMap_cons,List.flatten_cons]
  exact h.cells.append (jV h n)
theorem yN{t:TypeId}{n m:Operand}(h:Rel w G s a)(hP:G.P=P)(hop:o.op= .makeSlice t n m)(ho:makeSliceOp P s t n m=some (sv,es)):jP P o w G s a sv es:=by
 unfold makeSliceOp at ho
 split at ho
 ·rename_i e ht
  simp only[ae]at ho
  obtain⟨⟨k1,x⟩,hx,⟨k2,y⟩,hy,z,hz,ho⟩:=ho
  split at ho
  ·rename_i hc
   obtain⟨h0,hxy,hroom,hby,hzl⟩:=hc
   simp only at hxy;subst hxy
   simp only[sJ,pJ]at ho
   obtain⟨rfl,rfl⟩:=ho
   obtain⟨zv,i,hi,hzz,hzr,hzv,hc0⟩:=qj (P:=P) (w:=w) (G:=G) hz
   obtain⟨n0,rfl⟩:=Int.eq_ofNat_of_zero_le h0
   simp only[Int.toNat_natCast]at hroom ⊢
   have hcl:P.cellsOf e=i.size:=by simp[Program.cellsOf,hi]
   have hbl:P.bytesOf e=i.bytes:=by simp[Program.bytesOf,hi]
   have hle:n0≤n0*P.bytesOf e:=Nat.le_mul_of_pos_right _ hby
   have hzs:zv.cells.size=P.cellsOf e:=by have:=hzv.cells.length;simp at this;omega
   simp only[dU]at hroom
   have hb2:(i.bytes:Int)*(n0:Int)≤281474976710656:=by
    rw[hbl]at hroom
    have:((n0*i.bytes:Nat):Int)≤281474976710656:=by omega
    rwa[Int.natCast_mul,Int.mul_comm]at this
   have hmk:=run_make (P:=P) w t e i zv ht hi hzz k1 k2 n0 n0 (by omega) (Int.le_refl _) hb2 (by omega)
   simp only[Int.toNat_natCast]at hmk
   rw[← hcl]at hmk
   have hgr:=mz (w:=w) (G:=G) h.fresh (.cells (madeCells zv.cells (n0*P.cellsOf e)) e) .ret
   refine .made (.none h) hgr rfl (x:=.slice (some ⟨w.heap.size,0,none⟩) n0 n0) ?_ ?_
   ·simp only[execOp,hop,h.asInt hx,h.asInt hy,Sem.run_bind,hmk,Result.andThen_ok,Sem.run_pure]
   ·right
    have hlen:(List.replicate n0 z).length=n0:=by simp
    refine⟨w.heap.size,n0,madeCells zv.cells (n0*P.cellsOf e),by rw[hlen],by simp[Gh.set],heap_alloc_new w _,?_,by omega,by simp only[maxLen];omega,?_,?_⟩
    ·show _=n0*G.P.cellsOf e
     rw[hP,size_madeCells]
    ·intro x hx
     show _=G.P.cellsOf e
     rw[hP,(List.mem_replicate.1 hx).2];exact hzl
    ·have:(madeCells zv.cells (n0*P.cellsOf e)).toList.take ((List.replicate n0 z).length*(G.set w.heap.size .ret).P.cellsOf e)=(List.replicate n0 zv.cells.toList).flatten:=by
      show List.take (_*G.P.cellsOf e) _=_
      rw[hlen,hP,List.take_of_length_le (by simp[size_madeCells]),← hzs]
      exact lg zv.cells (by omega) n0
     rw[this]
     exact(jV hzv n0).mono hgr.kept.mono
  ·cases ho
 ·cases ho
def Gh.var(G:Gh)(b:Nat):Gh:=⟨G.P,fun x=>if x=b then .box G.n else if G.g x= .ret then .cell G.n 0 else G.g x,fun l=>if l=G.n then b else G.ι l,G.n+1⟩
theorem kS(w:World)(G:Gh)(ob:Obj):uw w G (w.alloc ob) (G.var w.heap.size) where
 g b hb hl:=⟨by simp only[Gh.var];rw[if_neg (by omega),hb,if_neg (by decide)],heap_alloc_old w ob b hl⟩
 size:=by simp
 n:=by simp[Gh.var]
 ι l hl:=by simp only[Gh.var];rw[if_neg (by omega)]
 P:=rfl
theorem anp(w:World)(G:Gh)(ob:Obj):Kept w G (w.alloc ob) (G.var w.heap.size) where
 os:=rfl
 tape:=rfl
 output:=rfl
 size:=by simp
 imm b hb hl:=⟨by simp only[Gh.var];rw[if_neg (by omega),hb,if_neg (by decide)],heap_alloc_old w ob b hl⟩
 other b hb hl:=⟨by simp only[Gh.var];rw[if_neg (by omega),hb,if_neg (by decide)],heap_alloc_old w ob b hl⟩
 n:=by simp[Gh.var]
 ι l hl:=by simp only[Gh.var];rw[if_neg (by omega)]
 P:=rfl
theorem cp.var{t t':Tag}{k:Nat}{xs:List au}{v:Value}(ob:Obj)(hr:cp w G t k xs v)(ht:t'=if t= .ret then .cell G.n 0 else t):cp (w.alloc ob) (G.var w.heap.size) t' k xs v:=by
 rcases hr with hr|⟨b,cap,arr,h1,h2,h3,h4,h5,h6,h7,h8⟩
 ·exact .inl hr
 ·have hb:=im h3
  refine .inr ⟨b,cap,arr,h1,?_,by rw[heap_alloc_old w ob b hb];exact h3,h4,h5,h6,h7,h8.mono (kS w G ob)⟩
  simp only[Gh.var];rw[if_neg (by omega),h2,ht]
theorem dK.var{t t':Tag}{c:CV}{v:Value}(ob:Obj)(hr:dK w G t c v)(ht:t'=if t= .ret then .cell G.n 0 else t):dK (w.alloc ob) (G.var w.heap.size) t' c v:=by
 cases c with
 |val d=>exact cU.mono (kS w G ob) hr
 |nil=>exact hr
 |row k xs=>exact cp.var ob hr ht
 |dead=>trivial
theorem amD{h:nj w G s.box}{ob:dB}{r:fb}{q:Nat×List au}(hq:s.rowAt r=some q):(s.eff (.new ob)).rowAt r=some q:=by
 cases r with
 |slot i=>exact hq
 |cell l i=>
  simp only[St.rowAt]at hq ⊢
  split at hq
  ·rename_i k xs hc
   obtain⟨cs,hcs,_⟩:=gj hc (by simp)
   have hl:=(h.obj l _ hcs).1
   have:(s.eff (.new ob)).box.cell l i=s.box.cell l i:=by
    simp only[St.eff,bn.new,bn.cell];rw[if_neg (by omega)]
   rw[this,hc];simpa using hq
  ·cases hq
theorem Rel.new(h:Rel w G s a){ob:Obj}{bo:dB}(hob:gG (w.alloc ob) (G.var w.heap.size) s.box.n bo):Rel (w.alloc ob) (G.var w.heap.size) (s.eff (.new bo)) a:=by
 have hn:=h.heap.n
 refine⟨fun i=>?_,⟨?_,fun l o' ho=>?_⟩,fun b hb=>?_⟩
 ·refine(h.slots i).moveTo (kS w G ob) (fun k xs _ hr=>hr.var ob (by rw[if_neg (by intro e;cases e)])) (fun r q hq=>⟨amD (h:=h.heap) hq,fun v hv=>?_⟩)
  cases r with
  |slot i=>exact hv
  |cell l i=>
   simp only[St.rowAt]at hq
   split at hq
   ·rename_i k xs hc
    obtain⟨cs,hcs,_⟩:=gj hc (by simp)
    have hl:=(h.heap.obj l _ hcs).1
    simp only[dn]at hv ⊢
    rw[(kS w G ob).ι l (by omega)]
    exact mg (heap_alloc_old w ob _ (tV hv)) hv
   ·cases hq
 ·simp only[Gh.var,St.eff,bn.new,hn]
 ·simp only[St.eff,bn.new]at ho ⊢
  by_cases e:l=s.box.n
  ·subst e
   simp only[if_true,sJ]at ho
   subst ho
   exact⟨by omega,hob⟩
  ·rw[if_neg e]at ho
   obtain⟨hl,hobj⟩:=h.heap.obj l o' ho
   refine⟨by omega,?_⟩
   have hι:(G.var w.heap.size).ι l=G.ι l:=(kS w G ob).ι l (by omega)
   cases o' with
   |cells cs=>
    obtain⟨h1,arr,e',fr,h2,h3,h4,h5⟩:=hobj
    have hb:=im h2
    refine⟨by rw[hι];simp only[Gh.var];rw[if_neg (by omega),h1,if_neg (by intro e;cases e)],arr,e',fr,by rw[hι,heap_alloc_old w ob _ hb];exact h2,h3,h4,fun i c v hc hv=>⟨?_,(h5 i c v hc hv).2⟩⟩
    exact dK.var ob (h5 i c v hc hv).1 (by rw[if_neg (by intro e;cases e)])
   |map kt es=>
    obtain⟨h1,hk,ents,clock,h2,h3,h4⟩:=hobj
    have hb:=im h2
    exact⟨by rw[hι];simp only[Gh.var];rw[if_neg (by omega),h1,if_neg (by intro e;cases e)],hk,ents,clock,by rw[hι,heap_alloc_old w ob _ hb];exact h2,h3,fun i e m he hm=>⟨((h4 i e m he hm).1).mono (kS w G ob),((h4 i e m he hm).2).mono (kS w G ob)⟩⟩
 ·have:w.heap.size < b:=by simp at hb;omega
  simp only[Gh.var];rw[if_neg (by omega),h.fresh b (by omega),if_neg (by decide)]
variable{P:Program}{o:Oper}{w:World}{G:Gh}{s:St}{a:Act}{sv:SV}{es:List Eff}
theorem xB(G:Gh)(b:Nat):(G.var b).ι G.n=b:=by simp[Gh.var]
theorem atX(G:Gh)(b:Nat):(G.var b).g b= .box G.n:=by simp[Gh.var]
theorem jP.var{G1:Gh}(hw:uM w G s a es G1){ob:Obj}{bo:dB}(hob:gG (w.alloc ob) (G1.var w.heap.size) G1.n bo){x:Value}
  (hr:(execOp a.eval o).run P w= .ok (.value x) (w.alloc ob)) (hv:ez (w.alloc ob) (G1.var w.heap.size) ((s.effs es).eff (.new bo)) a .ret sv x):jP P o w G s a sv (es++[.new bo]):=by
 have hn:=hw.rel.heap.n
 refine⟨x,_,_,.inl hr,hw.kept.trans (anp w G1 ob),?_,?_⟩
 ·rw[eX];exact hw.rel.new (by rw[← hn];exact hob)
 ·rw[eX];exact hv
theorem aob{t:TypeId}(h:Rel w G s a)(hop:o.op= .alloc t)(ho:((cd P t).bind fun z=>if z.length=0∨(je z).isNone then none else some ((SV.cv (.val (.ptr (some (s.box.n,0))))),[Eff.new (.cells z)]))=some (sv,es)):jP P o w G s a sv es:=by
 simp only[ae]at ho
 obtain⟨cs,hz,ho⟩:=ho
 split at ho
 ·cases ho
 rename_i hcond
 simp only[sJ,pJ]at ho
 obtain⟨rfl,rfl⟩:=ho
 obtain⟨ds,hds⟩:∃ds,je cs=some ds:=by
  cases hq:je cs with
  |none=>exact absurd (.inr (by rw[hq];rfl)) hcond
  |some ds=>exact⟨ds,rfl⟩
 obtain⟨z,i,hi,hzz,hzr,hm,_⟩:=pg (w:=w) hz
 have hn:=h.heap.n
 refine jP.var (.none h) (ob:=.cells z.cells t) ⟨?_,z.cells,t,(0,0),?_,?_,?_,?_⟩ (x:=.pointer (some ⟨w.heap.size,0,none⟩)) ?_ ?_
 ·rw[xB];exact atX G _
 ·rw[xB];exact heap_alloc_new w _
 ·intro i hi;simp
 ·rw[← hm];simp
 ·intro j c v hc hv
  have hc0:=hc
  rw[← hm]at hc
  simp only[gP,hv,Option.map_some,sJ]at hc
  obtain⟨h1,h2,h3⟩:=qO (w:=w.alloc (.cells z.cells t)) (G:=G.var w.heap.size) (t:=.cell G.n j) v
  rw[hc]at h1 h2 h3
  exact⟨h1,h2 (fun e=>by subst e;exact absurd hc0 (qn hds))⟩
 ·simp[execOp,hop,Instr.alloc,Sem.run_bind,hzr,newVar,newRow,newObj,Sem.run]
 ·show cU _ _ _ _
  rw[← hn]
  have:=cU.ptr (w:=w.alloc (.cells z.cells t)) (G:=G.var w.heap.size) G.n 0 (by simp[Gh.var])
  rwa[xB]at this
theorem Rel.asCells(h:Rel w G s a){x:Operand}{cs:List CV}{es:List Eff}(hd:s.asCells x=some (cs,es)):
  ∃G',uM w G s a es G'∧(a.eval x).cells.size=cs.length∧(∀(j:Nat) (c:CV) (u:Value),cs[j]? =some c→(a.eval x).cells[j]? =some u→dK w G' .ret c u∧u.oneCell'=true∧c≠ .dead)∧(eQ cs=true→cs.length=1):=by
 have ho:=h.opv x
 have single:∀(G':Gh) (c:CV),dK w G' .ret c (a.eval x)→(a.eval x).oneCell'=true→c≠ .dead→((a.eval x).cells.size=[c].length∧∀(j:Nat) (c':CV) (u:Value),[c][j]? =some c'→(a.eval x).cells[j]? =some u→dK w G' .ret c' u∧u.oneCell'=true∧c'≠ .dead):=fun G' c hr h1 hnd=>by
  have hcl:(a.eval x).cells= #[a.eval x]:=by
   generalize a.eval x=v at h1 ⊢
   cases v <;> first|rfl|simp[Value.oneCell']at h1
  rw[hcl]
  refine⟨rfl,fun j c' u hc hu=>?_⟩
  cases j with
  |zero=>simp at hc hu;subst hc;subst hu;exact⟨hr,h1,hnd⟩
  |succ j=>simp at hc
 unfold St.asCells at hd
 split at hd
 ·rename_i d he
  simp only[sJ,pJ]at hd
  obtain⟨rfl,rfl⟩:=hd
  rw[he]at ho
  have ho':cU w G d (a.eval x):=ho
  have hc:=ho'.cells
  refine⟨G,.none h,by have:=hc.length;simpa using this,fun j c u hcj hu=>?_,fun hr=>?_⟩
  ·simp only[gP,Option.map_eq_some_iff]at hcj
   obtain⟨d',hd',rfl⟩:=hcj
   obtain⟨v,hv,h1,hrv⟩:=hc.get _ _ hd'
   have:v=u:=by
    have hu':(a.eval x).cells.toList[j]? =some u:=by simpa using hu
    rw[hv]at hu';exact sI hu'
   subst this
   exact⟨hrv,hrv.oneV h1,by simp⟩
  ·have:∀l:List au,eQ (l.map CV.val)=false:=fun l=>by induction l <;> simp_all[eQ,CV.isRow]
   rw[this]at hr;cases hr
 ·rename_i he
  simp only[sJ,pJ]at hd
  obtain⟨rfl,rfl⟩:=hd
  rw[he]at ho
  obtain⟨b,hb⟩:=ho
  obtain⟨h1,h2⟩:=single G .nil ⟨b,hb⟩ (by rw[hb];rfl) (by simp)
  exact⟨G,.none h,h1,h2,fun _=>rfl⟩
 ·rename_i k xs he
  simp only[sJ,pJ]at hd
  obtain⟨rfl,rfl⟩:=hd
  obtain⟨t,rfl⟩:=il he (fun v=>jB v k xs) (fun f e=>by cases e) (fun e=>by cases e)
  rw[he]at ho
  have hr:cp w (G.re (.slot t) .ret) .ret k xs (a.eval (.tmp t)):=cp.retag ho (by intro e;cases e)
  obtain⟨h1,h2⟩:=single _ (.row k xs) hr (by
   obtain⟨A,n,he⟩:=hr.reads.len'
   rw[he];rfl) (by simp)
  exact⟨_,⟨h.kill (.slot t),dJ w G (.slot t) .ret⟩,h1,h2,fun _=>rfl⟩
 ·rename_i r he
  rw[he]at ho
  simp only[ae,sJ,pJ]at hd
  obtain⟨p,hp,rfl,rfl⟩:=hd
  obtain⟨v,hv,hrow⟩:=h.row (k:=p.1) (xs:=p.2) hp
  obtain⟨_,hv'⟩:=ho
  have hvv:=cJ hv' hv
  have hf:=hrow.fixed (by cases r <;> (intro e;cases e))
  rw[← hvv]at hf
  obtain⟨h1,h2⟩:=single _ (.val (.sl p.2)) hf (hf.oneV rfl) (by simp)
  exact⟨_,⟨h.fix (k:=p.1) hp,dJ w G r .imm⟩,h1,h2,fun _=>rfl⟩
 ·rename_i cs' he
  simp only[sJ,pJ]at hd
  obtain⟨rfl,rfl⟩:=hd
  rw[he]at ho
  obtain⟨vs,hv,hsz,hr⟩:=ho
  refine⟨G,.none h,by rw[hv];exact hsz,fun j c u hc hu=>?_,fun hrow=>?_⟩
  ·rw[hv]at hu
   obtain⟨g1,g2,g3⟩:=hr j c u hc hu
   cases c with
   |val d=>exact⟨g2,g3,by simp⟩
   |nil=>exact⟨g2,g3,by simp⟩
   |row k xs=>simp at g1
   |dead=>simp at g1
  ·exfalso
   have:∀cs:List CV,(∀(j:Nat) c,cs[j]? =some c→(c matches .val _|.nil))→eQ cs=false:=by
    intro cs
    induction cs with
    |nil=>intro _;rfl
    |cons c cs ih=>
     intro hc
     simp only[eQ,Bool.or_eq_false_iff]
     refine⟨?_,ih fun j c hj=>hc (j+1) c (by simpa using hj)⟩
     have:=hc 0 c rfl
     cases c <;> first|rfl|simp at this
   rw[this cs' (fun j c hc=>by
    have hlt:j < vs.size:=by
     rw[hsz];exact(List.getElem?_eq_some_iff.1 hc).1
    exact(hr j c _ hc (Array.getElem?_eq_getElem hlt)).1)]at hrow
   cases hrow
 ·cases hd
theorem auL{t:TypeId}{x:Operand}(h:Rel w G s a)(hop:o.op= .box t x)
  (ho:((s.asCells x).bind fun c=>if c.1.length=P.cellsOf t∧eQ (c.1.drop 1)=false then some ((SV.cv (.val (.ptr (some (s.box.n,0))))),c.2++[Eff.new (.cells c.1)])else none)=some (sv,es)):jP P o w G s a sv es:=by
 simp only[ae]at ho
 obtain⟨⟨cs,e1⟩,hc,ho⟩:=ho
 split at ho
 ·rename_i hcond
  simp only[sJ,pJ]at ho
  obtain⟨rfl,rfl⟩:=ho
  obtain⟨G1,hw,hsz,hr,hrow⟩:=h.asCells hc
  have hn:=hw.rel.heap.n
  have hn0:s.box.n=(s.effs e1).box.n:=by
   have:∀(e:Eff),(∀ob,e≠ .new ob)→∀s:St,(s.eff e).box.n=s.box.n:=by
    intro e he s
    cases e with
    |kill r=>cases r <;> simp[St.eff,St.setRoot,gR]
    |fix r d=>cases r <;> simp[St.eff,St.setRoot,gR]
    |setRow r k xs=>cases r <;> simp[St.eff,St.setRoot,gR]
    |setCell l i c=>simp[St.eff,gR]
    |new ob=>exact absurd rfl (he ob)
    |setMap l kt es=>rfl
   unfold St.asCells at hc
   split at hc
   all_goals try (simp only[sJ,pJ]at hc;obtain⟨rfl,rfl⟩:=hc)
   all_goals first
    |rfl
    |(simp only[St.effs];exact(this _ (by intro ob e;cases e) s).symm)
    |skip
   ·simp only[ae,sJ,pJ]at hc
    obtain⟨p,hp,rfl,rfl⟩:=hc
    simp only[St.effs];exact(this _ (by intro ob e;cases e) s).symm
   ·cases hc
  refine jP.var hw (ob:=.cells (a.eval x).cells t) ⟨?_,(a.eval x).cells,t,(0,0),?_,?_,?_,?_⟩ (x:=.pointer (some ⟨w.heap.size,0,none⟩)) ?_ ?_
  ·rw[xB];exact atX G1 _
  ·rw[xB];exact heap_alloc_new w _
  ·intro i hi;simp
  ·simpa using hsz
  ·intro j c v hcj hv
   obtain⟨h1,h2,h3⟩:=hr j c v hcj (by simpa using hv)
   refine⟨?_,h2⟩
   by_cases hj:j=0
   ·subst hj
    exact dK.var _ h1 (by simp)
   ·have hnr:c.isRow=false:=nU (j:=j - 1) hcond.2 (by
     rw[List.getElem?_drop]
     have:1+(j - 1)=j:=by omega
     rw[this];exact hcj)
    cases c with
    |val d=>exact cU.mono (kS w G1 _) h1
    |nil=>exact h1
    |row k xs=>cases hnr
    |dead=>trivial
  ·simp[execOp,hop,Instr.box,Sem.run_bind,newVar,newRow,newObj,Sem.run]
  ·show cU _ _ _ _
   rw[hn0,← hn]
   have:=cU.ptr (w:=w.alloc (.cells (a.eval x).cells t)) (G:=G1.var w.heap.size) G1.n 0 (by simp[Gh.var])
   rwa[xB]at this
 ·cases ho
theorem afg{t:TypeId}(h:Rel w G s a)(hP:G.P=P)(hop:o.op= .makeMap t none)
  (ho:(match P.underlying t with|some (.map kt _)=>if (P.underlying kt).isSome then some ((SV.cv (.val (.map (some s.box.n)))),[Eff.new (.map kt [])])else none|_=>none)=some (sv,es)):jP P o w G s a sv es:=by
 split at ho
 ·rename_i kt e ht
  split at ho
  case isFalse=>cases ho
  rename_i hki
  simp only[sJ,pJ]at ho
  obtain⟨rfl,rfl⟩:=ho
  have hn:=h.heap.n
  obtain⟨td,htd⟩:=Option.isSome_iff_exists.1 hki
  refine jP.var (.none h) (ob:=.map #[] 0) (bo:=.map kt []) ⟨?_,⟨td,by show G.P.underlying kt=_;rw[hP];exact htd,by simp⟩,#[],0,?_,⟨rfl,rfl,by simp⟩,by simp⟩ (x:=.map (some w.heap.size)) ?_ ?_
  ·rw[xB];exact atX G _
  ·rw[xB];exact heap_alloc_new w _
  ·simp[execOp,hop,Instr.makeMap,Sem.run_bind,newObj,Sem.run]
  ·show cU _ _ _ _
   rw[← hn]
   have:=cU.map (w:=w.alloc (.map #[] 0)) (G:=G.var w.heap.size) G.n (by simp[Gh.var])
   rwa[xB]at this
 ·cases ho
theorem el{α:Type}:∀(ns:List α) (cs:List α) (i:Nat),(setFrom cs i ns).length=cs.length
 | [],cs,i=>rfl
 |n::ns,cs,i=>by simp only[setFrom];rw[el];simp
theorem oR{α:Type}:∀(ns:List α) (cs:List α) (i q:Nat),i+ns.length≤cs.length→(setFrom cs i ns)[q]? =if i≤q∧q < i+ns.length then ns[q - i]? else cs[q]?
 | [],cs,i,q,_=>by simp only[setFrom,List.length_nil];rw[if_neg (by omega)]
 |n::ns,cs,i,q,h=>by
  simp only[lC]at h
  simp only[setFrom]
  rw[oR ns _ (i+1) q (by simp;omega),set_getElem?,lC]
  by_cases c1:q=i
  ·subst c1
   rw[if_neg (by omega),if_pos ⟨rfl,by omega⟩,if_pos (by omega)];simp
  ·by_cases c2:i+1≤q∧q < i+1+ns.length
   ·rw[if_pos c2,if_pos (by omega)]
    have:q - i=(q - (i+1))+1:=by omega
    rw[this];simp
   ·rw[if_neg c2,if_neg (by omega),if_neg (by omega)]
def akV(w:World)(G:Gh)(cs:List CV)(vs:Array Value):Prop:=
 vs.size=cs.length∧∀(j:Nat) (c:CV) (u:Value),cs[j]? =some c→vs[j]? =some u→(c matches .val _|.nil)∧dK w G .other c u∧u.oneCell'=true
theorem akV.mono{w':World}{G':Gh}{cs:List CV}{vs:Array Value}(M:uw w G w' G')(h:akV w G cs vs):akV w' G' cs vs:=
 ⟨h.1,fun j c u hc hu=>by
  obtain⟨h1,h2,h3⟩:=h.2 j c u hc hu
  refine⟨h1,?_,h3⟩
  cases c with
  |val d=>exact cU.mono M h2
  |nil=>exact h2
  |row k xs=>simp at h1
  |dead=>trivial⟩
theorem akV.laid{cs ns:List CV}{vs:Array Value}{us:Array Value}{off:Nat}(h:akV w G cs vs)(hn:akV w G ns us)(hf:off+ns.length≤cs.length):akV w G (setFrom cs off ns) (laid off us.toList vs):=by
 have hul:us.toList.length=ns.length:=by simpa using hn.1
 have hfit:off+us.toList.length≤vs.size:=by rw[hul,h.1];exact hf
 refine⟨by rw[aak hfit,el];exact h.1,fun j c u hc hu=>?_⟩
 rw[oR _ _ _ _ hf]at hc
 rw[ae1 hfit,hul]at hu
 split at hc
 ·rename_i hq
  rw[if_pos hq]at hu
  exact hn.2 _ c u hc (by simpa using hu)
 ·rename_i hq
  rw[if_neg hq]at hu
  exact h.2 j c u hc hu
theorem wi(h:Rel w G s a){x:Operand}{cs:List CV}{es:List Eff}(hd:partCells s x=some (cs,es)):∃G',uM w G s a es G'∧akV w G' cs (a.eval x).cells:=by
 have ho:=h.opv x
 unfold partCells at hd
 split at hd
 ·rename_i he
  simp only[sJ,pJ]at hd
  obtain⟨rfl,rfl⟩:=hd
  rw[he]at ho
  obtain⟨b,hb⟩:=ho
  rw[hb]
  refine⟨G,.none h,rfl,fun j c u hc hu=>?_⟩
  cases j with
  |zero=>simp[Value.cells]at hc hu;subst hc;subst hu;exact⟨rfl,⟨b,rfl⟩,rfl⟩
  |succ j=>simp at hc
 ·rename_i cs' he
  simp only[sJ,pJ]at hd
  obtain⟨rfl,rfl⟩:=hd
  rw[he]at ho
  obtain⟨vs,hv,hsz,hr⟩:=ho
  rw[hv]
  exact⟨G,.none h,hsz,hr⟩
 ·simp only[ae,sJ,pJ]at hd
  obtain⟨⟨d,e1⟩,hd,rfl,rfl⟩:=hd
  obtain⟨G',hw,hv⟩:=h.asVal hd
  have hc:=hv.cells
  refine⟨G',hw,by have:=hc.length;simpa[ai7]using this,fun j c u hcj hu=>?_⟩
  simp only[ai7,gP,Option.map_eq_some_iff]at hcj
  obtain⟨d',hd',rfl⟩:=hcj
  obtain⟨v,hv',h1,hrv⟩:=hc.get _ _ hd'
  have:v=u:=by
   have hu':(a.eval x).cells.toList[j]? =some u:=by simpa using hu
   rw[hv']at hu';exact sI hu'
  subst this
  exact⟨rfl,hrv,hrv.oneV h1⟩
theorem ls{t:TypeId}{pl:Nat→Option (Nat×Nat)}(hpl:∀i p,place P t i=some p→pl i=some p):∀{ps:List (Nat×Operand)} {G:Gh} {s:St} {cs r:List CV} {es:List Eff} {vs:Array Value},Rel w G s a→akV w G cs vs→buildCells P s t cs ps=some (r,es)→
  ∃G' vs',uM w G s a es G'∧Instr.fill pl vs (ps.map fun p=>(p.1,a.eval p.2))=some vs'∧akV w G' r vs'
 | [],G,s,cs,r,es,vs,h,hb,hd=>by
  simp only[buildCells,sJ,pJ]at hd
  obtain⟨rfl,rfl⟩:=hd
  exact⟨G,vs,.none h,rfl,hb⟩
 |(i,x)::ps,G,s,cs,r,es,vs,h,hb,hd=>by
  simp only[buildCells,ae]at hd
  obtain⟨⟨off,size⟩,hp,⟨ns,e1⟩,hc,hd⟩:=hd
  split at hd
  ·rename_i hcond
   simp only at hcond
   simp only[ae,sJ,pJ]at hd
   obtain⟨⟨r',e2⟩,hd,rfl,rfl⟩:=hd
   obtain⟨G1,w1,hn⟩:=wi h hc
   have hfit:off+ns.length≤cs.length:=by omega
   obtain⟨G2,vs',w2,hf,hr⟩:=ls hpl w1.rel ((hb.mono w1.kept.mono).laid hn hfit) hd
   refine⟨G2,vs',⟨by rw[eX];exact w2.rel,w1.kept.trans w2.kept⟩,?_,hr⟩
   rw[List.map_cons,zh _ _ _ _ _ (hpl i _ hp) (by have:=hn.1;simp only at this ⊢;omega) (by have:=hb.1;omega)]
   exact hf
  ·cases hd
variable{P:Program}{o:Oper}{w:World}{G:Gh}{s:St}{a:Act}{sv:SV}{es:List Eff}
theorem aeS{α β:Type}{f:α→Sem β}{g:α→β}:∀(l:List α),(∀x∈l,(f x).run P w= .ok (g x) w)→(l.mapM f).run P w= .ok (l.map g) w
 | [],_=>by simp
 |x::l,h=>by
  simp only[List.mapM_cons,Sem.run_bind,h x (by simp),Result.andThen_ok,aeS l (fun y hy=>h y (by simp[hy])),Sem.run_pure,List.map_cons]
theorem tp{t:TypeId}(h:(P.info? t).isSome=true)(w:World):(sizeOf t).run P w= .ok (P.cellsOf t) w:=by
 cases hi:P.info? t with
 |none=>rw[hi]at h;cases h
 |some i=>simp[sizeOf,typeInfo,hi,Program.cellsOf]
theorem am9{t:TypeId}{ps:Array (Nat×Operand)}(h:Rel w G s a)(hop:o.op= .build t ps)
  (ho:((cd P t).bind fun z=>if cL P t∧(je z).isSome then(buildCells P s t z ps.toList).bind fun r=>some (SV.bld r.1,r.2)else none)=some (sv,es)):jP P o w G s a sv es:=by
 simp only[ae]at ho
 obtain⟨cs,hz,ho⟩:=ho
 split at ho
 ·rename_i hcond
  simp only[ae,sJ,pJ]at ho
  obtain⟨⟨r,e1⟩,hb,rfl,rfl⟩:=ho
  obtain⟨hf,hds⟩:=hcond
  obtain⟨ds,hds⟩:=Option.isSome_iff_exists.1 hds
  obtain⟨z,i,hi,hzz,hzr,hm,_⟩:=pg (w:=w) hz
  have hzb:akV w G cs z.cells:=by
   refine⟨by rw[← hm];simp,fun j c u hc hu=>?_⟩
   have hc0:=hc
   rw[← hm]at hc
   have hu':z.cells.toList[j]? =some u:=by simpa using hu
   simp only[gP,hu',Option.map_some,sJ]at hc
   obtain⟨h1,h2,h3⟩:=qO (w:=w) (G:=G) (t:=.other) u
   rw[hc]at h1 h2 h3
   cases c with
   |val d=>exact⟨rfl,h1,h2 (by simp)⟩
   |nil=>exact⟨rfl,h1,h2 (by simp)⟩
   |row k xs=>cases h3
   |dead=>exact absurd hc0 (qn hds)
  unfold cL at hf
  split at hf
  ·rename_i fs ht
   have hall:∀f∈fs.toList,(P.info? f.type).isSome=true:=List.all_eq_true.1 hf
   obtain⟨G1,vs',hw,hfill,hr⟩:=ls (P:=P) (t:=t) (pl:=fun i=>(fs.map fun f=>(f.offset,P.cellsOf f.type))[i]?) (fun i p hp=>by
    unfold place at hp
    rw[ht]at hp
    simp only[ae,sJ]at hp
    obtain⟨f,hf,rfl⟩:=hp
    simp[hf]) h hzb hb
   refine .went hw (x:=.agg vs') ?_ ⟨vs',rfl,hr.1,hr.2⟩
   have hpl:(fs.mapM fun f=>do pure (f.offset,← sizeOf f.type):Sem (Array (Nat×Nat))).run P w= .ok (fs.map fun f=>(f.offset,P.cellsOf f.type)) w:=by
    rw[Array.mapM_eq_mapM_toList]
    change Sem.run P ((fs.toList.mapM fun f=>do pure (f.offset,← sizeOf f.type)) >>= fun x=>pure (List.toArray x)) w=_
    rw[Sem.run_bind,aeS (g:=fun f=>(f.offset,P.cellsOf f.type)) fs.toList (fun f hf=>by simp[Sem.run_bind,tp (hall f hf)])]
    simp only[Result.andThen_ok,Sem.run_pure]
    congr 1
    apply Array.ext'
    simp
   have hfill':Instr.fill (fun i=>(fs.map fun f=>(f.offset,P.cellsOf f.type))[i]?) z.cells (ps.map fun x=>(x.fst,a.eval x.snd)).toList=some vs':=by
    rw[Array.toList_map];exact hfill
   simp only[execOp,hop,Instr.build,Sem.run_bind,hzr,Result.andThen_ok,Sem.run_pure,run_underlying ht,hpl,hfill']
  ·rename_i n e ht
   obtain⟨G1,vs',hw,hfill,hr⟩:=ls (P:=P) (t:=t) (pl:=fun i=>some (i*P.cellsOf e,P.cellsOf e)) (fun i p hp=>by
    unfold place at hp
    rw[ht]at hp
    simp only at hp
    split at hp
    ·exact hp
    ·cases hp) h hzb hb
   refine .went hw (x:=.agg vs') ?_ ⟨vs',rfl,hr.1,hr.2⟩
   have hfill':Instr.fill (fun i=>some (i*P.cellsOf e,P.cellsOf e)) z.cells (ps.map fun x=>(x.fst,a.eval x.snd)).toList=some vs':=by
    rw[Array.toList_map];exact hfill
   simp only[execOp,hop,Instr.build,Sem.run_bind,hzr,Result.andThen_ok,Sem.run_pure,run_underlying ht,tp hf,hfill']
  ·cases hf
 ·cases ho
theorem vm(b:ByteArray):cn w G (lK b) (b.data.toList.map fun c=>Value.int .u8 c.toNat):=by
 unfold lK
 induction b.data.toList with
 |nil=>exact .nil
 |cons c l ih=>exact .cons _ _ _ _ rfl (.int _ _) ih
theorem qz(b:ByteArray):∀x∈lK b,x.one=true:=by
 intro x hx
 simp only[lK,List.mem_map]at hx
 obtain⟨c,_,rfl⟩:=hx
 rfl
theorem akY{x:au}(h:x.one=true):x.cells.length=1:=by cases x <;> first|rfl|simp[au.one]at h
theorem uk{src dst:TypeId}{x:Operand}{e:TypeId}(h:Rel w G s a)(hop:o.op= .convert src dst x)(ho:convertOp P s src dst x=some (sv,es))(hd:P.underlying dst=some (.slice e))(hs:P.underlying src=some .string):jP P o w G s a sv es:=by
 unfold convertOp at ho
 rw[hs,hd]at ho
 simp only at ho
 split at ho
 ·rename_i he
  have hue:=wK he
  simp only[ae]at ho
  obtain⟨d,hx,ho⟩:=ho
  have hv:=h.optVal hx
  cases d with
  |str b=>
   generalize hu:a.eval x=u at hv
   cases hv
   simp only[Val.ret,sJ,pJ]at ho
   obtain⟨rfl,rfl⟩:=ho
   have h1:=Lib.run_convert_string_bytes (P:=P) w src dst e b hs hd hue
   have hge:b.size≤grownCap w b.size 0 e:=grownCap_ge w b.size 0 e
   generalize hw':Lib.bytesWorld w e b=w' at h1
   generalize grownCap w b.size 0 e=cap at h1 hge
   have hsz:w'.heap.size=w.heap.size+1:=by rw[← hw'];exact Lib.bytesWorld_size w e b
   have hnew:w'.heap[w.heap.size]? =some (.cells (Lib.bytesCells w e b) e ((Lib.bytesCells w e b).size,(Lib.bytesCells w e b).size+1)):=by rw[← hw'];exact Lib.bytesWorld_at_new w e b
   have h7:(Lib.bytesCells w e b).toList.take b.size=b.data.toList.map fun c=>Value.int .u8 c.toNat:=by
    simp only[Lib.bytesCells,Array.toList_append,Array.toList_map]
    rw[List.take_append_of_le_length (by simp),List.take_of_length_le (by simp)]
   have hgr:jb w G w' (G.set w.heap.size .imm):={
    os:=by rw[← hw'];rfl
    tape:=by rw[← hw'];rfl
    output:=by rw[← hw'];rfl
    size:=by omega
    heap:=fun j hj=>by rw[← hw'];exact Lib.bytesWorld_at_old w e b j hj
    g:=fun b hb=>by simp only[Gh.set];rw[if_neg (by omega)]
    fresh:=fun b hb=>by simp only[Gh.set];rw[if_neg (by omega)];exact h.fresh b (by omega)
    n:=nR _
    ι:=fun _ _=>rfl
    P:=rfl }
   refine .made (.none h) hgr rfl (x:=.slice (some ⟨w.heap.size,0,none⟩) b.size cap) (by simp only[execOp,hop,hu,Sem.run_bind,h1,Result.andThen_ok,Sem.run_pure]) ?_
   show cU _ _ _ _
   have hlen:(lK b).length=b.size:=by simp[lK]
   by_cases hb:lK b=[]
   ·rw[hb]at hlen ⊢
    rw[← hlen];exact .nilsl _ _
   ·rw[← hlen]
    refine .sl _ _ cap 1 (b.data.toList.map fun c=>Value.int .u8 c.toNat) hb (by omega) (by simp[Gh.set]) (by show w.heap.size < w'.heap.size;omega) rfl (fun x hx=>akY (qz b x hx)) ?_ ?_
    ·rw[kP (qz b)];exact vm b
    ·rw[← h7];exact oJ hnew _
  |_=>simp at ho
 ·cases ho
variable{P:Program}{o:Oper}{w:World}{G:Gh}{s:St}{a:Act}{sv:SV}{es:List Eff}
structure om(w:World)(G:Gh)(b:Nat)(w':World)(G':Gh):Prop where
 os:w'.os=w.os
 tape:w'.tape=w.tape
 output:w'.output=w.output
 size:w'.heap.size=w.heap.size
 heap:∀k,k≠b→w'.heap[k]? =w.heap[k]?
 own:G.g b≠ .imm∧G.g b≠ .other
 g:∀k,G.g k≠ .ret→G'.g k=G.g k
 n:G'.n=G.n
 ι:∀l,G'.ι l=G.ι l
 P:G'.P=G.P
theorem om.kept{b:Nat}{w':World}{G':Gh}(h:om w G b w' G'):Kept w G w' G' where
 os:=h.os
 tape:=h.tape
 output:=h.output
 size:=by rw[h.size];exact nR _
 imm k hk _:=⟨by rw[h.g k (by rw[hk];decide)];exact hk,h.heap k (fun e=>h.own.1 (e ▸ hk))⟩
 other k hk _:=⟨by rw[h.g k (by rw[hk];decide)];exact hk,h.heap k (fun e=>h.own.2 (e ▸ hk))⟩
 n:=by rw[h.n];exact nR _
 ι l _:=h.ι l
 P:=h.P
theorem om.row{b:Nat}{w':World}{G':Gh}(h:om w G b w' G'){t:Tag}{k:Nat}{xs:List au}{v:Value}(hr:cp w G t k xs v)(ht:t≠ .ret)(hb:t≠G.g b):cp w' G' t k xs v:=by
 rcases hr with hr|⟨b',cap,arr,h1,h2,h3,h4,h5,h6,h7,h8⟩
 ·exact .inl hr
 ·exact .inr ⟨b',cap,arr,h1,by rw[h.g b' (by rw[h2];exact ht)];exact h2,by rw[h.heap b' (fun e=>hb (by rw[← e,h2]))];exact h3,by rw[h.P];exact h4,h5,h6,by rw[h.P];exact h7,by rw[h.P];exact h8.mono h.kept.mono⟩
theorem om.cv{b:Nat}{w':World}{G':Gh}(h:om w G b w' G'){t:Tag}{c:CV}{v:Value}(hr:dK w G t c v)(ht:t≠ .ret)(hb:t≠G.g b):dK w' G' t c v:=by
 cases c with
 |val d=>exact cU.mono h.kept.mono hr
 |nil=>exact hr
 |row k xs=>exact h.row hr ht hb
 |dead=>trivial
theorem om.obj{b:Nat}{w':World}{G':Gh}(h:om w G b w' G'){m:Nat}{ob:dB}(ho:gG w G m ob)(hb:G.g b≠ .box m)(hc:∀j,G.g b≠ .cell m j):gG w' G' m ob:=by
 cases ob with
 |map kt es=>
  obtain⟨htm,hk,ents,clock,h2,h3,h4⟩:=ho
  exact⟨by rw[h.ι,h.g _ (by rw[htm];intro e;cases e)];exact htm,by rw[h.P];exact hk,ents,clock,by rw[h.ι,h.heap _ (fun e=>hb (by rw[← e,htm]))];exact h2,h3,fun i e m he hm=>⟨((h4 i e m he hm).1).mono h.kept.mono,((h4 i e m he hm).2).mono h.kept.mono⟩⟩
 |cells cs=>
  obtain⟨htm,arr,e,fr,h2,h3,h4,h5⟩:=ho
  exact⟨by rw[h.ι,h.g _ (by rw[htm];intro e;cases e)];exact htm,arr,e,fr,by rw[h.ι,h.heap _ (fun e=>hb (by rw[← e,htm]))];exact h2,h3,h4,fun j c' u hj hu=>⟨h.cv (h5 j c' u hj hu).1 (by intro e;cases e) (fun e=>hc j e.symm),(h5 j c' u hj hu).2⟩⟩
theorem Rel.tag(h:Rel w G s a){l:Nat}{ob:dB}(hl:s.box.at_ l=some ob):G.g (G.ι l)= .box l:=by
 have:=(h.heap.obj l ob hl).2
 cases ob with
 |cells cs=>exact this.1
 |map kt es=>exact this.1
theorem nM{b i:Nat}{arr:Array Value}{e:TypeId}{fr:Nat×Nat}{v:Value}(hw:w.heap[b]? =some (.cells arr e fr)):(w.setCell ⟨b,i,none⟩ v).heap[b]? =some (.cells (arr.setIfInBounds i v) e fr):=by
 simp[World.setCell,Array.getElem?_modify,hw]
theorem rA(b:Addr)(v:Value):(w.setCell b v).heap.size=w.heap.size:=by simp[World.setCell]
theorem pT{b i:Nat}{v:Value}{t:Tag}(h1:G.g b≠ .imm)(h2:G.g b≠ .other):om w G b (w.setCell ⟨b,i,none⟩ v) (G.re .ret t) where
 os:=rfl
 tape:=rfl
 output:=rfl
 size:=rA _ _
 heap k hk:=heap_setCell_other w _ k v hk
 own:=⟨h1,h2⟩
 g k hk:=by simp only[Gh.re];rw[if_neg hk]
 n:=rfl
 ι _:=rfl
 P:=rfl
theorem oH(h:Rel w G s a)(l i:Nat)(c:CV)(j:Nat):(s.eff (.setCell l i c)).get j=(s.get j).drop (fun r=>decide (r= .cell l i)):=by
 simp only[St.eff,St.get]
 split
 ·rw[ic _ rfl];rfl
 ·rename_i hx
  have:s.rowAt (.cell l i)=none:=by
   simp only[St.rowAt]
  exact(h.no_alias this j).symm
theorem uz{b i b' i':Nat}{v u:Value}(hne:¬ (b'=b∧i'=i))(hu:w.cell? ⟨b',i',none⟩=some u):(w.setCell ⟨b,i,none⟩ v).cell? ⟨b',i',none⟩=some u:=by
 by_cases e:b'=b
 ·subst e
  have hi:i≠i':=fun e=>hne ⟨rfl,e.symm⟩
  unfold World.cell? at hu ⊢
  cases hw:w.heap[b']? with
  |none=>rw[hw]at hu;cases hu
  |some ob=>
   rw[hw]at hu
   cases ob with
   |cells arr e fr=>
    rw[nM hw]
    simp only at hu ⊢
    rw[Array.getElem?_setIfInBounds_ne hi]
    exact hu
   |_=>cases hu
 ·exact mg (heap_setCell_other w _ b' v e) hu
theorem Rel.setCell(h:Rel w G s a){l i:Nat}{cs:List CV}{c:CV}{v:Value}(hl:s.box.at_ l=some (.cells cs))(hi:i < cs.length)(hc:dK w G .ret c v)(h1:v.oneCell'=true):
  Rel (w.setCell ⟨G.ι l,i,none⟩ v) (G.re .ret (.cell l i)) (s.eff (.setCell l i c)) a:=by
 have htag:=h.tag hl
 have W:=pT (w:=w) (G:=G) (b:=G.ι l) (i:=i) (v:=v) (t:=.cell l i) (by rw[htag];intro e;cases e) (by rw[htag];intro e;cases e)
 have M:=W.kept.mono
 refine⟨fun j=>?_,?_,fun b hb=>?_⟩
 ·rw[oH h]
  refine ez.move _ M (fun k xs _ hr=>W.row hr (by intro e;cases e) (by rw[htag];intro e;cases e)) (fun r hr q hq=>?_) (h.slots j)
  have hne:r≠ .cell l i:=by simpa using hr
  cases r with
  |slot i'=>
   refine⟨?_,fun v hv=>hv⟩
   simp only[St.rowAt]at hq ⊢
   rw[oH h]
   split at hq
   ·rename_i k xs he;rw[he];simpa[SV.drop]using hq
   ·cases hq
  |cell m j'=>
   have hmj:¬ (m=l∧j'=i):=fun e=>hne (by rw[e.1,e.2])
   refine⟨?_,fun u hu=>?_⟩
   ·simp only[St.rowAt,St.eff]at hq ⊢
    rw[kU _ _ _ _ _ _ hmj];exact hq
   ·simp only[dn]at hu ⊢
    refine uz (fun e=>?_) hu
    simp only[St.rowAt]at hq
    split at hq
    ·rename_i k xs hcc
     obtain⟨cs',hcs',_⟩:=gj hcc (by simp)
     have ht:=h.tag hcs'
     have e1:G.ι m=G.ι l:=e.1
     rw[e1,htag]at ht
     cases ht
     exact hmj ⟨rfl,e.2⟩
    ·cases hq
 ·refine⟨?_,fun m ob ho=>?_⟩
  ·simp only[St.eff,gR];exact h.heap.n
  ·simp only[St.eff]at ho ⊢
   rw[iw]at ho
   rw[gR]
   cases hm:s.box.at_ m with
   |none=>rw[hm]at ho;cases ho
   |some ob'=>
    rw[hm]at ho
    obtain⟨hlt,hobj⟩:=h.heap.obj m ob' hm
    have htm:=h.tag hm
    refine⟨hlt,?_⟩
    cases ob' with
    |map kt es=>
     simp only at ho;cases ho
     obtain⟨_,hk,ents,clock,h2,h3,h4⟩:=hobj
     have hne:G.ι m≠G.ι l:=fun e=>by
      rw[e,htag]at htm
      cases htm
      rw[hl]at hm;cases hm
     exact⟨by rw[W.ι,W.g _ (by rw[htm];intro e;cases e)];exact htm,hk,ents,clock,by rw[W.ι,W.heap _ hne];exact h2,h3,fun i e m he hm=>⟨((h4 i e m he hm).1).mono M,((h4 i e m he hm).2).mono M⟩⟩
    |cells cs'=>
     obtain⟨_,arr,e,fr,h2,h3,h4,h5⟩:=hobj
     simp only at ho
     by_cases em:m=l
     ·subst em
      rw[hl]at hm;cases hm
      simp only[if_true,sJ]at ho
      subst ho
      refine⟨by rw[W.ι,W.g _ (by rw[htm];intro e;cases e)];exact htm,arr.setIfInBounds i v,e,fr,by rw[W.ι];exact nM h2,by simpa using h3,by simpa using h4,fun j c' u hj hu=>?_⟩
      rw[set_getElem?]at hj
      simp only[Array.toList_setIfInBounds]at hu
      rw[set_getElem?]at hu
      by_cases hij:i=j
      ·subst hij
       rw[if_pos ⟨rfl,hi⟩]at hj
       rw[if_pos ⟨rfl,by omega⟩]at hu
       cases hj;cases hu
       refine⟨?_,h1⟩
       cases c with
       |val d=>exact cU.mono M hc
       |nil=>exact hc
       |dead=>trivial
       |row k xs=>
        rcases hc with hc|⟨b',cap,arr',g1,g2,g3,g4,g5,g6,g7,g8⟩
        ·exact .inl hc
        ·have hbb:b'≠G.ι m:=fun e=>by rw[e,htm]at g2;cases g2
         exact .inr ⟨b',cap,arr',g1,by simp[Gh.re,g2],by rw[W.heap b' hbb];exact g3,g4,g5,g6,g7,g8.mono M⟩
      ·rw[if_neg (fun e=>hij e.1)]at hj hu
       exact⟨W.cv (h5 j c' u hj hu).1 (by intro e;cases e) (by rw[htag];intro e;cases e),(h5 j c' u hj hu).2⟩
     ·rw[if_neg em]at ho
      cases ho
      have hne:G.ι m≠G.ι l:=fun e=>by
       rw[e,htag]at htm
       cases htm
       exact em rfl
      exact⟨by rw[W.ι,W.g _ (by rw[htm];intro e;cases e)];exact htm,arr,e,fr,by rw[W.ι,W.heap _ hne];exact h2,h3,h4,fun j c' u hj hu=>⟨W.cv (h5 j c' u hj hu).1 (by intro e;cases e) (by rw[htag];intro e;cases e),(h5 j c' u hj hu).2⟩⟩
 ·rw[W.size]at hb
  rw[W.g b (by rw[h.fresh b hb];decide)]
  exact h.fresh b hb
theorem uD(s:St)(l i:Nat)(c:CV){cs:List CV}(h:s.box.at_ l=some (.cells cs)):(s.eff (.setCell l i c)).box.at_ l=some (.cells (cs.set i c)):=by
 simp only[St.eff,iw,h,if_true]
theorem Rel.setCells:∀{ns:List CV} {vs:List Value} {w:World} {G:Gh} {s:St} {l i:Nat} {cs:List CV},Rel w G s a→s.box.at_ l=some (.cells cs)→i+ns.length≤cs.length→vs.length=ns.length→
  (∀(j:Nat) (c:CV) (v:Value),ns[j]? =some c→vs[j]? =some v→dK w G .ret c v∧v.oneCell'=true)→eQ (ns.drop 1)=false→
  ∃G',Rel (w.setCells (G.ι l) i vs) G' (s.effs (Val.setCells l i ns)) a∧Kept w G (w.setCells (G.ι l) i vs) G'
 | [],vs,w,G,s,l,i,cs,h,_,_,hl,_,_=>by
  have:vs=[]:=List.eq_nil_of_length_eq_zero (by simpa using hl)
  subst this
  exact⟨G,h,Kept.refl w G⟩
 |c::ns,[],w,G,s,l,i,cs,h,_,_,hl,_,_=>by simp at hl
 |c::ns,v::vs,w,G,s,l,i,cs,h,hat,hi,hl,hr,hnr=>by
  obtain⟨h1,h2⟩:=hr 0 c v rfl rfl
  simp only[lC]at hi hl
  have h':=h.setCell (cs:=cs) (i:=i) hat (by omega) h1 h2
  have htag:=h.tag hat
  have W:=pT (w:=w) (G:=G) (b:=G.ι l) (i:=i) (v:=v) (t:=.cell l i) (by rw[htag];intro e;cases e) (by rw[htag];intro e;cases e)
  simp only[List.drop_succ_cons,List.drop_zero]at hnr
  obtain⟨G',g1,g2⟩:=Rel.setCells (ns:=ns) (vs:=vs) (l:=l) (i:=i+1) (cs:=cs.set i c) h' (uD s l i c hat) (by simp;omega) (by omega)
   (fun j c' v' hc hv=>by
    obtain⟨f1,f2⟩:=hr (j+1) c' v' (by simpa using hc) (by simpa using hv)
    refine⟨?_,f2⟩
    have:=nU hnr hc
    cases c' with
    |val d=>exact cU.mono W.kept.mono f1
    |nil=>exact f1
    |row k xs=>cases this
    |dead=>trivial)
   (by
    cases ns with
    |nil=>rfl
    |cons c0 ns=>simp only[eQ,Bool.or_eq_false_iff]at hnr;simpa using hnr.2)
  exact⟨G',g1,W.kept.trans g2⟩
theorem gG.there{l:Nat}{cs:List CV}(h:gG w G l (.cells cs)):∀i,i < cs.length→(w.cell? ⟨G.ι l,i,none⟩).isSome=true∧w.frozen? ⟨G.ι l,i,none⟩=false:=fun i hi=>by
 obtain⟨h1,arr,e,fr,h2,h3,h4,h5⟩:=h
 have hlt:i < arr.size:=by have:arr.size=cs.length:=by simpa using h4
                           omega
 refine⟨?_,?_⟩
 ·simp[World.cell?,h2,hlt]
 ·have:=h3 i hlt
  simp only[World.frozen?,h2]
  simpa using this
theorem pv{t:TypeId}{b off:Nat}{v:Value}(hs:v.cells.size=P.cellsOf t)(hc:P.cellsOf t≠0)(h1:∀u∈v.cells.toList,u.oneCell'=true)
  (ht:∀j,j < v.cells.toList.length→(w.cell? ⟨b,off+j,none⟩).isSome=true) (hf:∀j,j < v.cells.toList.length→w.frozen? ⟨b,off+j,none⟩=false):(storeVar t ⟨b,off,none⟩ v).run P w= .ok () (w.setCells b off v.cells.toList):=by
 have:=run_storeCells_cells (P:=P) b off v.cells.toList 0 w (by simpa using ht) (by simpa using hf) h1
 simp only[Nat.add_zero]at this
 have hno:¬ v.cells.size≠P.cellsOf t:=by simp[hs]
 simp only[storeVar,Sem.run_bind,eW hc,Result.andThen_ok]
 rw[if_neg hno]
 simpa using this
theorem iK(s:St)(i k:Nat)(xs:List au)(j:Nat):(s.eff (.setRow (.slot i) k xs)).get j=if i=j then .cv (.row k xs)else s.get j:=by
 simp only[St.eff,St.setRoot,St.get,look]
theorem Rel.setRow(h:Rel w G s a){r:fb}{k:Nat}{xs ys:List au}{w':World}(hr:s.rowAt r=some (k,xs)){b:Nat}{n cap:Nat}(hv:dn w G a r (.slice (some ⟨b,0,none⟩) n cap))(hb:G.g b=eC r)
  (W:om w G b w' G) (hrow:cp w' G (eC r) k ys (.slice (some ⟨b,0,none⟩) n cap)):Rel w' G (s.eff (.setRow r k ys)) a:=by
 have M:=W.kept.mono
 have roots:∀r' q,s.rowAt r'=some q→∃q',(s.eff (.setRow r k ys)).rowAt r'=some q'∧(r'≠r→q'=q)∧(r'=r→q'=(k,ys))∧∀v,dn w G a r' v→dn w' G a r' v:=fun r' q hq=>by
  have hval:∀v,dn w G a r' v→dn w' G a r' v:=fun v hv'=>by
   cases r' with
   |slot i=>exact hv'
   |cell m j=>
    simp only[St.rowAt]at hq
    split at hq
    ·rename_i k' xs' hcc
     obtain⟨cs',hcs',_⟩:=gj hcc (by simp)
     have ht:=h.tag hcs'
     simp only[dn]at hv' ⊢
     exact mg (W.heap _ (fun e=>by
      have e':G.ι m=b:=e
      rw[e',hb]at ht;cases r <;> cases ht)) hv'
    ·cases hq
  cases r with
  |slot i=>
   cases r' with
   |slot j=>
    by_cases e:i=j
    ·subst e
     exact⟨(k,ys),by simp only[St.rowAt,iK,if_true],fun h=>absurd rfl h,fun _=>rfl,hval⟩
    ·refine⟨q,?_,fun _=>rfl,fun h=>by cases h;exact absurd rfl e,hval⟩
     simp only[St.rowAt,iK,if_neg e];simpa only[St.rowAt]using hq
   |cell m j=>exact⟨q,hq,fun _=>rfl,(fun h=>by cases h),hval⟩
  |cell l i=>
   cases r' with
   |slot j=>exact⟨q,hq,fun _=>rfl,(fun h=>by cases h),hval⟩
   |cell m j=>
    by_cases e:m=l∧j=i
    ·obtain⟨rfl,rfl⟩:=e
     refine⟨(k,ys),?_,fun h=>absurd rfl h,fun _=>rfl,hval⟩
     simp only[St.rowAt]at hr
     split at hr
     ·rename_i k' xs' hcc
      obtain⟨cs',hcs',hj⟩:=gj hcc (by simp)
      have hlt:=(List.getElem?_eq_some_iff.1 hj).1
      simp only[St.rowAt,St.eff,St.setRoot,bn.cell,iw,hcs',if_true,gD]
      rw[set_getElem?,if_pos ⟨rfl,hlt⟩];rfl
     ·cases hr
    ·refine⟨q,?_,fun _=>rfl,fun h=>by cases h;exact absurd ⟨rfl,rfl⟩ e,hval⟩
     simp only[St.rowAt,St.eff,St.setRoot]at hq ⊢
     rw[kU _ _ _ _ _ _ e];exact hq
 have slots:∀j,r≠ .slot j→ez w' G (s.eff (.setRow r k ys)) a (.slot j) (s.get j) (a.tmps.getD j undef):=fun j hj=>by
  have hs:=h.slots j
  cases hg:s.get j with
  |alias r'=>
   rw[hg]at hs
   obtain⟨⟨q,hq⟩,hv'⟩:=hs
   obtain⟨q',h1,_,_,h2⟩:=roots r' q hq
   exact⟨⟨q',h1⟩,h2 _ hv'⟩
  |elt r' i off=>
   rw[hg]at hs
   obtain⟨k',xs',b',n',cap',g1,g2,g3,g4⟩:=hs
   obtain⟨q',h1,h3,h4,h2⟩:=roots r' _ g1
   by_cases e:r'=r
   ·subst e
    rw[hr]at g1;cases g1
    have:=h4 rfl
    subst this
    have hn:n=ys.length∧n=xs.length:=by
     obtain⟨v0,hv0,hr0⟩:=h.row hr
     cases cJ hv hv0
     constructor
     ·rcases hrow with⟨rfl,a',he⟩|⟨b1,c1,arr,he,_⟩ <;> cases he <;> rfl
     ·rcases hr0 with⟨rfl,a',he⟩|⟨b1,c1,arr,he,_⟩ <;> cases he <;> rfl
    exact⟨k,ys,b',n',cap',h1,by omega,h2 _ g3,g4⟩
   ·have:=h3 e
    subst this
    exact⟨k',xs',b',n',cap',h1,g2,h2 _ g3,g4⟩
  |cv c=>
   rw[hg]at hs
   exact W.cv hs (by intro e;cases e) (by rw[hb];intro e;exact hj (oM (r':=.slot j) e.symm))
  |undef=>rw[hg]at hs;exact hs
  |imm cs=>
   rw[hg]at hs
   exact ez.move (fun _=>true) M (fun k xs e _=>by cases e) (fun r hr=>by cases hr) hs
  |bld cs=>
   rw[hg]at hs
   exact ez.move (fun _=>true) M (fun k xs e _=>by cases e) (fun r hr=>by cases hr) hs
  |tup ds=>
   rw[hg]at hs
   exact ez.move (fun _=>true) M (fun k xs e _=>by cases e) (fun r hr=>by cases hr) hs
 refine⟨fun j=>?_,?_,fun b' hb'=>?_⟩
 ·cases r with
  |cell l i=>exact slots j (by intro e;cases e)
  |slot i=>
   rw[iK]
   by_cases e:i=j
   ·subst e
    rw[if_pos rfl]
    have hv':a.tmps.getD i undef=_:=hv
    rw[hv']
    exact hrow
   ·rw[if_neg e];exact slots j (by intro e';cases e';exact e rfl)
 ·cases r with
  |slot i=>
   refine⟨h.heap.n,fun m ob ho=>⟨(h.heap.obj m ob ho).1,?_⟩⟩
   exact W.obj (h.heap.obj m ob ho).2 (by rw[hb];intro e;cases e) (by rw[hb];intro j e;cases e)
  |cell l i=>
   refine⟨by simp only[St.eff,St.setRoot,gR];exact h.heap.n,fun m ob ho=>?_⟩
   simp only[St.eff,St.setRoot]at ho ⊢
   rw[iw]at ho
   rw[gR]
   cases hm:s.box.at_ m with
   |none=>rw[hm]at ho;cases ho
   |some ob'=>
    rw[hm]at ho
    obtain⟨hlt,hobj⟩:=h.heap.obj m ob' hm
    refine⟨hlt,?_⟩
    cases ob' with
    |map kt es=>
     simp only at ho;cases ho
     exact W.obj hobj (by rw[hb];intro e;cases e) (by rw[hb];intro j e;cases e;exact absurd hm (by
      simp only[St.rowAt]at hr
      split at hr
      ·rename_i k' xs' hcc
       obtain⟨cs',hcs',_⟩:=gj hcc (by simp)
       rw[hcs'];simp
      ·cases hr))
    |cells cs'=>
     simp only at ho
     by_cases em:m=l
     ·subst em
      simp only[if_true,sJ]at ho
      subst ho
      obtain⟨htm,arr,e,fr,h2,h3,h4,h5⟩:=hobj
      have hne:G.ι m≠b:=fun e=>by rw[e,hb]at htm;cases htm
      refine⟨htm,arr,e,fr,by rw[W.heap _ hne];exact h2,h3,by simpa using h4,fun j c' u hj hu=>?_⟩
      rw[set_getElem?]at hj
      by_cases hij:i=j
      ·subst hij
       have hlt:i < cs'.length:=by
        have:=List.getElem?_eq_some_iff.1 hu
        have:=this.1
        simp only[Array.length_toList]at this
        have h4':arr.size=cs'.length:=by simpa using h4
        omega
       rw[if_pos ⟨rfl,hlt⟩]at hj
       cases hj
       have hv':=hv
       simp only[dn,World.cell?,h2,Option.isSome_none,Bool.false_eq_true,if_false]at hv'
       have:some u=some (Value.slice (some ⟨b,0,none⟩) n cap):=by rw[← hu,← hv'];simp
       cases this
       exact⟨hrow,rfl⟩
      ·rw[if_neg (fun e=>hij e.1)]at hj
       exact⟨W.cv (h5 j c' u hj hu).1 (by intro e;cases e) (by rw[hb];intro e;cases e;exact hij rfl),(h5 j c' u hj hu).2⟩
     ·rw[if_neg em]at ho
      cases ho
      exact W.obj hobj (by rw[hb];intro e;cases e) (by rw[hb];intro j e;cases e;exact em rfl)
 ·rw[W.size]at hb'
  exact h.fresh b' hb'
variable{P:Program}{o:Oper}{w:World}{G:Gh}{s:St}{a:Act}{sv:SV}{es:List Eff}
theorem mR{b:Nat}{e:TypeId}{fr:Nat×Nat}:∀(vs:List Value) (off:Nat) (arr:Array Value) (w:World),w.heap[b]? =some (.cells arr e fr)→∃arr',(w.setCells b off vs).heap[b]? =some (.cells arr' e fr)∧arr'.toList=setFrom arr.toList off vs
 | [],off,arr,w,h=>⟨arr,h,rfl⟩
 |v::vs,off,arr,w,h=>by
  obtain⟨arr',h1,h2⟩:=mR vs (off+1) (arr.setIfInBounds off v) (w.setCell ⟨b,off,none⟩ v) (nM h)
  exact⟨arr',h1,by rw[h2];simp[setFrom]⟩
theorem kY{b:Nat}(h1:G.g b≠ .imm)(h2:G.g b≠ .other):∀(vs:List Value) (off:Nat) (w:World),om w G b (w.setCells b off vs) G
 | [],off,w=>⟨rfl,rfl,rfl,rfl,fun _ _=>rfl,⟨h1,h2⟩,fun _ _=>rfl,rfl,fun _=>rfl,rfl⟩
 |v::vs,off,w=>by
  have W:=kY h1 h2 vs (off+1) (w.setCell ⟨b,off,none⟩ v)
  exact⟨W.os,W.tape,W.output,W.size.trans (rA _ _),fun k hk=>(W.heap k hk).trans (heap_setCell_other w _ k v hk),⟨h1,h2⟩,fun _ _=>rfl,rfl,fun _=>rfl,rfl⟩
theorem gz{α:Type}(ns cs:List α)(i:Nat)(h:i+ns.length≤cs.length):setFrom cs i ns=cs.take i++ns++cs.drop (i+ns.length):=by
 apply List.ext_getElem?
 intro q
 rw[oR ns cs i q h,List.append_assoc,List.getElem?_append,List.getElem?_append]
 simp only[List.length_take,List.getElem?_take,List.getElem?_drop]
 have hm:min i cs.length=i:=by omega
 rw[hm]
 by_cases h1:q < i
 ·have h2:¬ (i≤q∧q < i+ns.length):=by omega
  simp[h1,h2]
 ·by_cases h2:q < i+ns.length
  ·have h3:i≤q∧q < i+ns.length:=by omega
   have h4:q - i < ns.length:=by omega
   simp[h1,h3,h4]
  ·have h3:¬ (i≤q∧q < i+ns.length):=by omega
   have h4:¬ (q - i < ns.length):=by omega
   have h5:i+ns.length+(q - i - ns.length)=q:=by omega
   simp[h1,h3,h4,h5]
theorem rO{α:Type}(ns as bs:List α)(i:Nat)(h:i+ns.length≤as.length):setFrom (as++bs) i ns=setFrom as i ns++bs:=by
 rw[gz ns as i h,gz ns (as++bs) i (by simp;omega)]
 rw[List.take_append_of_le_length (by omega),List.drop_append_of_le_length (by omega)]
 simp
theorem wT{α:Type}(ns as bs:List α)(i:Nat)(h:i+ns.length≤bs.length):setFrom (as++bs) (as.length+i) ns=as++setFrom bs i ns:=by
 rw[gz ns bs i h,gz ns (as++bs) _ (by simp;omega)]
 rw[List.take_append,List.drop_append]
 have h1:as.length+i - as.length=i:=by omega
 have h2:as.length+i+ns.length - as.length=i+ns.length:=by omega
 rw[h1,h2,List.take_of_length_le (by omega),List.drop_of_length_le (by omega)]
 simp
theorem ya{α:Type}(ns cs:List α)(i m:Nat)(h:i+ns.length≤m)(hm:m≤cs.length):(setFrom cs i ns).take m=setFrom (cs.take m) i ns:=by
 conv=>lhs;rw[← List.take_append_drop m cs]
 rw[rO _ _ _ _ (by simp;omega),List.take_append_of_le_length (by rw[el];simp;omega)]
 rw[List.take_of_length_le (by rw[el];simp;omega)]
theorem cn.setFrom{ds ns:List au}{vs us:List Value}{i:Nat}(h:cn w G ds vs)(hn:cn w G ns us)(hi:i+ns.length≤ds.length):cn w G (Val.setFrom ds i ns) (Val.setFrom vs i us):=by
 have h1:=h.length
 have h2:=hn.length
 rw[gz _ _ _ hi,gz _ _ _ (by omega)]
 have:=((h.take i).append hn).append (h.drop (i+ns.length))
 rwa[← h2]at this ⊢
theorem rQ{K:Nat}{d e':au}{off:Nat}:∀{xs:List au} {i:Nat} {e:au},(∀x∈xs,x.cells.length=K)→xs[i]? =some e→off+d.cells.length≤K→e'.cells=setFrom e.cells off d.cells→
  bx (xs.set i e')=setFrom (bx xs) (i*K+off) d.cells
 | [],i,e,_,h,_,_=>by simp at h
 |x::xs,0,e,hK,h,ho,he=>by
  simp only[List.getElem?_cons_zero,sJ]at h
  subst h
  have:=hK x (by simp)
  simp only[List.set_cons_zero,bx,List.flatMap_cons,Nat.zero_mul,Nat.zero_add]
  rw[he,rO _ _ _ _ (by omega)]
 |x::xs,i+1,e,hK,h,ho,he=>by
  simp only[List.getElem?_cons_succ]at h
  have hx:=hK x (by simp)
  have ih:=rQ (xs:=xs) (fun y hy=>hK y (by simp[hy])) h ho he
  simp only[List.set_cons_succ,bx,List.flatMap_cons]at ih ⊢
  rw[ih]
  have:(i+1)*K+off=x.cells.length+(i*K+off):=by rw[hx,Nat.add_mul];omega
  rw[this,wT]
  have hlen:(bx xs).length=xs.length*K:=by
   clear ih h this hx
   have:∀ys:List au,(∀y∈ys,y.cells.length=K)→(bx ys).length=ys.length*K:=by
    intro ys hy
    induction ys with
    |nil=>simp[bx]
    |cons y ys ih2=>
     have:=ih2 (fun z hz=>hy z (by simp[hz]))
     simp only[bx,List.flatMap_cons,lA,lC]at this ⊢
     rw[this,hy y (by simp),Nat.add_mul];omega
   exact this xs (fun y hy=>hK y (by simp[hy]))
  have hi:i < xs.length:=(List.getElem?_eq_some_iff.1 h).1
  simp only[bx]at hlen
  rw[hlen]
  have:i*K+K≤xs.length*K:=by rw[← Nat.succ_mul];exact Nat.mul_le_mul_right _ hi
  omega
theorem cn.ones:∀{ds:List au} {vs:List Value},cn w G ds vs→∀d∈ds,d.one=true
 |_,_,.nil,d,h=>by cases h
 |_,_,.cons d v ds vs h1 _ h3,d',h=>by
  rcases List.mem_cons.1 h with rfl|h
  ·exact h1
  ·exact h3.ones d' h
theorem rv{e:au}{l:List au}(h1:∀d∈l,d.one=true)(hl:l.length=e.cells.length):(rF e l).cells=l:=by
 have one:∀x:au,x.one=true→x.cells=[x]:=fun x hx=>by cases x <;> first|rfl|simp[au.one]at hx
 have gen:l.length=1→(l.headD .nilfn).cells=l:=fun hh=>by
  match l,hh with
  | [x],_=>simpa using one x (h1 x (by simp))
 cases e <;> first|rfl|exact gen hl
theorem xe{x:Operand}{cs:List CV}(hd:s.asCells x=some (cs,es)){l:Nat}{ks:List CV}(h:s.box.at_ l=some (.cells ks)):∃ks',(s.effs es).box.at_ l=some (.cells ks')∧ks'.length=ks.length:=by
 have one:∀(r:fb) (c:CV) (sl:List (Nat×SV)),∃ks',(St.setRoot ⟨sl,s.box⟩ r c).box.at_ l=some (.cells ks')∧ks'.length=ks.length:=fun r c sl=>by
  cases r with
  |slot i=>exact⟨ks,h,rfl⟩
  |cell m i=>
   simp only[St.setRoot,iw,h]
   split
   ·exact⟨_,rfl,by simp⟩
   ·exact⟨_,rfl,rfl⟩
 unfold St.asCells at hd
 split at hd
 all_goals try (simp only[sJ,pJ]at hd;obtain⟨rfl,rfl⟩:=hd)
 ·exact⟨ks,h,rfl⟩
 ·exact⟨ks,h,rfl⟩
 ·exact one _ _ _
 ·simp only[ae,sJ,pJ]at hd
  obtain⟨p,hp,rfl,rfl⟩:=hd
  exact one _ _ _
 ·exact⟨ks,h,rfl⟩
 ·cases hd
theorem anc{t:TypeId}{x y:Operand}(h:Rel w G s a)(hP:G.P=P)(hop:o.op= .store t x y)(ho:storeOp P s t x y=some (sv,es)):jP P o w G s a sv es:=by
 have hx:=h.opv x
 unfold storeOp at ho
 split at ho
 ·cases ho
 rename_i hz
 split at ho
 ·rename_i l off he
  rw[he]at hx
  have hx':cU w G (.ptr (some (l,off))) (a.eval x):=hx
  generalize hu:a.eval x=u at hx'
  cases hx' with
  |ptr _ _ hl=>
  split at ho
  ·rename_i cs hcs
   simp only[ae]at ho
   obtain⟨⟨ns,e1⟩,hc,ho⟩:=ho
   split at ho
   ·rename_i hcond
    simp only[sJ,pJ]at ho
    obtain⟨rfl,rfl⟩:=ho
    obtain⟨G1,hw,hsz,hr,hrow⟩:=h.asCells hc
    obtain⟨ks,hks,hkl⟩:=xe hc hcs
    have hlen:(a.eval y).cells.toList.length=ns.length:=by simpa using hsz
    obtain⟨G2,g1,g2⟩:=Rel.setCells (ns:=ns) (vs:=(a.eval y).cells.toList) (i:=off) hw.rel hks (by rw[hkl,hcond.1];exact hcond.2) hlen
     (fun j c v hcj hv=>⟨(hr j c v hcj (by simpa using hv)).1,(hr j c v hcj (by simpa using hv)).2.1⟩)
     (by
      cases hh:eQ ns with
      |true=>
       have:=hrow hh
       match ns,this with
       | [c],_=>rfl
      |false=>
       cases ns with
       |nil=>rfl
       |cons c ns=>simp only[eQ,Bool.or_eq_false_iff]at hh;exact hh.2)
    have hι:G1.ι l=G.ι l:=hw.kept.ι l hl
    have hobj:=(hw.rel.heap.obj l _ hks).2.there
    have hrun:=pv (P:=P) (w:=w) (t:=t) (b:=G.ι l) (off:=off) (v:=a.eval y) (by rw[hsz];exact hcond.1) hz
     (fun u hu=>by
      obtain⟨j,hj⟩:=List.getElem?_of_mem hu
      have hlt:j < ns.length:=by have:=(List.getElem?_eq_some_iff.1 hj).1;omega
      exact(hr j _ u (gE hlt) (by simpa using hj)).2.1)
     (fun j hj=>by rw[← hι];exact(hobj (off+j) (by rw[hkl];have hc1:ns.length=P.cellsOf t:=hcond.1;have:=hcond.2;omega)).1)
     (fun j hj=>by rw[← hι];exact(hobj (off+j) (by rw[hkl];have hc1:ns.length=P.cellsOf t:=hcond.1;have:=hcond.2;omega)).2)
    refine⟨undef,w.setCells (G.ι l) off (a.eval y).cells.toList,G2,.inr ⟨?_,rfl⟩,hw.kept.trans (by rw[← hι];exact g2),?_,rfl⟩
    ·simp only[execOp,hop,Instr.storeAt,hu,Instr.sureAddr,Sem.run_bind,Sem.run_pure,Result.andThen_ok,hrun]
    ·rw[eX,← hι];exact g1
   ·cases ho
  ·cases ho
 ·rename_i r i off he
  rw[he]at hx
  simp only[ae]at ho
  obtain⟨p,hp,e,hei,⟨d,e1⟩,hd,ho⟩:=ho
  split at ho
  ·rename_i hcond
   simp only[sJ,pJ]at ho
   obtain⟨rfl,rfl⟩:=ho
   obtain⟨he1,hdl,hoff⟩:=hcond
   have he1:e1=[]:=by simpa using he1
   subst he1
   obtain⟨k,xs⟩:=p
   obtain⟨k',xs',b0,n0,cap0,g1,g2,g3,g4⟩:=hx
   rw[hp]at g1;cases g1
   obtain⟨b,n,cap,arr,f1,f2,f3,f4,f5,f6,f7,f8,f9⟩:=h.elem hp hei
   cases cJ f1 g3
   obtain⟨v0,hv0,hrow0⟩:=h.row hp
   cases cJ f1 hv0
   obtain⟨G1,hw1,hdv⟩:=h.asVal hd
   have hG1:cU w G d (a.eval y):=by
    unfold St.asVal at hd
    have ho:=h.opv y
    split at hd
    ·rename_i d' hy;simp only[sJ,pJ]at hd;obtain⟨rfl,_⟩:=hd;rw[hy]at ho;exact ho
    ·rename_i hy;simp only[sJ,pJ]at hd;obtain⟨rfl,_⟩:=hd;rw[hy]at ho
     obtain⟨b',hb'⟩:=ho
     rw[hb'];exact .nilsl b' 0
    ·simp at hd
    ·simp only[ae,sJ,pJ]at hd;obtain⟨p,hp,rfl,hd⟩:=hd;cases hd
    ·rename_i cs hy
     rw[hy]at ho
     simp only[ae,sJ,pJ]at hd
     obtain⟨ds,hds,rfl,_⟩:=hd
     exact wG ho hds
    ·cases hd
   have hcv:=hG1.cells
   have hcl:=hcv.length
   have hlt:i < xs.length:=(List.getElem?_eq_some_iff.1 hei).1
   have hdl':d.cells.length=P.cellsOf t:=hdl
   have hin:i*G.P.cellsOf k+off+d.cells.length≤xs.length*G.P.cellsOf k:=by
    have:i*G.P.cellsOf k+G.P.cellsOf k≤xs.length*G.P.cellsOf k:=by rw[← Nat.succ_mul];exact Nat.mul_le_mul_right _ hlt
    omega
   have hcapm:xs.length*G.P.cellsOf k≤arr.size:=by rw[f5];exact Nat.mul_le_mul_right _ f6
   have W:=kY (G:=G) (b:=b0) (by rw[f2];cases r <;> (intro e;cases e)) (by rw[f2];cases r <;> (intro e;cases e)) (a.eval y).cells.toList (i*G.P.cellsOf k+off) w
   obtain⟨arr',k1,k2⟩:=mR (a.eval y).cells.toList (i*G.P.cellsOf k+off) arr w f3
   have hrun:=pv (P:=P) (w:=w) (t:=t) (b:=b0) (off:=i*G.P.cellsOf k+off) (v:=a.eval y) (by have:=hcv.length;simp at this;rw[this];exact hdl) hz
    (fun u hu=>by
     obtain⟨j,hj⟩:=List.getElem?_of_mem hu
     have hlt:j < d.cells.length:=by have:=(List.getElem?_eq_some_iff.1 hj).1;omega
     obtain⟨v,hv,q1,q2⟩:=hcv.get j _ (gE hlt)
     rw[hj]at hv;cases hv
     exact q2.oneV q1)
    (fun j hj=>by
     have:i*G.P.cellsOf k+off+j < arr.size:=by omega
     simp[World.cell?,f3,this])
    (fun j hj=>by simp[World.frozen?,f3])
   have hsize':arr'.size=arr.size:=by
    have:arr'.toList.length=arr.toList.length:=by rw[k2,el]
    simpa using this
   refine⟨undef,_,G,.inr ⟨?_,rfl⟩,W.kept,?_,rfl⟩
   ·simp only[execOp,hop,Instr.storeAt,g4,Instr.sureAddr,Sem.run_bind,Sem.run_pure,Result.andThen_ok,hrun]
   ·refine(?_:Rel _ G (s.eff (.setRow r k (xs.set i (rF e (setFrom e.cells off d.cells))))) a)
    subst f7
    refine h.setRow hp f1 f2 W (.inr ⟨b0,cap0,arr',?_,f2,k1,by rw[hsize'];exact f5,?_,?_,?_,?_⟩)
    ·simp
    ·simpa using f6
    ·rcases hrow0 with⟨rfl,_⟩|⟨b',cap',_,h1,_,_,_,_,h6,_,_⟩
     ·simp at hlt
     ·cases h1;exact h6
    ·rcases hrow0 with⟨rfl,_⟩|⟨b',cap',_,h1,_,_,_,_,_,h7,_⟩
     ·simp at hlt
     ·intro z hzm
      rcases List.mem_or_eq_of_mem_set hzm with hz'|rfl
      ·exact h7 z hz'
      ·rw[rv,el]
       ·exact f4
       ·intro q hq
        rw[gz _ _ _ (by omega)]at hq
        simp only[List.mem_append]at hq
        rcases hq with(hq|hq)|hq
        ·exact f8.ones q (List.mem_of_mem_take hq)
        ·exact hcv.ones q hq
        ·exact f8.ones q (List.mem_of_mem_drop hq)
       ·exact el _ _ _
    ·rcases hrow0 with⟨rfl,_⟩|⟨b',cap',arr0,h1,_,h3,_,_,_,h7,h8⟩
     ·simp at hlt
     ·cases h1
      rw[f3]at h3;cases h3
      rw[rQ (K:=G.P.cellsOf k) (d:=d) (off:=off) h7 hei (by omega) (rv (by
        intro q hq
        rw[gz _ _ _ (by omega)]at hq
        simp only[List.mem_append]at hq
        rcases hq with(hq|hq)|hq
        ·exact f8.ones q (List.mem_of_mem_take hq)
        ·exact hcv.ones q hq
        ·exact f8.ones q (List.mem_of_mem_drop hq)) (el _ _ _))]
      rw[k2,List.length_set,ya _ _ _ _ (by omega) (by simpa using hcapm)]
      have hm:=h8.setFrom hcv (i:=i*G.P.cellsOf k+off) (by
       have:=h8.length
       simp only[List.length_take,Array.length_toList]at this
       omega)
      exact hm.mono W.kept.mono
  ·cases ho
 ·cases ho
end Go.Val

/- A value semantics of the model's programs, sound against it, and functions read off the given program with the proofs that it runs so; no condition. -/
import Derived.Test.YtmfelmglmhjggaaGreatOwnB
import GoSem.ClaimChange
set_option linter.all false
set_option linter.unnecessarySimpa false
set_option linter.unusedVariables false
set_option linter.unusedSimpArgs false
namespace Go.Val
variable{P:Program}{s:St}{x y:Operand}
def ap3:Option (List au)→Bool→Option Out
 |some ds,false=>some (.cv (.val (.agg ds)),[])
 |some _,true=>none
 |none,_=>none
def arU(l off:Nat):Option CV→Option Out
 |some (.val d)=>some (.cv (.val d),[])
 |some .nil=>some (.cv .nil,[])
 |some (.row _ _)=>some (.alias (.cell l off),[])
 |some .dead=>none
 |none=>none
def ajq(n:Nat)(cs:List CV):Option Out:=if cs.length < n then none else ap3 (je (cs.take n)) (eQ (cs.take n))
def loadCells(l off n:Nat)(cs:List CV):Bool→Option Out
 |true=>ajq n (cs.drop off)
 |false=>if n≠1 then none else arU l off cs[off]?
def loadAt(P:Program)(t:TypeId)(l off:Nat):Option dB→Option Out
 |some (.cells cs)=>loadCells l off (P.cellsOf t) cs (fl P t)
 |some (.map _ _)=>none
 |none=>none
def pw(P:Program)(t:TypeId)(cs:List au):Option Out:=if cs.length < P.cellsOf t then none else aoe (gu P t (cs.take (P.cellsOf t)))
def amg(P:Program)(t:TypeId)(off:Nat):Option au→Option Out
 |some e=>pw P t (e.cells.drop off)
 |none=>none
def acf(P:Program)(t:TypeId)(i off:Nat):Option (TypeId×List au)→Option Out
 |some (_,xs)=>amg P t off xs[i]?
 |none=>none
def at2{α:Type}(f:Nat→Nat→Option α):au→Option α
 |.ptr (some (l,off))=>f l off
 |.ptr none=>none
 |.int _ _=>none
 |.bool _=>none
 |.str _=>none
 |.sl _=>none
 |.agg _=>none
 |.map _=>none
 |.fn _ _ _=>none
 |.nilfn=>none
def ad1(P:Program)(s:St)(t:TypeId)(l off:Nat):Option Out:=loadAt P t l off (s.box.at_ l)
def tr(P:Program)(s:St)(t:TypeId):SV→Option Out
 |.cv (.val d)=>at2 (ad1 P s t) d
 |.imm cs=>pw P t cs
 |.elt r i off=>acf P t i off (s.rowAt r)
 |.cv .nil=>none
 |.cv (.row _ _)=>none
 |.cv .dead=>none
 |.alias _=>none
 |.bld _=>none
 |.tup _=>none
 |.undef=>none
def afb(P:Program)(s:St)(t:TypeId)(v:SV):Option TypeDesc→Option Out
 |some _=>if P.cellsOf t=0 then none else tr P s t v
 |none=>none
theorem dH{t:TypeId}:loadOp P s t x=afb P s t (s.opv x) (P.underlying t):=by
 unfold loadOp
 cases hu:P.underlying t with
 |none=>rw[if_pos (.inr rfl)];rfl
 |some td=>
  simp only[afb,Option.isNone_some,Bool.false_eq_true,or_false]
  split
  ·rfl
  ·cases s.opv x with
   |cv c=>
    cases c with
    |val d=>
     cases d with
     |ptr a=>
      cases a with
      |none=>rfl
      |some a=>
       obtain⟨l,off⟩:=a
       simp only[tr,at2,ad1]
       cases s.box.at_ l with
       |none=>rfl
       |some o=>
        cases o with
        |map _ _=>rfl
        |cells cs=>
         simp only[loadAt,ajV]
         cases fl P t with
         |true=>
          simp only[if_true,loadCells,ajq]
          split
          ·rfl
          ·cases je ((cs.drop off).take (P.cellsOf t))with
           |none=>rfl
           |some ds=>
            simp only[oB]
            cases eQ ((cs.drop off).take (P.cellsOf t)) <;> rfl
         |false=>
          simp only[Bool.false_eq_true,if_false,loadCells]
          split
          ·rfl
          ·cases cs[off]? with
           |none=>rfl
           |some c=>cases c <;> rfl
     |_=>rfl
    |_=>rfl
   |imm cs=>
    simp only[tr,pw]
    split
    ·rfl
    ·cases gu P t (cs.take (P.cellsOf t)) <;> rfl
   |elt r i off=>
    simp only[tr]
    cases s.rowAt r with
    |none=>rfl
    |some p=>
     obtain⟨k,xs⟩:=p
     simp only[oB,acf]
     cases xs[i]? with
     |none=>rfl
     |some e=>
      simp only[oB,amg,pw]
      split
      ·rfl
      ·cases gu P t ((e.cells.drop off).take (P.cellsOf t)) <;> rfl
   |_=>rfl
def avK(n:Nat):Option au→Option Out
 |some d=>if d.cells.length=n then some (.imm d.cells,[])else none
 |none=>none
def apU(e:TypeId)(r:fb)(i:Nat):Option (TypeId×List au)→Option Out
 |some (k,xs)=>if i < xs.length∧k=e then some (.elt r i 0,[])else none
 |none=>none
def aka(n i:Nat):au→Option Out
 |.sl xs=>avK n xs[i]?
 |.ptr _=>none
 |.int _ _=>none
 |.bool _=>none
 |.str _=>none
 |.agg _=>none
 |.map _=>none
 |.fn _ _ _=>none
 |.nilfn=>none
def aj5(s:St)(e:TypeId)(n:Nat)(x:Operand)(i:Nat):SV→Option Out
 |.cv (.val d)=>aka n i d
 |.cv (.row k xs)=>if i < xs.length∧k=e then some (.elt (.slot (mc x)) i 0,[])else none
 |.alias r=>apU e r i (s.rowAt r)
 |.cv .nil=>none
 |.cv .dead=>none
 |.imm _=>none
 |.elt _ _ _=>none
 |.bld _=>none
 |.tup _=>none
 |.undef=>none
def ap5(l off:Nat):Option Out:=some (.cv (.val (.ptr (some (l,off)))),[])
def awm(n l off:Nat):Option Out:=ap5 l (off+n)
def at6(n:Nat):SV→Option Out
 |.cv (.val d)=>at2 (awm n) d
 |.imm cs=>some (.imm (cs.drop n),[])
 |.elt r j off=>some (.elt r j (off+n),[])
 |.cv .nil=>none
 |.cv (.row _ _)=>none
 |.cv .dead=>none
 |.alias _=>none
 |.bld _=>none
 |.tup _=>none
 |.undef=>none
def aly(P:Program)(s:St)(x:Operand)(i:Nat):Option TypeDesc→Option Out
 |some (.slice e)=>if P.cellsOf e=0 then none else aj5 s e (P.cellsOf e) x i (s.opv x)
 |some (.array n e)=>if P.cellsOf e=0∨¬ i < n then none else at6 (i*P.cellsOf e) (s.opv x)
 |_=>none
def aeD(P:Program)(s:St)(x:Operand)(t:TypeId):Option (IntKind×Int)→Option Out
 |some (_,i)=>if i < 0 then none else aly P s x i.toNat (P.underlying t)
 |none=>none
theorem ajE{n:Nat}{sv:SV}:at6 n sv=(match sv with
  |.cv (.val (.ptr (some (l,off))))=>some (.cv (.val (.ptr (some (l,off+n)))),[])
  |.imm cs=>some (.imm (cs.drop n),[])
  |.elt r j off=>some (.elt r j (off+n),[])
  |_=>none):=by
 cases sv with
 |cv c=>
  cases c with
  |val d=>
   cases d with
   |ptr a=>cases a <;> rfl
   |_=>rfl
  |_=>rfl
 |_=>rfl
theorem uL{t:TypeId}:indexAddrOp P s t x y=aeD P s x t (s.asInt y):=by
 unfold indexAddrOp
 cases s.asInt y with
 |none=>rfl
 |some p=>
  obtain⟨k,i⟩:=p
  simp only[oB,aeD]
  split
  ·rfl
  ·cases P.underlying t with
   |none=>rfl
   |some td=>
    cases td
    case slice e=>
     simp only[aly]
     split
     ·rfl
     ·cases s.opv x with
      |cv c=>
       cases c with
       |val d=>
        cases d with
        |sl xs=>simp only[aj5,aka];cases xs[i.toNat]? <;> rfl
        |_=>rfl
       |_=>rfl
      |alias r=>simp only[aj5];cases s.rowAt r <;> rfl
      |_=>rfl
    case array n e=>
     simp only[aly,ajE]
     rfl
    all_goals rfl
def axl(P:Program)(sv:SV):Option Field→Option Out
 |some fd=>if P.cellsOf fd.type=0 then none else at6 fd.offset sv
 |none=>none
def awT(P:Program)(sv:SV)(f:Nat):Option TypeDesc→Option Out
 |some (.struct fs)=>axl P sv fs[f]?
 |_=>none
theorem uC{t:TypeId}{f:Nat}:fieldAddrOp P s t x f=awT P (s.opv x) f (P.underlying t):=by
 unfold fieldAddrOp
 cases P.underlying t with
 |none=>rfl
 |some td=>
  cases td
  case struct fs=>
   simp only[awT]
   cases fs[f]? with
   |none=>rfl
   |some fd=>
    simp only[oB,axl,ajE]
    rfl
  all_goals rfl
def aym:au→Option Out
 |.str b=>ret (.int .i64 b.size)
 |.sl _=>none
 |.ptr _=>none
 |.int _ _=>none
 |.bool _=>none
 |.agg _=>none
 |.map _=>none
 |.fn _ _ _=>none
 |.nilfn=>none
def arP:Option au→Option Out
 |some d=>aym d
 |none=>none
def al3:Option (List au)→Option Out
 |some xs=>ret (.int .i64 xs.length)
 |none=>none
def ap6:Option dB→Option Out
 |some (.map _ es)=>ret (.int .i64 es.length)
 |some (.cells _)=>none
 |none=>none
def abS(s:St):au→Option Out
 |.map none=>ret (.int .i64 0)
 |.map (some l)=>ap6 (s.box.at_ l)
 |.str _=>none
 |.sl _=>none
 |.ptr _=>none
 |.int _ _=>none
 |.bool _=>none
 |.agg _=>none
 |.fn _ _ _=>none
 |.nilfn=>none
def ab3(s:St):Option au→Option Out
 |some d=>abS s d
 |none=>none
def acv(s:St)(x:Operand):Option TypeDesc→Option Out
 |some .string=>arP (optVal s x)
 |some (.slice _)=>al3 (s.list (s.opv x))
 |some (.map _ _)=>ab3 s (optVal s x)
 |_=>none
theorem anY{t:TypeId}:lenOp P s t x=acv s x (P.underlying t):=by
 unfold lenOp
 cases P.underlying t with
 |none=>rfl
 |some td=>
  cases td
  case string=>
   simp only[acv]
   cases optVal s x with
   |none=>rfl
   |some d=>cases d <;> rfl
  case slice e=>simp only[acv];cases s.list (s.opv x) <;> rfl
  case map k e=>
   simp only[acv]
   cases optVal s x with
   |none=>rfl
   |some d=>
    cases d
    case map r=>
     cases r with
     |none=>rfl
     |some l=>
      simp only[oB,ab3,abS]
      cases s.box.at_ l with
      |none=>rfl
      |some o=>cases o <;> rfl
    all_goals rfl
  all_goals rfl
section
variable{dst:Option Tmp}{ty:TypeId}{pos:String}{after:Array Edge}{g:Option (Nat×Bool)}
theorem avs{t:TypeId}{x:Operand}:aop P s ⟨dst,.load t x,ty,pos,after,g⟩=afb P s t (s.opv x) (P.underlying t):=dH
theorem abK{t:TypeId}{x y:Operand}:aop P s ⟨dst,.indexAddr t x y,ty,pos,after,g⟩=aeD P s x t (s.asInt y):=uL
theorem ac8{t:TypeId}{x:Operand}{f:Nat}:aop P s ⟨dst,.fieldAddr t x f,ty,pos,after,g⟩=awT P (s.opv x) f (P.underlying t):=uC
theorem axW{x:Operand}{t:TypeId}:aop P s ⟨dst,.call ⟨.builtin .len,#[x],#[t]⟩,ty,pos,after,g⟩=acv s x (P.underlying t):=anY
end
variable{P:Program}{s:St}{x y:Operand}
def axi{α:Type}(f:List au→Option α):au→Option α
 |.agg cs=>f cs
 |.ptr _=>none
 |.int _ _=>none
 |.bool _=>none
 |.str _=>none
 |.sl _=>none
 |.map _=>none
 |.fn _ _ _=>none
 |.nilfn=>none
def arH{α:Type}(f:List au→Option α):Option au→Option α
 |some d=>axi f d
 |none=>none
def ax1{α:Type}(f:ByteArray→Option α):au→Option α
 |.str b=>f b
 |.agg _=>none
 |.ptr _=>none
 |.int _ _=>none
 |.bool _=>none
 |.sl _=>none
 |.map _=>none
 |.fn _ _ _=>none
 |.nilfn=>none
def asz{α:Type}(f:ByteArray→Option α):Option au→Option α
 |some d=>ax1 f d
 |none=>none
theorem aqZ{α:Type}{f:ByteArray→Option α}{d:Option au}:(d.bind fun d=>match d with|.str b=>f b|_=>none)=asz f d:=by
 cases d with
 |none=>rfl
 |some d=>cases d <;> rfl
def asV(P:Program)(fd:Field)(cs:List au):Option Out:=if fd.offset+P.cellsOf fd.type≤cs.length∧P.cellsOf fd.type≠0 then aoe (gu P fd.type ((cs.drop fd.offset).take (P.cellsOf fd.type)))else none
theorem wM{d:Option au}:d.bind ret=aoe d:=by cases d <;> rfl
def axp:Option UInt8→Option Out
 |some c=>ret (.int .u8 c.toNat)
 |none=>none
def aq1(i:Nat)(b:ByteArray):Option Out:=axp b.data.toList[i]?
def axT(P:Program)(n:Nat)(e:TypeId)(i:Nat)(cs:List au):Option Out:=if i < n∧i*P.cellsOf e+P.cellsOf e≤cs.length then aoe (gu P e ((cs.drop (i*P.cellsOf e)).take (P.cellsOf e)))else none
def awV(P:Program)(i:Nat)(d:Option au):Option TypeDesc→Option Out
 |some .string=>asz (aq1 i) d
 |some (.array n e)=>arH (axT P n e i) d
 |_=>none
def am3(P:Program)(t:TypeId)(d:Option au):Option (IntKind×Int)→Option Out
 |some (_,i)=>if i < 0 then none else awV P i.toNat d (P.underlying t)
 |none=>none
theorem ahi{t:TypeId}:indexOp P s t x y=am3 P t (optVal s x) (s.asInt y):=by
 unfold indexOp
 cases s.asInt y with
 |none=>rfl
 |some p=>
  obtain⟨k,i⟩:=p
  simp only[oB,am3]
  split
  ·rfl
  ·cases hu:P.underlying t with
   |none=>cases optVal s x <;> rfl
   |some td=>
    cases optVal s x with
    |none=>cases td <;> rfl
    |some d=>
     simp only[oB]
     cases td
     case string=>
      cases d
      case str b=>
       simp only[awV,asz,ax1,aq1]
       cases b.data.toList[i.toNat]? <;> rfl
      all_goals rfl
     case array n e=>
      cases d
      case agg cs=>simp only[awV,arH,axi,axT,wM]
      all_goals rfl
     all_goals (cases d <;> rfl)
def avp(len:Nat):Option (IntKind×Int)→Option Nat
 |some (_,i)=>if 0≤i∧i≤(len:Int)then some i.toNat else none
 |none=>none
theorem yQ{len d:Nat}:boundOf s len d none=some d:=rfl
theorem zu{len d:Nat}:boundOf s len d (some x)=avp len (s.asInt x):=by
 simp only[boundOf]
 cases s.asInt x <;> rfl
def awi(b:ByteArray)(h:Nat):Option Nat→Option Out
 |some l=>ret (.str (b.extract l h))
 |none=>none
def ai0(s:St)(lo:Option Operand)(b:ByteArray):Option Nat→Option Out
 |some h=>awi b h (boundOf s h 0 lo)
 |none=>none
def asC(s:St)(lo hi:Option Operand)(b:ByteArray):Option Out:=ai0 s lo b (boundOf s b.size b.size hi)
def au7(n:Nat)(xs:List au)(es:List Eff)(h:Nat):Option Nat→Option Out
 |some l=>if n=0∨jk n xs=false then none else some (.cv (.val (.sl ((xs.take h).drop l))),es)
 |none=>none
def ame(s:St)(lo:Option Operand)(n:Nat)(xs:List au)(es:List Eff):Option Nat→Option Out
 |some h=>au7 n xs es h (boundOf s h 0 lo)
 |none=>none
def atn(s:St)(lo hi:Option Operand)(n:Nat)(es:List Eff)(xs:List au):Option Out:=ame s lo n xs es (boundOf s xs.length xs.length hi)
def slV(s:St)(lo hi:Option Operand)(n:Nat):Option (au×List Eff)→Option Out
 |some (.sl xs,es)=>atn s lo hi n es xs
 |_=>none
def axd(n:Nat)(hi:Option Operand):Option (List au)→Option (IntKind×Int)→Option Nat→Option Nat→Option Out
 |some _,some m,some h,some l=>if m.2=0∧h=0∧l=0∧hi.isSome∧n≠0 then some (.cv .nil,[])else none
 |_,_,_,_=>none
def at8(P:Program)(s:St)(x:Operand)(lo hi:Option Operand):Option TypeDesc→Option Operand→Option Out
 |some .string,none=>asz (asC s lo hi) (optVal s x)
 |some (.slice e),none=>slV s lo hi (P.cellsOf e) (s.asVal x)
 |some (.slice e),some m=>axd (P.cellsOf e) hi (s.list (s.opv x)) (s.asInt m) (boundOf s 0 0 hi) (boundOf s 0 0 lo)
 |_,_=>none
theorem agv{t:TypeId}{lo hi mx:Option Operand}:sliceOp P s t x lo hi mx=at8 P s x lo hi (P.underlying t) mx:=by
 unfold sliceOp
 cases P.underlying t with
 |none=>rfl
 |some td=>
  cases td
  case string=>
   cases mx with
   |some m=>rfl
   |none=>
    simp only[at8]
    rw[← aqZ]
    congr 1;funext d
    cases d
    case str b=>
     simp only[asC]
     cases boundOf s b.size b.size hi with
     |none=>rfl
     |some h=>
      simp only[oB,ai0]
      cases boundOf s h 0 lo <;> rfl
    all_goals rfl
  case slice e=>
   cases mx with
   |none=>
    simp only[at8]
    cases s.asVal x with
    |none=>rfl
    |some p=>
     obtain⟨d,es⟩:=p
     cases d
     case sl xs=>
      simp only[oB,slV,atn]
      cases boundOf s xs.length xs.length hi with
      |none=>rfl
      |some h=>
       simp only[oB,ame]
       cases boundOf s h 0 lo <;> rfl
     all_goals rfl
   |some m=>
    simp only[at8]
    cases s.list (s.opv x)with
    |none=>rfl
    |some xs=>
     cases s.asInt m with
     |none=>rfl
     |some m=>
      cases boundOf s 0 0 hi with
      |none=>rfl
      |some h=>cases boundOf s 0 0 lo <;> rfl
  all_goals (cases mx <;> rfl)
variable{P:Program}{s:St}{x y:Operand}
def avc(b:ByteArray):Option (List au):=some (lK b)
def avb(i:Int):Option au→Option (List au)
 |some z=>if 0≤i then some (List.replicate i.toNat z)else none
 |none=>none
def axf(z:Option au):Option (IntKind×Int)→Option (List au)
 |some (_,i)=>avb i z
 |none=>none
def ags(P:Program)(s:St)(e:TypeId)(y:Operand):Option TypeDesc→Option (List au)
 |some (.slice _)=>s.list (s.opv y)
 |some .string=>asz avc (optVal s y)
 |some (.int _)=>axf (lq P e) (s.asInt y)
 |_=>none
def awQ(P:Program)(e:TypeId)(xs ys:List au):Prop:=(xs.length+ys.length)*P.bytesOf e≤dU∧jk (P.cellsOf e) ys=true∧0 < P.bytesOf e∧0 < P.cellsOf e∧du P e=true
instance (P:Program) (e:TypeId) (xs ys:List au):Decidable (awQ P e xs ys):=by unfold awQ;infer_instance
def avV(P:Program)(e:TypeId):Option (List au×List Eff)→Option (List au)→Option Out
 |some (xs,es),some ys=>if awQ P e xs ys then some (.cv (.row e (xs++ys)),es)else none
 |some _,none=>none
 |none,_=>none
def awU(P:Program)(s:St)(ty:TypeId)(x y:Operand):Option TypeDesc→Option Out
 |some (.slice e)=>avV P e (s.asRow e x) (ags P s e y (P.underlying ty))
 |_=>none
theorem abm{t ty:TypeId}:appendOp P s t ty x y=awU P s ty x y (P.underlying t):=by
 unfold appendOp
 cases P.underlying t with
 |none=>rfl
 |some td=>
  cases td
  case slice e=>
   simp only[awU]
   have hsrc:(match P.underlying ty with
     |some (.slice _)=>s.list (s.opv y)
     |some .string=>(optVal s y).bind fun d=>match d with
       |.str b=>some (lK b)
       |_=>none
     |some (.int _)=>(s.asInt y).bind fun p=>(lq P e).bind fun z=>if 0≤p.2 then some (List.replicate p.2.toNat z)else none
     |_=>none)=ags P s e y (P.underlying ty):=by
    cases P.underlying ty with
    |none=>rfl
    |some td=>
     cases td
     case string=>
      simp only[ags]
      cases optVal s y with
      |none=>rfl
      |some d=>cases d <;> rfl
     case int k=>
      simp only[ags]
      cases s.asInt y with
      |none=>rfl
      |some p=>cases lq P e <;> rfl
     all_goals rfl
   cases s.asRow e x with
   |none=>rfl
   |some r=>
    refine Eq.trans (congrArg (fun src:Option (List au)=>src.bind fun ys=>if (r.1.length+ys.length)*P.bytesOf e≤dU∧jk (P.cellsOf e) ys∧0 < P.bytesOf e∧0 < P.cellsOf e∧du P e then some ((SV.cv (.row e (r.1++ys))),r.2)else none) hsrc) ?_
    cases ags P s e y (P.underlying ty) <;> rfl
  all_goals rfl
def auw(P:Program)(e:TypeId):Option (IntKind×Int)→Option (IntKind×Int)→Option au→Option Out
 |some (_,a),some (_,b),some z=>if 0≤a∧a=b∧a.toNat*P.bytesOf e≤dU∧0 < P.bytesOf e∧z.cells.length=P.cellsOf e then some (.cv (.row e (List.replicate a.toNat z)),[])else none
 |_,_,_=>none
def aw0(P:Program)(s:St)(n m:Operand):Option TypeDesc→Option Out
 |some (.slice e)=>auw P e (s.asInt n) (s.asInt m) (lq P e)
 |_=>none
theorem uO{t:TypeId}:makeSliceOp P s t x y=aw0 P s x y (P.underlying t):=by
 unfold makeSliceOp
 cases P.underlying t with
 |none=>rfl
 |some td=>
  cases td
  case slice e=>
   simp only[aw0]
   cases s.asInt x with
   |none=>rfl
   |some a=>
    cases s.asInt y with
    |none=>rfl
    |some b=>cases lq P e <;> rfl
  all_goals rfl
def aui(k:IntKind):Option (IntKind×Int)→Option Out
 |some (_,i)=>ret (.int k (k.wrap i))
 |none=>none
def awC(b:ByteArray):Option Out:=ret (.str b)
def ajS(b:ByteArray):Option Out:=ret (.sl (lK b))
def apR:Option (List UInt8)→Option Out
 |some b=>ret (.str ⟨b.toArray⟩)
 |none=>none
def aiP:Option (List au)→Option Out
 |some ds=>apR (strOf ds)
 |none=>none
def aoF(P:Program)(s:St)(x:Operand)(q:Bool):Option TypeDesc→Option TypeDesc→Option Out
 |some (.int _),some (.int k)=>aui k (s.asInt x)
 |some .string,some .string=>asz awC (optVal s x)
 |some (.slice e),some .string=>if amO P e then aiP (s.list (s.opv x))else none
 |some .string,some (.slice e)=>if amO P e then asz ajS (optVal s x)else none
 |some (.slice _),some (.slice e)=>if (q&&amO P e)=true then an1 x (s.opv x)else none
 |_,_=>none
theorem zH{t t':TypeId}:convertOp P s t t' x=aoF P s x (decide (t=t')) (P.underlying t) (P.underlying t'):=by
 unfold convertOp
 cases P.underlying t with
 |none=>rfl
 |some td=>
  cases P.underlying t' with
  |none=>cases td <;> rfl
  |some td'=>
   cases td
   case int k=>
    cases td'
    case int k'=>simp only[aoF];cases s.asInt x <;> rfl
    all_goals rfl
   case string=>
    cases td'
    case string=>
     simp only[aoF]
     cases optVal s x with
     |none=>rfl
     |some d=>cases d <;> rfl
    case slice e=>
     simp only[aoF]
     split
     ·cases optVal s x with
      |none=>rfl
      |some d=>cases d <;> rfl
     ·rfl
    all_goals rfl
   case slice e=>
    cases td'
    case string=>
     simp only[aoF]
     split
     ·cases s.list (s.opv x)with
      |none=>rfl
      |some ds=>simp only[oB,aiP];cases strOf ds <;> rfl
     ·rfl
    all_goals rfl
   all_goals (cases td' <;> rfl)
def awY(i:Nat):SV→Option Out
 |.tup ds=>aoe ds[i]?
 |.cv _=>none
 |.alias _=>none
 |.imm _=>none
 |.elt _ _ _=>none
 |.bld _=>none
 |.undef=>none
theorem aaC{i:Nat}:extractOp s x i=awY i (s.opv x):=by
 unfold extractOp
 cases s.opv x with
 |tup ds=>simp only[awY,wM]
 |_=>rfl
def apG(kt:TypeId):Option dB→Option (List (au×au))
 |some (.map kt' es)=>if kt'=kt then some es else none
 |some (.cells _)=>none
 |none=>none
def axt(s:St)(kt:TypeId):au→Option (List (au×au))
 |.map none=>some []
 |.map (some l)=>apG kt (s.box.at_ l)
 |.agg _=>none
 |.ptr _=>none
 |.int _ _=>none
 |.bool _=>none
 |.str _=>none
 |.sl _=>none
 |.fn _ _ _=>none
 |.nilfn=>none
theorem apt{kt:TypeId}{d:au}:mapAt s kt d=axt s kt d:=by
 unfold mapAt
 cases d with
 |map r=>
  cases r with
  |none=>rfl
  |some l=>
   simp only[axt]
   cases s.box.at_ l with
   |none=>rfl
   |some o=>cases o <;> rfl
 |_=>rfl
def awJ(k z:au)(ok:Bool):Option (List (au×au))→Option Out
 |some es=>if ok=true then some (.tup [(fy k es).getD z,.bool (fy k es).isSome],[])else some (.cv (.val ((fy k es).getD z)),[])
 |none=>none
def lkK(P:Program)(s:St)(kt:TypeId)(ok:Bool):Option au→Option au→Option TypeDesc→Option au→Option Out
 |some d,some k,some td,some z=>if isKey P kt td k=true then awJ k z ok (mapAt s kt d)else none
 |_,_,_,_=>none
def awS(P:Program)(s:St)(x k:Operand)(ok:Bool):Option TypeDesc→Option Out
 |some (.map kt e)=>lkK P s kt ok (optVal s x) (optVal s k) (P.underlying kt) (lq P e)
 |_=>none
theorem adW{t:TypeId}{ok:Bool}:lookupOp P s t x y ok=awS P s x y ok (P.underlying t):=by
 unfold lookupOp
 cases P.underlying t with
 |none=>rfl
 |some td=>
  cases td
  case map kt e=>
   simp only[awS]
   cases optVal s x with
   |none=>rfl
   |some d=>
    cases optVal s y with
    |none=>rfl
    |some k=>
     cases P.underlying kt with
     |none=>rfl
     |some td=>
      cases lq P e with
      |none=>rfl
      |some z=>
       simp only[oB,lkK]
       split
       ·cases mapAt s kt d <;> rfl
       ·rfl
  all_goals rfl
variable{P:Program}{s:St}{x y:Operand}
def auP(l:Nat)(kt:TypeId)(k v:au)(es:List Eff):Option (List (au×au))→Option Out
 |some en=>some (.undef,es++[.setMap l kt (qI k v en)])
 |none=>none
def muD(s:St)(kt:TypeId)(k v:au)(es:List Eff):au→Option Out
 |.map (some l)=>auP l kt k v es (mapAt s kt (.map (some l)))
 |.map none=>none
 |.agg _=>none
 |.ptr _=>none
 |.int _ _=>none
 |.bool _=>none
 |.str _=>none
 |.sl _=>none
 |.fn _ _ _=>none
 |.nilfn=>none
def muK(P:Program)(s:St)(kt:TypeId):Option au→Option au→Option TypeDesc→Option (au×List Eff)→Option Out
 |some d,some k,some td,some (v,es)=>if isKey P kt td k=true then muD s kt k v es d else none
 |_,_,_,_=>none
def awZ(P:Program)(s:St)(x k v:Operand):Option TypeDesc→Option Out
 |some (.map kt _)=>muK P s kt (optVal s x) (optVal s k) (P.underlying kt) (s.asVal v)
 |_=>none
theorem uF{t:TypeId}{z:Operand}:mapUpdateOp P s t x y z=awZ P s x y z (P.underlying t):=by
 unfold mapUpdateOp
 cases P.underlying t with
 |none=>rfl
 |some td=>
  cases td
  case map kt e=>
   simp only[awZ]
   cases optVal s x with
   |none=>rfl
   |some d=>
    cases optVal s y with
    |none=>rfl
    |some k=>
     cases P.underlying kt with
     |none=>rfl
     |some td=>
      cases s.asVal z with
      |none=>rfl
      |some v=>
       simp only[oB,muK]
       split
       ·cases d with
        |map r=>
         cases r with
         |none=>rfl
         |some l=>simp only[muD];cases mapAt s kt (.map (some l)) <;> rfl
        |_=>rfl
       ·rfl
  all_goals rfl
def alD(n:Nat)(z:List CV):Option (List au)→Option Out
 |some _=>if z.length=0 then none else some (.cv (.val (.ptr (some (n,0)))),[.new (.cells z)])
 |none=>none
def alO(n:Nat):Option (List CV)→Option Out
 |some z=>alD n z (je z)
 |none=>none
def bxO(n k:Nat):Option (List CV×List Eff)→Option Out
 |some (cs,es)=>if cs.length=k∧eQ (cs.drop 1)=false then some (.cv (.val (.ptr (some (n,0)))),es++[.new (.cells cs)])else none
 |none=>none
def axY:Option (List CV×List Eff)→Option Out
 |some (cs,es)=>some (.bld cs,es)
 |none=>none
def ue(P:Program)(s:St)(t:TypeId)(ps:List (Nat×Operand))(z:List CV):Bool→Option (List au)→Option Out
 |true,some _=>axY (buildCells P s t z ps)
 |true,none=>none
 |false,_=>none
def bdO(P:Program)(s:St)(t:TypeId)(ps:List (Nat×Operand)):Option (List CV)→Option Out
 |some z=>ue P s t ps z (cL P t) (je z)
 |none=>none
def aqt(es:List Eff):Option (List CV×List Eff)→Option (List CV×List Eff)
 |some (cs,es')=>some (cs,es++es')
 |none=>none
def ako(P:Program)(s:St)(t:TypeId)(ps:List (Nat×Operand))(cs:List CV)(off n:Nat):Option (List CV×List Eff)→Option (List CV×List Eff)
 |some (c,es)=>if c.length=n∧off+n≤cs.length then aqt es (buildCells P (s.effs es) t (setFrom cs off c) ps)else none
 |none=>none
def aaL(P:Program)(s:St)(t:TypeId)(x:Operand)(ps:List (Nat×Operand))(cs:List CV):Option (Nat×Nat)→Option (List CV×List Eff)
 |some (off,n)=>ako P s t ps cs off n (partCells s x)
 |none=>none
theorem uH{t:TypeId}{cs:List CV}:buildCells P s t cs []=some (cs,[]):=rfl
theorem sL{t:TypeId}{cs:List CV}{i:Nat}{ps:List (Nat×Operand)}:buildCells P s t cs ((i,x)::ps)=aaL P s t x ps cs (place P t i):=by
 simp only[buildCells]
 cases place P t i with
 |none=>rfl
 |some p=>
  obtain⟨off,n⟩:=p
  simp only[oB,aaL]
  cases partCells s x with
  |none=>rfl
  |some c=>
   obtain⟨c,es⟩:=c
   simp only[oB,ako]
   split
   ·cases buildCells P (s.effs es) t (setFrom cs off c) ps <;> rfl
   ·rfl
def aqs(d:au)(es:List Eff):Option (List au×List Eff)→Option (List au×List Eff)
 |some (ds,es')=>some (d::ds,es++es')
 |none=>none
def ai9(P:Program)(s:St)(k j:Nat)(ps:List (Nat×Operand)):Option (au×List Eff)→Option (List au×List Eff)
 |some (d,es)=>if d.cells.length=k then aqs d es (buildElems P (s.effs es) k (j+1) ps)else none
 |none=>none
theorem uP{k j:Nat}:buildElems P s k j []=some ([],[]):=rfl
theorem tP{k j i:Nat}{ps:List (Nat×Operand)}:buildElems P s k j ((i,x)::ps)=if i=j then ai9 P s k j ps (s.asVal x)else none:=by
 simp only[buildElems]
 split
 ·cases s.asVal x with
  |none=>rfl
  |some d=>
   obtain⟨d,es⟩:=d
   simp only[oB,ai9]
   split
   ·cases buildElems P (s.effs es) k (j+1) ps <;> rfl
   ·rfl
 ·rfl
def av6(P:Program)(e:TypeId)(n:Nat):Option (List au×List Eff)→Option Out
 |some (ds,es)=>if ds.length=n∧n*P.cellsOf e≤2^24∧P.cellsOf e≠0∧fe P e=true then some (.cv (.row e ds),es)else none
 |none=>none
def axq(P:Program)(s:St)(n:Nat)(ps:List (Nat×Operand)):Option TypeDesc→Option Out
 |some (.slice e)=>av6 P e n (buildElems P s (P.cellsOf e) 0 ps)
 |_=>none
def auQ(n:Nat)(kt:TypeId):Option TypeDesc→Option Out
 |some _=>some (.cv (.val (.map (some n))),[.new (.map kt [])])
 |none=>none
def axE(P:Program)(n:Nat):Option TypeDesc→Option Out
 |some (.map kt _)=>auQ n kt (P.underlying kt)
 |_=>none
def awu(f:FuncId):Option (List au)→Option (List au)→Option Out
 |some a,some b=>if a.all au.one&&b.all au.one then ret (.fn f a b)else none
 |some _,none=>none
 |none,_=>none
def aqz(d:au):Option (List au)→Option (List au)
 |some ds=>some (d::ds)
 |none=>none
def ajK(s:St)(xs:List Operand):Option au→Option (List au)
 |some d=>aqz d (optVals s xs)
 |none=>none
theorem abj:optVals s []=some []:=rfl
theorem yA{xs:List Operand}:optVals s (x::xs)=ajK s xs (optVal s x):=by
 simp only[optVals]
 cases optVal s x with
 |none=>rfl
 |some d=>simp only[oB,ajK];cases optVals s xs <;> rfl
def ajH(l off n m:Nat):Option (List CV×List Eff)→Option Out
 |some (c,es)=>if c.length=n∧off+n≤m then some (.undef,es++setCells l off c)else none
 |none=>none
def atV(l off n:Nat)(c:Option (List CV×List Eff)):Option dB→Option Out
 |some (.cells cs)=>ajH l off n cs.length c
 |some (.map _ _)=>none
 |none=>none
def aqD(s:St)(n:Nat)(c:Option (List CV×List Eff))(l off:Nat):Option Out:=atV l off n c (s.box.at_ l)
def aov(r:fb)(k:TypeId)(xs:List au)(i off n:Nat)(e:au):Option (au×List Eff)→Option Out
 |some (d,[])=>if d.cells.length=n∧off+n≤e.cells.length then some (.undef,[.setRow r k (xs.set i (rF e (setFrom e.cells off d.cells)))])else none
 |some (_,_::_)=>none
 |none=>none
def axB(r:fb)(k:TypeId)(xs:List au)(i off n:Nat)(v:Option (au×List Eff)):Option au→Option Out
 |some e=>aov r k xs i off n e v
 |none=>none
def aqC(r:fb)(i off n:Nat)(v:Option (au×List Eff)):Option (TypeId×List au)→Option Out
 |some (k,xs)=>axB r k xs i off n v xs[i]?
 |none=>none
def aua(s:St)(n:Nat)(y:Operand):SV→Option Out
 |.cv (.val d)=>at2 (aqD s n (s.asCells y)) d
 |.elt r i off=>aqC r i off n (s.asVal y) (s.rowAt r)
 |.imm _=>none
 |.cv .nil=>none
 |.cv (.row _ _)=>none
 |.cv .dead=>none
 |.alias _=>none
 |.bld _=>none
 |.tup _=>none
 |.undef=>none
theorem ahL{t:TypeId}:storeOp P s t x y=if P.cellsOf t=0 then none else aua s (P.cellsOf t) y (s.opv x):=by
 unfold storeOp
 split
 ·rfl
 ·cases s.opv x with
  |cv c=>
   cases c with
   |val d=>
    cases d with
    |ptr a=>
     cases a with
     |none=>rfl
     |some a=>
      obtain⟨l,off⟩:=a
      simp only[aua,at2,aqD]
      cases s.box.at_ l with
      |none=>rfl
      |some o=>
       cases o with
       |map _ _=>rfl
       |cells cs=>simp only[atV];cases s.asCells y <;> rfl
    |_=>rfl
   |_=>rfl
  |elt r i off=>
   simp only[aua]
   cases s.rowAt r with
   |none=>rfl
   |some p=>
    obtain⟨k,xs⟩:=p
    simp only[oB,aqC]
    cases xs[i]? with
    |none=>rfl
    |some e=>
     simp only[oB,axB]
     cases s.asVal y with
     |none=>rfl
     |some d=>
      obtain⟨d,es⟩:=d
      cases es with
      |nil=>simp only[oB,aov,List.isEmpty_nil,true_and]
      |cons _ _=>simp[aov]
  |_=>rfl
variable{P:Program}{s:St}{dst:Option Tmp}{ty:TypeId}{pos:String}{after:Array Edge}{g:Option (Nat×Bool)}
def mnO(mx:Bool):Option (List (IntKind×Int))→Option Out
 |some ((k,a)::l)=>aoe (gg mx k a l)
 |some []=>none
 |none=>none
def aqq(p:IntKind×Int):Option (List (IntKind×Int))→Option (List (IntKind×Int))
 |some l=>some (p::l)
 |none=>none
def amd(s:St)(xs:List Operand):Option (IntKind×Int)→Option (List (IntKind×Int))
 |some p=>aqq p (asInts s xs)
 |none=>none
theorem afn:asInts s []=some []:=rfl
theorem abM{x:Operand}{xs:List Operand}:asInts s (x::xs)=amd s xs (s.asInt x):=by
 simp only[asInts]
 cases s.asInt x with
 |none=>rfl
 |some d=>simp only[oB,amd];cases asInts s xs <;> rfl
theorem aiY{t t':TypeId}{x:Operand}:aop P s ⟨dst,.convert t t' x,ty,pos,after,g⟩=aoF P s x (decide (t=t')) (P.underlying t) (P.underlying t'):=zH
theorem alC{x:Operand}{i:Nat}:aop P s ⟨dst,.extract x i,ty,pos,after,g⟩=awY i (s.opv x):=aaC
theorem asE{t:TypeId}{x y:Operand}:aop P s ⟨dst,.index t x y,ty,pos,after,g⟩=am3 P t (optVal s x) (s.asInt y):=ahi
theorem ast{t:TypeId}{x:Operand}{lo hi mx:Option Operand}:aop P s ⟨dst,.slice t x lo hi mx,ty,pos,after,g⟩=at8 P s x lo hi (P.underlying t) mx:=agv
theorem arE{t:TypeId}{x y:Operand}:aop P s ⟨dst,.store t x y,ty,pos,after,g⟩=if P.cellsOf t=0 then none else aua s (P.cellsOf t) y (s.opv x):=ahL
theorem asN{t:TypeId}:aop P s ⟨dst,.alloc t,ty,pos,after,g⟩=alO s.box.n (cd P t):=by
 show((cd P t).bind fun z=>if z.length=0∨(je z).isNone then none else some ((SV.cv (.val (.ptr (some (s.box.n,0))))),[Eff.new (.cells z)]))=_
 cases cd P t with
 |none=>rfl
 |some z=>
  simp only[oB,alO]
  cases je z with
  |none=>simp[alD]
  |some d=>simp[alD]
theorem axj{t:TypeId}{x:Operand}:aop P s ⟨dst,.box t x,ty,pos,after,g⟩=bxO s.box.n (P.cellsOf t) (s.asCells x):=by
 show((s.asCells x).bind fun c=>if c.1.length=P.cellsOf t∧eQ (c.1.drop 1)=false then some ((SV.cv (.val (.ptr (some (s.box.n,0))))),c.2++[Eff.new (.cells c.1)])else none)=_
 cases s.asCells x <;> rfl
theorem ass{t:TypeId}{ps:Array (Nat×Operand)}:aop P s ⟨dst,.build t ps,ty,pos,after,g⟩=bdO P s t ps.toList (cd P t):=by
 show((cd P t).bind fun z=>if cL P t∧(je z).isSome then(buildCells P s t z ps.toList).bind fun r=>some ((SV.bld r.1),r.2)else none)=_
 cases cd P t with
 |none=>rfl
 |some z=>
  simp only[oB,bdO]
  cases cL P t with
  |false=>cases je z <;> simp[ue]
  |true=>
   cases je z with
   |none=>simp[ue]
   |some d=>simp only[Option.isSome_some,and_self,if_true,ue];cases buildCells P s t z ps.toList <;> rfl
theorem yD{t:TypeId}{n:Nat}{ps:Array (Nat×Operand)}:aop P s ⟨dst,.buildSlice t n ps,ty,pos,after,g⟩=axq P s n ps.toList (P.underlying t):=by
 show(match P.underlying t with
  |some (.slice e)=>(buildElems P s (P.cellsOf e) 0 ps.toList).bind fun r=>if r.1.length=n∧n*P.cellsOf e≤2^24∧P.cellsOf e≠0∧fe P e then some ((SV.cv (.row e r.1)),r.2)else none
  |_=>none)=_
 cases P.underlying t with
 |none=>rfl
 |some td=>
  cases td
  case slice e=>simp only[axq];cases buildElems P s (P.cellsOf e) 0 ps.toList <;> rfl
  all_goals rfl
theorem acB{t:TypeId}{n m:Operand}:aop P s ⟨dst,.makeSlice t n m,ty,pos,after,g⟩=aw0 P s n m (P.underlying t):=uO
theorem amn{t:TypeId}:aop P s ⟨dst,.makeMap t none,ty,pos,after,g⟩=axE P s.box.n (P.underlying t):=by
 show(match P.underlying t with
  |some (.map kt _)=>if (P.underlying kt).isSome then some ((SV.cv (.val (.map (some s.box.n)))),[Eff.new (.map kt [])])else none
  |_=>none)=_
 cases P.underlying t with
 |none=>rfl
 |some td=>
  cases td
  case map kt e=>simp only[axE];cases P.underlying kt <;> rfl
  all_goals rfl
theorem aga{f:FuncId}{first caps:Array Operand}:aop P s ⟨dst,.makeFunc (.func f) first caps,ty,pos,after,g⟩=awu f (optVals s first.toList) (optVals s caps.toList):=by
 show((optVals s first.toList).bind fun a=>(optVals s caps.toList).bind fun b=>if a.all au.one&&b.all au.one then ret (.fn f a b)else none)=_
 cases optVals s first.toList with
 |none=>rfl
 |some a=>cases optVals s caps.toList <;> rfl
theorem ao0{t:TypeId}{x k:Operand}{ok:Bool}:aop P s ⟨dst,.lookup t x k ok,ty,pos,after,g⟩=awS P s x k ok (P.underlying t):=adW
theorem ac5{t:TypeId}{x k v:Operand}:aop P s ⟨dst,.mapUpdate t x k v,ty,pos,after,g⟩=awZ P s x k v (P.underlying t):=uF
theorem anL{x y:Operand}{t t':TypeId}:aop P s ⟨dst,.call ⟨.builtin .append,#[x,y],#[t,t']⟩,ty,pos,after,g⟩=awU P s t' x y (P.underlying t):=abm
theorem axa{args:Array Operand}{ts:Array TypeId}:aop P s ⟨dst,.call ⟨.builtin .min,args,ts⟩,ty,pos,after,g⟩=mnO false (asInts s args.toList):=by
 show((asInts s args.toList).bind fun l=>match l with|(k,a)::l=>(gg false k a l).bind ret | []=>none)=_
 cases asInts s args.toList with
 |none=>rfl
 |some l=>
  cases l with
  |nil=>rfl
  |cons p l=>obtain⟨k,a⟩:=p;simp only[oB,mnO,wM]
theorem axK{args:Array Operand}{ts:Array TypeId}:aop P s ⟨dst,.call ⟨.builtin .max,args,ts⟩,ty,pos,after,g⟩=mnO true (asInts s args.toList):=by
 show((asInts s args.toList).bind fun l=>match l with|(k,a)::l=>(gg true k a l).bind ret | []=>none)=_
 cases asInts s args.toList with
 |none=>rfl
 |some l=>
  cases l with
  |nil=>rfl
  |cons p l=>obtain⟨k,a⟩:=p;simp only[oB,mnO,wM]
attribute [go_sem] ajD aof agE amU apv ats aax rowAt_slot agl apu acO aoc ao7 apj atq afj acG asw ahw avr anP avk au0 atj afs ave avB avs abK ac8 axW ax6 yQ zu apt uH sL uP tP abj yA afn abM aiY alC asE ast arE asN axj ass yD acB amn aga ao0 ac5 anL axa axK za
attribute [go_sem] aoe.eq_1 yG.eq_1 yG.eq_3 yG.eq_8 aqn.eq_1 mr.eq_1 mr.eq_2 mr.eq_3 mr.eq_4 ant.eq_1 ant.eq_2 alH.eq_1 ayf.eq_1 yP.eq_1 yP.eq_2 yP.eq_3 yP.eq_4 yP.eq_5 tT.eq_1 tT.eq_3 tT.eq_5 akO.eq_1 an6.eq_2 an6.eq_3 intD.eq_1 avo.eq_1 amx.eq_1 slD.eq_1 yc.eq_1 yc.eq_3 yc.eq_4 avx.eq_1 aep.eq_3 aep.eq_5 amh.eq_1 aj6.eq_1 cellOf.eq_1 aav.eq_1 aiA.eq_1 aiA.eq_2 aiA.eq_3 aiA.eq_4 aiA.eq_9 oe.eq_2 oe.eq_3 oe.eq_4 ar3.eq_1 ar3.eq_2 ap2.eq_1 unK.eq_1 axu.eq_1 ayc.eq_1 awz.eq_1 apD.eq_1 abF.eq_1 abF.eq_2 acu.eq_1 ap3.eq_1 arU.eq_1 arU.eq_3 ajq loadCells.eq_1 loadCells.eq_2 loadAt.eq_1 pw amg.eq_1 acf.eq_1 at2.eq_1 ad1 tr.eq_1 tr.eq_2 tr.eq_3 afb.eq_1 avK.eq_1 apU.eq_1 aka.eq_1 aj5.eq_1 aj5.eq_3 ap5 awm at6.eq_1 at6.eq_2 at6.eq_3 aly.eq_1 aly.eq_2 aeD.eq_1 axl.eq_1 awT.eq_1 al3.eq_1 ap6.eq_1 abS.eq_2 ab3.eq_1 acv.eq_2 acv.eq_3 axi.eq_1 arH.eq_1 asV aq1 axT awV.eq_2 am3.eq_1 avp.eq_1 asC au7.eq_1 ame.eq_1 atn slV.eq_1 at8.eq_2 avc ags.eq_1 avV.eq_1 awU.eq_1 auw.eq_1 aw0.eq_1 aui.eq_1 awC ajS apR.eq_1 aiP.eq_1 aoF.eq_1 aoF.eq_3 awY.eq_1 apG.eq_1 axt.eq_2 awJ.eq_1 lkK.eq_1 awS.eq_1 auP.eq_1 muD.eq_1 muK.eq_1 awZ.eq_1 alD.eq_1 alO.eq_1 bxO.eq_1 axY.eq_1 ue.eq_1 bdO.eq_1 aqt.eq_1 ako.eq_1 aaL.eq_1 aqs.eq_1 ai9.eq_1 av6.eq_1 axq.eq_1 auQ.eq_1 axE.eq_1 awu.eq_1 aqz.eq_1 ajK.eq_1 ajH.eq_1 atV.eq_1 aqD aov.eq_1 axB.eq_1 aqC.eq_1 aua.eq_1 aua.eq_2 mnO.eq_1 aqq.eq_1 amd.eq_1
attribute [go_sem] gX.eq_1 gX.eq_2 wz.eq_1 uE.eq_1 uE.eq_2 aeR.eq_1 al5.eq_1 wZ.eq_1 acH fB.eq_1 St.opv.eq_1 St.opv.eq_2 St.opv.eq_3 St.get anz akg ano asd agB ao4 ape amV ah8 xE aog ab7 uA yF apz aiI alL ajB St.effs.eq_1 St.effs.eq_2 St.setRoot.eq_1 St.setRoot.eq_2 dy.eq_1 dy.eq_2 lit.eq_1 lit.eq_2 lit.eq_3 lit.eq_4 lit.eq_6 ret mc.eq_1 ai3.eq_1 unD.eq_2 adH we SV.fits CV.fits SV.rooted dX entry Option.map_some gP eq_self Bool.false_eq_true List.length_map oB and_self true_and and_true false_and and_false or_self or_false false_or or_true true_or not_true not_false_eq_true if_true if_false gu fl au.cells lC List.length_nil List.take_succ_cons List.take_zero List.drop_zero
variable{C:Ctx}{s:St}{x:Operand}
theorem ap0{R:dm}(k:Nat){ops:Array Oper}{K:St→Prop}{l:List Oper}{s s':St}{o:Oper}{os:List Oper}(hl:l.drop k=o::os)(h:gX C.P ops (l.take k) s=some s')(hk:wpOps C R ops (o::os) K s'):wpOps C R ops l K s:=
 ann k h (hl ▸ hk)
theorem aaa{R:dm}{ops:Array Oper}{K:St→Prop}{l:List Oper}{s':St}(h:gX C.P ops l s=some s')(hk:K s'):wpOps C R ops l K s:=aer h hk
theorem auc{R:dm}{m:Nat}{Q:Ex→St→Prop}{id:Nat}{ops:Array Oper}{l:List Oper}(hl:ops.toList=l)(h:wpOps C R ops l (Q .normal) s):aO C R m (.region id ops false) Q s:=⟨s,.refl s,hl ▸ h⟩
def aqv:Option (au×List Eff)→Option (SV×List Eff)
 |some (d,es)=>some (.cv (.val d),es)
 |none=>none
def aub(r:fb):Option (TypeId×List au)→Option (SV×List Eff)
 |some (k,xs)=>some (.cv (.row k xs),[.kill r])
 |none=>none
def yZ(s:St)(x:Operand):SV→Option (SV×List Eff)
 |.cv .nil=>some (.cv .nil,[])
 |.cv (.row k xs)=>some (.cv (.row k xs),[.kill (.slot (mc x))])
 |.alias r=>aub r (s.rowAt r)
 |.cv (.val _)=>none
 |.cv .dead=>none
 |.imm _=>none
 |.elt _ _ _=>none
 |.bld _=>none
 |.tup _=>none
 |.undef=>none
theorem agh:argOf s .data x=aqv (s.asVal x):=by
 simp only[argOf]
 cases s.asVal x <;> rfl
theorem ahn:argOf s .move x=yZ s x (s.opv x):=by
 simp only[argOf]
 cases s.opv x with
 |cv c=>cases c <;> rfl
 |alias r=>simp only[yZ];cases s.rowAt r <;> rfl
 |_=>rfl
def aqB(a:SV)(es:List Eff):Option (List SV×List Eff)→Option (List SV×List Eff)
 |some (as,es')=>some (a::as,es++es')
 |none=>none
def alS(C:Ctx)(f:FuncId)(s:St)(i:Nat)(xs:List Operand):Option (SV×List Eff)→Option (List SV×List Eff)
 |some (a,es)=>aqB a es (iT C f (s.effs es) (i+1) xs)
 |none=>none
theorem aic{f:FuncId}{i:Nat}:iT C f s i []=some ([],[]):=rfl
theorem ade{f:FuncId}{i:Nat}{xs:List Operand}:iT C f s i (x::xs)=alS C f s i xs (argOf s (C.how f i) x):=by
 simp only[iT]
 cases argOf s (C.how f i) x with
 |none=>rfl
 |some a=>simp only[oB,alS];cases iT C f (s.effs a.2) (i+1) xs <;> rfl
def fnD:au→Option (FuncId×List au×List au)
 |.fn f a b=>some (f,a,b)
 |.map _=>none
 |.agg _=>none
 |.ptr _=>none
 |.int _ _=>none
 |.bool _=>none
 |.str _=>none
 |.sl _=>none
 |.nilfn=>none
def ax8:SV→Option (FuncId×List au×List au)
 |.cv (.val d)=>fnD d
 |.cv .nil=>none
 |.cv (.row _ _)=>none
 |.cv .dead=>none
 |.alias _=>none
 |.imm _=>none
 |.elt _ _ _=>none
 |.bld _=>none
 |.tup _=>none
 |.undef=>none
theorem aba{g:FuncId}:callee s (.func g)=some (g,[],[]):=rfl
theorem aix{t:Nat}:callee s (.tmp t)=ax8 (s.get t):=by
 simp only[callee,St.opv]
 cases s.get t with
 |cv c=>
  cases c with
  |val d=>cases d <;> rfl
  |_=>rfl
 |_=>rfl
theorem akf{c:CV}:SV.uncell (.cv c)= .cv c:=rfl
theorem zK:SV.uncell .undef= .undef:=rfl
theorem afN{cs:List au}:SV.uncell (.imm cs)= .imm cs:=rfl
theorem agK{cs:List CV}:SV.uncell (.bld cs)= .bld cs:=rfl
theorem aij{ds:List au}:SV.uncell (.tup ds)= .tup ds:=rfl
theorem ada{i:Nat}:SV.uncell (.alias (.slot i))= .alias (.slot i):=rfl
theorem ac2{l i:Nat}:SV.uncell (.alias (.cell l i))= .cv .dead:=rfl
theorem zP{i j o:Nat}:SV.uncell (.elt (.slot i) j o)= .elt (.slot i) j o:=rfl
theorem zU{l i j o:Nat}:SV.uncell (.elt (.cell l i) j o)= .cv .dead:=rfl
attribute [go_sem] agh ahn aic ade aba aix akf zK afN agK aij ada ac2 zP zU
attribute [go_sem] aqv.eq_1 aub.eq_1 yZ.eq_1 yZ.eq_2 yZ.eq_3 aqB.eq_1 alS.eq_1 fnD.eq_1 ax8.eq_1 packed.eq_1 packed.eq_2 jI List.map_cons List.map_nil List.nil_append List.cons_append List.append_nil List.append_assoc
variable{C:Ctx}{R:dm}{ops:Array Oper}{tab:List (Nat×Nat)}
def uc(s:St)(d:Option Nat):Option Out→Option St
 |some (v,[])=>some (s.put d v)
 |some (_,_::_)=>none
 |none=>none
def aaU(P:Program)(s:St)(o:Oper):Option Bool→Option St
 |some true=>uc s o.dst (aop P s o)
 |some false=>some (s.put o.dst .undef)
 |none=>none
def aeT(P:Program)(ops:Array Oper)(s:St):Option Oper→Option St
 |some o=>if pass o=true then aaU P s o (guardOf ops s o)else none
 |none=>none
mutual
def mU(P:Program)(ops:Array Oper):List Nat→St→Option St
 | [],s=>some s
 |i::l,s=>sD P ops l (aeT P ops s ops[i]?)
def sD(P:Program)(ops:Array Oper):List Nat→Option St→Option St
 |l,some s=>mU P ops l s
 |_,none=>none
end
theorem yx{P:Program}{i:Nat}{l:List Nat}{s s':St}(h:mU P ops (i::l) s=some s'):∃o s1,ops[i]? =some o∧pass o=true∧aaU P s o (guardOf ops s o)=some s1∧mU P ops l s1=some s':=by
 rw[mU]at h
 cases he:aeT P ops s ops[i]? with
 |none=>rw[he,sD]at h;cases h
 |some s1=>
  rw[he,sD]at h
  cases ho:ops[i]? with
  |none=>rw[ho]at he;cases he
  |some o=>
   rw[ho]at he
   simp only[aeT]at he
   split at he
   ·rename_i hp;exact⟨o,s1,rfl,hp,he,h⟩
   ·cases he
theorem zX{K:St→Prop}:∀{l rest pend:List Nat} {s s':St},mU C.P ops l s=some s'→di C R ops tab (l.reverse++pend) rest K s'→di C R ops tab pend (l++rest) K s
 | [],rest,pend,s,s',h,hk=>by rw[mU]at h;cases h;simpa using hk
 |i::l,rest,pend,s,s',h,hk=>by
  obtain⟨o,s1,ho,hp,hg,h1⟩:=yx h
  have ih:=zX (rest:=rest) (pend:=i::pend) h1 (by simpa[List.reverse_cons,List.append_assoc]using hk)
  simp only[List.cons_append,di]
  refine⟨o,ho,?_⟩
  simp only[hp]
  cases hb:guardOf ops s o with
  |none=>rw[hb]at hg;simp[aaU]at hg
  |some b=>
   rw[hb]at hg
   refine⟨b,rfl,fun e=>?_,fun e=>?_⟩
   ·subst e
    simp only[aaU]at hg
    cases ha:aop C.P s o with
    |none=>rw[ha]at hg;simp[uc]at hg
    |some r=>
     obtain⟨v,es⟩:=r
     rw[ha]at hg
     cases es with
     |nil=>simp only[uc,sJ]at hg;subst hg;exact⟨v,rfl,ih⟩
     |cons _ _=>simp[uc]at hg
   ·subst e
    simp only[aaU,sJ]at hg
    subst hg;exact ih
theorem cT{m:Nat}{Q:Ex→St→Prop}{s:St}{id:Nat}(plan:List Nat)(hp:sV ops plan=true)(h:di C R ops (dP ops plan []) [] plan (Q .normal) s):aO C R m (.region id ops true) Q s:=⟨s,plan,.refl s,.inl ⟨hp,h⟩⟩
theorem axR{m:Nat}{Q:Ex→St→Prop}{s:St}{id:Nat}(A:List Nat)(x y:Nat)(B:List Nat)(ht:xw ops A x y B=true)(h1:di C R ops (dP ops (A++x::y::B) []) [] (A++x::y::B) (Q .normal) s)(h2:di C R ops (dP ops (A++y::x::B) []) [] (A++y::x::B) (Q .normal) s):aO C R m (.region id ops true) Q s:=⟨s,A++x::y::B,.refl s,.inr ⟨A,x,y,B,rfl,ht,h1,h2⟩⟩
theorem ajP{P:Program}{op:BinOp}{t:TypeId}{a b:Bool}:ai3 P op t (.bool a) (.bool b)=me P op t (.bool a) (.bool b):=rfl
theorem aoX{P:Program}{op:BinOp}{t:TypeId}{a b:Option (Nat×Nat)}:ai3 P op t (.ptr a) (.ptr b)=me P op t (.ptr a) (.ptr b):=rfl
theorem an2{P:Program}{op:BinOp}{t:TypeId}{a b:List au}:ai3 P op t (.agg a) (.agg b)=me P op t (.agg a) (.agg b):=rfl
theorem ajn{a b:ByteArray}:(a.toList==b.toList)=decide (a=b):=by
 rw[← beq_toListBytes]
 cases h:a==b with
 |true=>have:=awN h;subst this;simp
 |false=>
  have:a≠b:=fun e=>by subst e;rw[alF]at h;cases h
  simp[this]
attribute [go_sem] aee su ajP aoX an2
def bn.on(h:bn)(os:List (Option dB)):bn:=⟨h.n+os.length,fun i=>if i < h.n then h.at_ i else(os[i - h.n]?).join⟩
theorem bn.ext{h h':bn}(hn:h.n=h'.n)(ha:∀i,h.at_ i=h'.at_ i):h=h':=by
 cases h;cases h';simp only at hn ha;subst hn;simp only[bn.mk.injEq,true_and];exact funext ha
theorem aE{h:bn}(hwf:h.WF):h.on []=h:=by
 refine bn.ext rfl fun i=>?_
 simp only[bn.on]
 split
 ·rfl
 ·cases hi:h.at_ i with
  |none=>rfl
  |some o=>exact absurd (hwf i o hi).1 (by assumption)
theorem av8{h:bn}{os:List (Option dB)}{o:dB}:(h.on os).new o=h.on (os++[some o]):=by
 refine bn.ext (by simp[bn.on,bn.new,Nat.add_assoc]) fun i=>?_
 show(if i=h.n+os.length then some o else(if i < h.n then h.at_ i else(os[i - h.n]?).join))=(if i < h.n then h.at_ i else((os++[some o])[i - h.n]?).join)
 by_cases h1:i < h.n
 ·rw[if_neg (by omega),if_pos h1,if_pos h1]
 ·by_cases h2:i=h.n+os.length
  ·subst h2;rw[if_pos rfl,if_neg h1];simp
  ·rw[if_neg h2,if_neg h1,if_neg h1]
   by_cases h3:i - h.n < os.length
   ·rw[List.getElem?_append_left h3]
   ·rw[gN (by omega),gN (by simp;omega)]
theorem abD{h:bn}{os os':List (Option dB)}:(h.on os).on os'=h.on (os++os'):=by
 refine bn.ext (by simp[bn.on,Nat.add_assoc]) fun i=>?_
 show(if i < h.n+os.length then(if i < h.n then h.at_ i else(os[i - h.n]?).join)else(os'[i - (h.n+os.length)]?).join)=(if i < h.n then h.at_ i else((os++os')[i - h.n]?).join)
 by_cases h1:i < h.n
 ·rw[if_pos (by omega),if_pos h1,if_pos h1]
 ·by_cases h2:i < h.n+os.length
  ·rw[if_pos h2,if_neg h1,if_neg h1,List.getElem?_append_left (by omega)]
  ·rw[if_neg h2,if_neg h1,List.getElem?_append_right (by omega)]
   congr 2;omega
theorem auD{h:bn}{os:List (Option dB)}{k:Nat}:(h.on os).at_ (h.n+k)=(os[k]?).join:=by
 simp only[bn.on];rw[if_neg (by omega)];congr 2;omega
theorem fc{h:bn}{os:List (Option dB)}{l:Nat}(hl:l < h.n):(h.on os).at_ l=h.at_ l:=by simp only[bn.on];rw[if_pos hl]
theorem pt{h:bn}{os:List (Option dB)}{k:Nat}{o:dB}(hk:k < os.length):(h.on os).upd (h.n+k) o=h.on (os.set k (some o)):=by
 refine bn.ext (by simp[bn.on,bn.upd]) fun i=>?_
 show(if i=h.n+k then some o else(if i < h.n then h.at_ i else(os[i - h.n]?).join))=(if i < h.n then h.at_ i else((os.set k (some o))[i - h.n]?).join)
 by_cases h1:i < h.n
 ·rw[if_neg (by omega),if_pos h1,if_pos h1]
 ·rw[if_neg h1,if_neg h1,List.getElem?_set]
  by_cases h2:i=h.n+k
  ·subst h2;rw[if_pos rfl,if_pos (by omega),if_pos (by omega)];rfl
  ·rw[if_neg h2,if_neg (by omega)]
theorem ard{h:bn}{a:Option dB}{os:List (Option dB)}{o:dB}:(h.on (a::os)).upd (h.n+0) o=h.on (some o::os):=pt (by simp)
theorem akW{h:bn}{a b:Option dB}{os:List (Option dB)}{o:dB}:(h.on (a::b::os)).upd (h.n+1) o=h.on (a::some o::os):=pt (by simp)
theorem akl{h:bn}{a b c:Option dB}{os:List (Option dB)}{o:dB}:(h.on (a::b::c::os)).upd (h.n+2) o=h.on (a::b::some o::os):=pt (by simp)
theorem akr{h:bn}{a b c d:Option dB}{os:List (Option dB)}{o:dB}:(h.on (a::b::c::d::os)).upd (h.n+3) o=h.on (a::b::c::some o::os):=pt (by simp)
theorem alU{h:bn}{a b c d e:Option dB}{os:List (Option dB)}{o:dB}:(h.on (a::b::c::d::e::os)).upd (h.n+4) o=h.on (a::b::c::d::some o::os):=pt (by simp)
theorem arX{h:bn}{a b c d e f:Option dB}{os:List (Option dB)}{o:dB}:(h.on (a::b::c::d::e::f::os)).upd (h.n+5) o=h.on (a::b::c::d::e::some o::os):=pt (by simp)
theorem aqU{h:bn}{a b c d e f g:Option dB}{os:List (Option dB)}{o:dB}:(h.on (a::b::c::d::e::f::g::os)).upd (h.n+6) o=h.on (a::b::c::d::e::f::some o::os):=pt (by simp)
theorem aqY{h:bn}{a b c d e f g z:Option dB}{os:List (Option dB)}{o:dB}:(h.on (a::b::c::d::e::f::g::z::os)).upd (h.n+7) o=h.on (a::b::c::d::e::f::g::some o::os):=pt (by simp)
theorem fT{h:bn}{os:List (Option dB)}{l:Nat}{o:dB}(hl:l < h.n):(h.on os).upd l o=(h.upd l o).on os:=by
 refine bn.ext rfl fun i=>?_
 show(if i=l then some o else(if i < h.n then h.at_ i else(os[i - h.n]?).join))=(if i < h.n then(if i=l then some o else h.at_ i)else(os[i - h.n]?).join)
 by_cases h1:i=l
 ·subst h1;rw[if_pos rfl,if_pos hl,if_pos rfl]
 ·rw[if_neg h1]
  by_cases h2:i < h.n
  ·rw[if_pos h2,if_pos h2,if_neg h1]
  ·rw[if_neg h2,if_neg h2]
theorem axF{h:bn}{l:Nat}{o:dB}:(h.upd l o).n=h.n:=rfl
theorem auT{h:bn}{l:Nat}{o:dB}:(h.upd l o).at_ l=some o:=by simp[bn.upd]
theorem ry{h:bn}{l l':Nat}{o:dB}(hne:l'≠l):(h.upd l o).at_ l'=h.at_ l':=by simp[bn.upd,hne]
theorem asb{h:bn}{l:Nat}{o o':dB}:(h.upd l o).upd l o'=h.upd l o':=bn.ext rfl fun i=>by simp only[bn.upd];split <;> rfl
theorem fh{h:bn}{l:Nat}{o:dB}(ha:h.at_ l=some o):h.upd l o=h:=bn.ext rfl fun i=>by
 simp only[bn.upd];split
 ·rename_i e;rw[e,ha]
 ·rfl
theorem WF.upd{h:bn}{l:Nat}{o:dB}(hwf:h.WF)(hl:l < h.n)(ho:o.under h.n):(h.upd l o).WF:=fun i o' hi=>by
 simp only[bn.upd]at hi
 split at hi
 ·rename_i e;cases hi;subst e;exact⟨hl,ho⟩
 ·exact hwf i o' hi
theorem aw6{h:bn}:(h.on []).n=h.n+0:=rfl
theorem axL{h:bn}{a:Option dB}:(h.on [a]).n=h.n+1:=rfl
theorem axc{h:bn}{a b:Option dB}:(h.on [a,b]).n=h.n+2:=rfl
theorem axk{h:bn}{a b c:Option dB}:(h.on [a,b,c]).n=h.n+3:=rfl
theorem axo{h:bn}{a b c d:Option dB}:(h.on [a,b,c,d]).n=h.n+4:=rfl
theorem axr{h:bn}{a b c d e:Option dB}:(h.on [a,b,c,d,e]).n=h.n+5:=rfl
theorem axO{h:bn}{a b c d e f:Option dB}:(h.on [a,b,c,d,e,f]).n=h.n+6:=rfl
theorem aw1{h:bn}{a b c d e f g:Option dB}:(h.on [a,b,c,d,e,f,g]).n=h.n+7:=rfl
theorem axG{h:bn}{a b c d e f g z:Option dB}:(h.on [a,b,c,d,e,f,g,z]).n=h.n+8:=rfl
theorem join_some{o:dB}:Option.join (some (some o))=some o:=rfl
def xy(N:Nat):List (Option dB)→List (Option dB)→Prop
 |_,[]=>True
 |_::os,none::os'=>xy N os os'
 |some o::os,some o'::os'=>o.fits o'∧o'.under N∧xy N os os'
 |_,_=>False
theorem aoG{N:Nat}{os:List (Option dB)}:xy N os []=True:=by cases os <;> rfl
def qM(H H':bn):SV→Prop
 |.alias (.cell l i)=>H'.cell l i=H.cell l i
 |.elt (.cell l i) _ _=>H'.cell l i=H.cell l i
 |_=>True
def aqk(s:St)(H:bn)(N:Nat)(sl0:List (Nat×SV)):List (Nat×SV)→Prop
 | []=>True
 |(i,v)::sl=>((s.get i).fits v∧v.rooted ⟨sl0,H⟩∧v.under N∧qM s.box H v)∧aqk s H N sl0 sl
theorem wU{s:St}{H:bn}{N:Nat}{sl0:List (Nat×SV)}:∀{sl:List (Nat×SV)},aqk s H N sl0 sl→∀p∈sl,(s.get p.1).fits p.2∧p.2.rooted ⟨sl0,H⟩∧p.2.under N∧qM s.box H p.2
 | [],_,p,hp=>by cases hp
 |(i,v)::sl,hw,p,hp=>by
  rcases List.mem_cons.1 hp with rfl|hp
  ·exact hw.1
  ·exact wU hw.2 p hp
theorem tD{n n':Nat}(hn:n≤n'):∀{xs:List au},cc n xs→cc n' xs:=by
 have key:∀(d:au),d.under n→d.under n':=by
  intro d
  apply au.rec (motive_1:=fun d=>d.under n→d.under n') (motive_2:=fun ds=>cc n ds→cc n' ds)
  ·intros;trivial
  ·intros;trivial
  ·intros;trivial
  ·intro xs ih h;exact ih h
  ·intro xs ih h;exact ih h
  ·intro a h;cases a with
   |none=>trivial
   |some a=>exact Nat.lt_of_lt_of_le h hn
  ·intro a h;cases a with
   |none=>trivial
   |some a=>exact Nat.lt_of_lt_of_le h hn
  ·intro f a b iha ihb h;exact⟨iha h.1,ihb h.2⟩
  ·intros;trivial
  ·intros;trivial
  ·intro d ds ihd ihds h;exact⟨ihd h.1,ihds h.2⟩
 intro xs
 induction xs with
 |nil=>intro h;trivial
 |cons x xs ih=>intro h;exact⟨key x h.1,ih h.2⟩
theorem wA{n n':Nat}(hn:n≤n'){d:au}(h:d.under n):d.under n':=(tD hn (xs:=[d]) ⟨h,trivial⟩).1
theorem aml{n n':Nat}(hn:n≤n'){c:CV}(h:c.under n):c.under n':=by
 cases c with
 |val d=>exact wA hn h
 |row k xs=>exact tD hn h
 |_=>trivial
theorem aac{n n':Nat}(hn:n≤n'){o:dB}(h:o.under n):o.under n':=by
 cases o with
 |cells cs=>
  have:∀{cs:List CV},gw n cs→gw n' cs:=by
   intro cs
   induction cs with
   |nil=>intro _;trivial
   |cons c cs ih=>intro h;exact⟨aml hn h.1,ih h.2⟩
  exact this h
 |map kt es=>
  have:∀{es:List (au×au)},lc n es→lc n' es:=by
   intro es
   induction es with
   |nil=>intro _;trivial
   |cons c cs ih=>intro h;exact⟨⟨wA hn h.1.1,wA hn h.1.2⟩,ih h.2⟩
  exact this h
theorem vp(o:dB):o.fits o:=by
 cases o with
 |cells cs=>
  show CV.fitsL cs cs
  induction cs with
  |nil=>trivial
  |cons c cs ih=>exact⟨by cases c with
   |val d=>cases d <;> rfl
   |_=>first|rfl|trivial,ih⟩
 |map kt es=>rfl
theorem sr{N:Nat}:∀{os os':List (Option dB)},xy N os os'→∀(k:Nat) (o':dB),os'[k]? =some (some o')→∃o,os[k]? =some (some o)∧o.fits o'∧o'.under N
 |_,[],_,k,o',h=>by simp at h
 |_::os,none::os',hc,k,o',h=>by
  cases k with
  |zero=>simp at h
  |succ k=>simpa using sr (os:=os) (os':=os') hc k o' (by simpa using h)
 |some o::os,some p::os',hc,k,o',h=>by
  cases k with
  |zero=>simp at h;subst h;exact⟨o,rfl,hc.1,hc.2.1⟩
  |succ k=>simpa using sr (os:=os) (os':=os') hc.2.2 k o' (by simpa using h)
 | [],none::_,hc,_,_,_=>by simp[xy]at hc
 | [],some _::_,hc,_,_,_=>by simp[xy]at hc
 |none::_,some _::_,hc,_,_,_=>by simp[xy]at hc
theorem sx{N:Nat}:∀{os os':List (Option dB)},xy N os os'→os'.length≤os.length
 |_,[],_=>by simp
 |_::os,none::os',hc=>by simpa using sx (os:=os) (os':=os') hc
 |some o::os,some p::os',hc=>by simpa using sx (os:=os) (os':=os') hc.2.2
 | [],none::_,hc=>by simp[xy]at hc
 | [],some _::_,hc=>by simp[xy]at hc
 |none::_,some _::_,hc=>by simp[xy]at hc
theorem To.cut{m:Nat}{s:St}{h:bn}{os os':List (Option dB)}{sl:List (Nat×SV)}(hwf:h.WF)(hm:m≤h.n)(hb:s.box=h.on os)
  (hc:xy (h.on os').n os os'∧aqk s (h.on os') (h.on os').n sl sl):St.To m s ⟨sl,h.on os'⟩:=by
 refine .shrink s _ _ ⟨?_,?_,fun l o' ho'=>?_,fun p hp=>?_,fun p hp=>?_⟩ (.refl _)
 ·show m≤h.n+os'.length;omega
 ·rw[hb];show h.n+os'.length≤h.n+os.length
  have:=sx hc.1;omega
 ·rw[hb]
  simp only[bn.on]at ho' ⊢
  by_cases h1:l < h.n
  ·rw[if_pos h1]at ho' ⊢
   have:=hwf l o' ho'
   exact⟨by omega,aac (by omega) this.2,o',ho',vp o'⟩
  ·rw[if_neg h1]at ho' ⊢
   cases hj:os'[l - h.n]? with
   |none=>rw[hj]at ho';simp at ho'
   |some x=>
    rw[hj]at ho'
    simp only[Option.join_some]at ho'
    subst ho'
    obtain⟨o,g1,g2,g3⟩:=sr hc.1 _ _ hj
    have:l - h.n < os'.length:=(List.getElem?_eq_some_iff.1 hj).1
    exact⟨by omega,g3,o,by rw[g1];rfl,g2⟩
 ·have:=wU hc.2 p hp
  exact⟨this.1,this.2.1,this.2.2.1⟩
 ·have:=(wU hc.2 p hp).2.2.2
  unfold qM at this
  split at this <;> simp_all
class Enc{α:Type}(e:α→au)(k:outParam Nat):Prop where
 cells:∀x,(e x).cells.length=k
 under:∀n x,(e x).under n
theorem aiE{α:Type}{e:α→au}{k:Nat}[Enc e k]{xs:List α}:jk k (xs.map e)=true:=by
 simp only[jk,List.all_map,List.all_eq_true]
 intro x _
 simp[Enc.cells]
theorem dL{α:Type}{e:α→au}{k n:Nat}[Enc e k]{xs:List α}:cc n (xs.map e)=True:=by
 refine eq_true ?_
 induction xs with
 |nil=>trivial
 |cons x xs ih=>exact⟨Enc.under n x,ih⟩
theorem vX{α β:Type}{e:α→au}{d:β→au}{k k' n:Nat}[Enc e k][Enc d k']{xs:List (α×β)}:lc n (xs.map fun p=>(e p.1,d p.2))=True:=by
 refine eq_true ?_
 induction xs with
 |nil=>trivial
 |cons x xs ih=>exact⟨⟨Enc.under n x.1,Enc.under n x.2⟩,ih⟩
abbrev Str:=List UInt8
def bs(s:Str):ByteArray:=⟨s.toArray⟩
def eI(n:Int):au:=.int .i64 n
def eB(b:Bool):au:=.bool b
def eU(b:UInt8):au:=.int .u8 b.toNat
def eS(s:Str):au:=.str (bs s)
def eL{α:Type}(e:α→au)(xs:List α):au:=.sl (xs.map e)
instance:Enc eI 1:=⟨fun _=>rfl,fun _ _=>trivial⟩
instance:Enc eB 1:=⟨fun _=>rfl,fun _ _=>trivial⟩
instance:Enc eU 1:=⟨fun _=>rfl,fun _ _=>trivial⟩
instance:Enc eS 1:=⟨fun _=>rfl,fun _ _=>trivial⟩
instance {α:Type} {e:α→au} {k:Nat} [Enc e k]:Enc (eL e) 1:=⟨fun _=>rfl,fun n x=>by
 show cc n (x.map e)
 rw[dL];trivial⟩
theorem axn{l:List UInt8}:ByteArray.mk l.toArray=bs l:=rfl
theorem atu{s:Str}:(bs s).size=s.length:=by simp[bs,ByteArray.size]
theorem amI{s:Str}:(bs s).data.toList=s:=by simp[bs]
theorem au3{s t:Str}:bs s++bs t=bs (s++t):=by
 apply ByteArray.ext;simp[bs,ByteArray.data_append]
theorem aqr{s t:Str}:(bs s=bs t)=(s=t):=by
 apply propext;constructor
 ·intro h;have:=congrArg (fun b=>b.data.toList) h;simpa[bs]using this
 ·intro h;rw[h]
theorem auH{s:Str}{l h:Nat}:(bs s).extract l h=bs ((s.take h).drop l):=by
 apply ByteArray.ext
 simp only[bs,ByteArray.data_extract]
 apply Array.ext'
 simp[List.drop_take]
theorem ajr{s:Str}:(bs s).toList=s:=by
 rw[ByteArray.toList_eq,amI]
def idx{α:Type}(xs:List α)(i:Int):Option α:=if i < 0 then none else xs[i.toNat]?
theorem Holds.idx{α β:Type}{xs:List α}{i:Int}{k:α→Option β}{D:β→Prop}(h:Holds ((idx xs i).bind k) D):∃x,(i < 0)=False∧xs[i.toNat]? =some x∧(i.toNat < xs.length)=True∧Holds (k x) D:=by
 obtain⟨x,h1,h2⟩:=h.bind
 unfold Val.idx at h1
 split at h1
 ·cases h1
 ·rename_i hn
  exact⟨x,eq_false hn,h1,eq_true (List.getElem?_eq_some_iff.1 h1).1,h2⟩
def cut{α:Type}(xs:List α)(lo hi:Int):Option (List α):=if 0≤hi∧hi≤(xs.length:Int)∧0≤lo∧lo≤(hi.toNat:Int)then some ((xs.take hi.toNat).drop lo.toNat)else none
def cutL{α:Type}(xs:List α)(lo:Int):Option (List α):=if 0≤lo∧lo≤(xs.length:Int)then some (xs.drop lo.toNat)else none
def cutH{α:Type}(xs:List α)(hi:Int):Option (List α):=if 0≤hi∧hi≤(xs.length:Int)then some (xs.take hi.toNat)else none
theorem Holds.cut{α β:Type}{xs:List α}{lo hi:Int}{k:List α→Option β}{D:β→Prop}(h:Holds ((cut xs lo hi).bind k) D):
  (0≤hi)=True∧(hi≤(xs.length:Int))=True∧(0≤lo)=True∧(lo≤(hi.toNat:Int))=True∧Holds (k ((xs.take hi.toNat).drop lo.toNat)) D:=by
 unfold Val.cut at h
 split at h
 ·rename_i hc;exact⟨eq_true hc.1,eq_true hc.2.1,eq_true hc.2.2.1,eq_true hc.2.2.2,h⟩
 ·exact h.elim
theorem Holds.cutL{α β:Type}{xs:List α}{lo:Int}{k:List α→Option β}{D:β→Prop}(h:Holds ((cutL xs lo).bind k) D):
  (0≤lo)=True∧(lo≤(xs.length:Int))=True∧Holds (k (xs.drop lo.toNat)) D:=by
 unfold Val.cutL at h
 split at h
 ·rename_i hc;exact⟨eq_true hc.1,eq_true hc.2,h⟩
 ·exact h.elim
theorem Holds.cutH{α β:Type}{xs:List α}{hi:Int}{k:List α→Option β}{D:β→Prop}(h:Holds ((cutH xs hi).bind k) D):
  (0≤hi)=True∧(hi≤(xs.length:Int))=True∧Holds (k (xs.take hi.toNat)) D:=by
 unfold Val.cutH at h
 split at h
 ·rename_i hc;exact⟨eq_true hc.1,eq_true hc.2,h⟩
 ·exact h.elim
def app{α:Type}(sz:Nat)(xs ys:List α):Option (List α):=if (xs.length+ys.length)*sz≤dU then some (xs++ys)else none
theorem Holds.app{α β:Type}{sz:Nat}{xs ys:List α}{k:List α→Option β}{D:β→Prop}(h:Holds ((app sz xs ys).bind k) D):
  ((xs.length+ys.length)*sz≤dU)=True∧Holds (k (xs++ys)) D:=by
 unfold Val.app at h
 split at h
 ·rename_i hc;exact⟨eq_true hc,h⟩
 ·exact h.elim
def cat(s t:Str):Option Str:=if ((s.length+t.length:Nat):Int) > IntKind.i64.max then none else some (s++t)
theorem Holds.cat{β:Type}{s t:Str}{k:Str→Option β}{D:β→Prop}(h:Holds ((cat s t).bind k) D):
  (((s.length+t.length:Nat):Int) > IntKind.i64.max)=False∧Holds (k (s++t)) D:=by
 unfold Val.cat at h
 split at h
 ·exact h.elim
 ·rename_i hc;exact⟨eq_false hc,h⟩
def mk{α:Type}(sz:Nat)(z:α)(n:Int):Option (List α):=if 0≤n∧n.toNat*sz≤dU then some (List.replicate n.toNat z)else none
theorem Holds.mk{α β:Type}{sz:Nat}{z:α}{n:Int}{k:List α→Option β}{D:β→Prop}(h:Holds ((mk sz z n).bind k) D):
  (0≤n)=True∧(n.toNat*sz≤dU)=True∧Holds (k (List.replicate n.toNat z)) D:=by
 unfold Val.mk at h
 split at h
 ·rename_i hc;exact⟨eq_true hc.1,eq_true hc.2,h⟩
 ·exact h.elim
theorem Holds.ite{α:Type}{b:Bool}{A B:Option α}{D:α→Prop}(h:Holds (if b=true then A else B) D):(b=true∧Holds A D)∨(b=false∧Holds B D):=by
 cases b with
 |true=>exact .inl ⟨rfl,h⟩
 |false=>exact .inr ⟨rfl,h⟩
def u8(n:Int):UInt8:=UInt8.ofNat n.toNat
theorem akw{n:Int}:((u8 (IntKind.u8.wrap n)).toNat:Int)=IntKind.u8.wrap n:=by
 have h:IntKind.u8.wrap n=n%256:=by simp[IntKind.wrap,IntKind.signed,IntKind.bits]
 rw[h]
 simp only[u8,UInt8.toNat_ofNat']
 omega
section
variable{C:Ctx}{R:dm}{m:Nat}{Q:Ex→St→Prop}{K:St→Prop}{s s1:St}
theorem w_k(h:K s):Ex.then K Q .normal s:=h
theorem w_n(h:K s):Ex.then (fun s=>∃s1,St.To m s s1∧K s1) Q .normal s:=⟨s,.refl s,h⟩
theorem cX{i:Nat}(h:Q (.exit i) s):Ex.then K Q (.exit i) s:=h
theorem cm(h:Q .ret s):Ex.then K Q .ret s:=h
theorem dC{id:Nat}(h:Q .normal s):Ex.inBlock id Q .normal s:=h
theorem fm{id:Nat}(h:Q .normal s):Ex.inBlock id Q (.exit id) s:=by simp only[Ex.inBlock,if_true];exact h
theorem fa{id:Nat}(h:Q .ret s):Ex.inBlock id Q .ret s:=h
theorem awE{sj:St}{a b:Code}(ha:aO C R m a (Ex.then (fun s'=>St.To m s' sj) fun _ _=>False) s)(hR:R.Le R)(hk:aO C R m b Q sj):aO C R m (.seq a b) Q s:=
 eD hR a (fun e s h=>by cases e with
  |normal=>exact⟨sj,h,hk⟩
  |_=>exact h.elim) s ha
theorem cf{sj:St}{a b:Code}(ha:aO C (cq C) m a (Ex.then (fun s'=>St.To m s' sj) fun _ _=>False) s)(hk:aO C (cq C) m b Q sj):aO C (cq C) m (.seq a b) Q s:=awE ha (dm.Le.refl_runs C) hk
theorem rD{f:FuncId}{fn:Func}{P:List SV→bn→Prop}{out:List SV}{h':bn}(ht:St.To m s s1)(hres:results C f s1 fn.results.toList=some (out,h'))(hq:P out h'):atEnd C m f fn P .ret s:=⟨s1,ht,out,h',hres,h',.inl rfl,hq⟩
theorem auO{f:FuncId}{fn:Func}{P:List SV→bn→Prop}{out:List SV}{h':bn}(ht:St.To m s s1)(hres:results C f s1 fn.results.toList=some (out,h'))(hq:P out h'):atEnd C m f fn P .normal s:=⟨s1,ht,out,h',hres,h',.inl rfl,hq⟩
def vn(n:Nat):List SV→Prop
 | []=>True
 |v::vs=>v.under n∧vn n vs
theorem vi{n:Nat}:∀{vs:List SV},vn n vs→∀v∈vs,v.under n
 | [],_,v,hv=>by cases hv
 |u::us,h,v,hv=>by
  rcases List.mem_cons.1 hv with rfl|hv
  ·exact h.1
  ·exact vi h.2 v hv
theorem Drops.on{h:bn}{os os':List (Option dB)}{out:List SV}(hwf:h.WF)(hm:m≤h.n)(hc:xy (h.on os').n os os'∧vn (h.on os').n out):bn.Drops m (h.on os) (h.on os') out:=by
 have hlen:=sx hc.1
 refine⟨by show m≤h.n+os'.length;omega,by show h.n+os'.length≤h.n+os.length;omega,fun l o' ho'=>?_,vi hc.2⟩
 simp only[bn.on]at ho' ⊢
 by_cases h1:l < h.n
 ·rw[if_pos h1]at ho' ⊢
  have:=hwf l o' ho'
  exact⟨by omega,aac (by omega) this.2,o',ho',vp o'⟩
 ·rw[if_neg h1]at ho' ⊢
  cases hj:os'[l - h.n]? with
  |none=>rw[hj]at ho';simp at ho'
  |some x=>
   rw[hj]at ho'
   simp only[Option.join_some]at ho'
   subst ho'
   obtain⟨o,g1,g2,g3⟩:=sr hc.1 _ _ hj
   have:l - h.n < os'.length:=(List.getElem?_eq_some_iff.1 hj).1
   exact⟨by omega,g3,o,by rw[g1];rfl,g2⟩
theorem fU{f:FuncId}{fn:Func}{P:List SV→bn→Prop}{out:List SV}{h' h'':bn}(ht:St.To m s s1)(hres:results C f s1 fn.results.toList=some (out,h'))(hd:bn.Drops m h' h'' out)(hq:P out h''):atEnd C m f fn P .ret s:=⟨s1,ht,out,h',hres,h'',.inr hd,hq⟩
end
theorem dA{C:Ctx}{R:dm}{ops:Array Oper}{K:St→Prop}{s:St}(h:K s):wpOps C R ops [] K s:=h
def room(sz n:Nat):Option Unit:=if n*sz≤dU then some ()else none
theorem Holds.room{β:Type}{sz n:Nat}{k:Unit→Option β}{D:β→Prop}(h:Holds ((room sz n).bind k) D):(n*sz≤dU)=True∧Holds (k ()) D:=by
 unfold Val.room at h
 split at h
 ·rename_i hc;exact⟨eq_true hc,h⟩
 ·exact h.elim
theorem Holds.map{α β:Type}{o:Option α}{f:α→β}{D:β→Prop}(h:Holds (o.map f) D):Holds o fun a=>D (f a):=by
 cases o with
 |none=>exact h.elim
 |some a=>exact h
theorem cq.start{C:Ctx}{f:FuncId}{args:List SV}{h:bn}{Q:List SV→bn→Prop}(fn:Func)(code:Code)(hf:C.P.funcs[f]? =some fn)(hb:fn.body=some code)(hl:args.length≤fn.ntmps)(hin:within fn.ntmps code=true)(hname:(fn.name== "runtime.NumGoroutine")=false)
  (hw:h.WF→(∀v∈args,v.under h.n)→aO C (cq C) h.n code (atEnd C h.n f fn Q) ⟨entry 0 args,h.on []⟩):cq C f args h Q:=
 cq.intro fn code hf hb hl hin hname fun hwf hu=>by have:=hw hwf hu;rwa[aE hwf]at this
section
variable{C:Ctx}{s:St}
theorem asi{ops:Array Oper}{os:List Oper}{K:St→Prop}{dst:Option Tmp}{ty:TypeId}{pos:String}{after:Array Edge}{f:Operand}{args:Array Operand}{ts:Array TypeId}{gd:Option (Nat×Bool)}
  {g:FuncId} {fs cs:List au} {as:List SV} {es:List Eff} {s1:St} {out:List SV} {hp:bn} (h0:guardOf ops s ⟨dst,.call ⟨.value f,args,ts⟩,ty,pos,after,gd⟩=some true) (h1:callee s f=some (g,fs,cs)) (h2:iT C g s fs.length args.toList=some (as,es)) (h3:s.effs es=s1)
  (h4:cq C g (jI fs++as++jI cs) s1.box fun o h'=>o=out∧h'=hp) (h5:(packed out).isSome=true) (hk:wpOps C (cq C) ops os K (St.put ⟨dy SV.uncell s1.slots,hp⟩ dst ((packed out).getD .undef))):
  wpOps C (cq C) ops (⟨dst,.call ⟨.value f,args,ts⟩,ty,pos,after,gd⟩::os) K s:=by
 subst h3
 refine⟨true,h0,fun _=>.inr ⟨g,fs,cs,as,es,h1,h2,fun _=>h4.mono fun o h' ⟨e1,e2⟩=>?_⟩,fun e=>by cases e⟩
 subst e1;subst e2
 cases hpk:packed o with
 |none=>rw[hpk]at h5;cases h5
 |some v=>exact⟨v,rfl,by rw[hpk]at hk;exact hk⟩
theorem amf{R:dm}{ops:Array Oper}{os:List Oper}{K:St→Prop}{dst:Option Tmp}{ty:TypeId}{pos:String}{after:Array Edge}{f x:Operand}{xs:List Operand}{args:Array Operand}{ts:Array TypeId}{gd:Option (Nat×Bool)}
  {g:FuncId} {r:fb} {k:Nat} {zs ds ys:List au} (h0:guardOf ops s ⟨dst,.call ⟨.value f,args,ts⟩,ty,pos,after,gd⟩=some true) (h1:callee s f=some (g,[],[])) (h2:args.toList=x::xs) (h3:rootOf s x=some r) (h4:s.rowAt r=some (k,zs))
  (h5:optVals s xs=some ds) (h6:ds.all au.one=true) (h7:C.ext g ds k zs=some ys) (hk:wpOps C R ops os K ((s.eff (.setRow r k ys)).put dst .undef)):
  wpOps C R ops (⟨dst,.call ⟨.value f,args,ts⟩,ty,pos,after,gd⟩::os) K s:=
 ⟨true,h0,fun _=>.inl (.inr ⟨g,x,xs,r,k,zs,ds,ys,h1,h2,h3,h4,h5,h6,h7,hk⟩),fun e=>by cases e⟩
theorem axm{R:dm}{ops:Array Oper}{os:List Oper}{K:St→Prop}{o:Oper}(h0:guardOf ops s o=some false)(hk:wpOps C R ops os K (s.put o.dst .undef)):wpOps C R ops (o::os) K s:=
 ⟨false,h0,fun e=>(by cases e),fun _=>hk⟩
end
def auf(P:Program)(s:St)(o:Oper)(d:Nat):Option Bool→Prop
 |some true=>aop P s o=some (s.get d,[])
 |some false=>s.get d= .undef
 |none=>False
def asf(P:Program)(ops:Array Oper)(s:St)(o:Oper):Option Nat→Prop
 |some d=>auf P s o d (guardOf ops s o)
 |none=>False
def atb(P:Program)(ops:Array Oper)(s:St):Option Oper→Prop
 |some o=>asf P ops s o o.dst
 |none=>False
def ot(P:Program)(ops:Array Oper)(s:St):List Nat→Prop
 | []=>True
 |p::ps=>atb P ops s ops[p]? ∧ot P ops s ps
theorem lB{P:Program}{ops:Array Oper}{s:St}:∀{l:List Nat},ot P ops s l→∀p∈l,qN P ops s p
 | [],_,p,hp=>by cases hp
 |q::qs,h,p,hp=>by
  rcases List.mem_cons.1 hp with rfl|hp
  ·obtain⟨h1,_⟩:=h
   cases ho:ops[p]? with
   |none=>rw[ho]at h1;exact h1.elim
   |some o=>
    rw[ho]at h1
    simp only[atb]at h1
    cases hd:o.dst with
    |none=>rw[hd]at h1;exact h1.elim
    |some d=>
     rw[hd]at h1
     simp only[asf]at h1
     cases hg:guardOf ops s o with
     |none=>rw[hg]at h1;exact h1.elim
     |some b=>
      rw[hg]at h1
      refine⟨o,d,ho,hd,b,hg,fun e=>?_,fun e=>?_⟩
      ·subst e;exact h1
      ·subst e;exact h1
  ·exact lB h.2 p hp
section
variable{C:Ctx}{R:dm}{ops:Array Oper}{tab:List (Nat×Nat)}{K:St→Prop}{pend pend' rest:List Nat}{s s':St}{i:Nat}
def alN(P:Program)(ops:Array Oper)(s:St):Option Oper→Option St
 |some o=>uE P s o (guardOf ops s o)
 |none=>none
theorem avR(hp:ops[i]?.map pass=some false)(hh:ot C.P ops s pend)(h:alN C.P ops s ops[i]? =some s')(hf:(pend.filter fun p=>!(ep tab i).testBit p)=pend')(hk:di C R ops tab pend' rest K s'):di C R ops tab pend (i::rest) K s:=by
 subst hf
 simp only[di]
 cases ho:ops[i]? with
 |none=>rw[ho]at h;cases h
 |some o=>
  rw[ho]at h hp
  simp only[Option.map_some,sJ]at hp
  refine⟨o,rfl,?_⟩
  simp only[hp]
  obtain⟨b,hb,ht,hf⟩:=qK h
  refine⟨lB hh,b,hb,fun e=>?_,fun e=>?_⟩
  ·obtain⟨r,hr,e1⟩:=ht e
   subst e1
   exact oP hr hk
  ·have e1:=hf e
   subst e1;exact hk
theorem av5{dst:Option Tmp}{ty:TypeId}{pos:String}{after:Array Edge}{f:Operand}{args:Array Operand}{ts:Array TypeId}{gd:Option (Nat×Bool)}
  {g:FuncId} {fs cs:List au} {as:List SV} {es:List Eff} {s1:St} {out:List SV} {hp:bn} (ho:ops[i]? =some ⟨dst,.call ⟨.value f,args,ts⟩,ty,pos,after,gd⟩) (hh:ot C.P ops s pend) (h0:guardOf ops s ⟨dst,.call ⟨.value f,args,ts⟩,ty,pos,after,gd⟩=some true)
  (h1:callee s f=some (g,fs,cs)) (h2:iT C g s fs.length args.toList=some (as,es)) (h3:s.effs es=s1) (hf:(pend.filter fun p=>!(ep tab i).testBit p)=pend')
  (h4:cq C g (jI fs++as++jI cs) s1.box fun o h'=>o=out∧h'=hp) (h5:(packed out).isSome=true) (hk:di C (cq C) ops tab pend' rest K (St.put ⟨dy SV.uncell s1.slots,hp⟩ dst ((packed out).getD .undef))):
  di C (cq C) ops tab pend (i::rest) K s:=by
 subst h3;subst hf
 simp only[di]
 refine⟨_,ho,?_⟩
 simp only[pass]
 refine⟨lB hh,true,h0,fun _=>.inr ⟨g,fs,cs,as,es,h1,h2,fun _=>h4.mono fun o h' ⟨e1,e2⟩=>?_⟩,fun e=>by cases e⟩
 subst e1;subst e2
 cases hpk:packed o with
 |none=>rw[hpk]at h5;cases h5
 |some v=>exact⟨v,rfl,by rw[hpk]at hk;exact hk⟩
theorem apa(hh:ot C.P ops s pend)(hk:K s):di C R ops tab pend [] K s:=⟨lB hh,hk⟩
end
def mn(a b:Int):Int:=if b < a then b else a
def mx(a b:Int):Int:=if b > a then b else a
def shL(k:IntKind)(a b:Int):Int:=k.wrap (a*2^(min b.toNat k.bits))
def shR(k:IntKind)(a b:Int):Int:=a.fdiv (2^(min b.toNat k.bits))
def amL(k:IntKind)(a b:Int):Int:=k.wrap (BitVec.ofInt k.bits a &&& BitVec.ofInt k.bits b).toNat
def bOr(k:IntKind)(a b:Int):Int:=k.wrap (BitVec.ofInt k.bits a ||| BitVec.ofInt k.bits b).toNat
def ax0(k:IntKind)(a b:Int):Int:=k.wrap (BitVec.ofInt k.bits a ^^^ BitVec.ofInt k.bits b).toNat
def ax7(k:IntKind)(a b:Int):Int:=k.wrap (BitVec.ofInt k.bits a &&& ~~~ BitVec.ofInt k.bits b).toNat
def nat(n:Int):Option Int:=if 0≤n then some n else none
theorem Holds.nat{β:Type}{n:Int}{k:Int→Option β}{D:β→Prop}(h:Holds ((nat n).bind k) D):(0≤n)=True∧(n < 0)=False∧Holds (k n) D:=by
 unfold Val.nat at h
 split at h
 ·rename_i hc;exact⟨eq_true hc,eq_false (by omega),h⟩
 ·exact h.elim
def oL{K V:Type}[DecidableEq K](k:K):List (K×V)→Option V
 | []=>none
 |(k',v)::es=>if k=k' then some v else oL k es
def kF{K V:Type}[DecidableEq K](k:K)(v:V):List (K×V)→List (K×V)
 | []=>[(k,v)]
 |(k',v')::es=>if k=k' then(k',v)::es else(k',v')::kF k v es
class Key{K:Type}[DecidableEq K](e:K→au):Prop where
 eq:∀a b,ja (e a) (e b)=decide (a=b)
instance:Key eI:=⟨fun a b=>by
 simp only[ja,eI,decide_true,Bool.true_and]
 by_cases h:a=b
 ·subst h;simp
 ·simp[h]⟩
instance:Key eB:=⟨fun a b=>by simp only[ja,eB];cases a <;> cases b <;> rfl⟩
theorem apI{s t:Str}:(bs s==bs t)=decide (s=t):=by
 have:=@ajn (bs s) (bs t)
 rw[← beq_toListBytes]at this
 rw[this]
 simp only[aqr]
instance:Key eS:=⟨fun a b=>by simp only[ja,eS];exact apI⟩
theorem lv{K V:Type}[DecidableEq K]{e:K→au}{d:V→au}[Key e]{k:K}:∀{es:List (K×V)},fy (e k) (es.map fun p=>(e p.1,d p.2))=(oL k es).map d
 | []=>rfl
 |(k',v)::es=>by
  simp only[List.map_cons,fy,oL,Key.eq]
  by_cases h:k=k'
  ·simp[h]
  ·simp only[h,decide_false,Bool.false_eq_true,if_false];exact lv
theorem mE{K V:Type}[DecidableEq K]{e:K→au}{d:V→au}[Key e]{k:K}{v:V}:∀{es:List (K×V)},qI (e k) (d v) (es.map fun p=>(e p.1,d p.2))=(kF k v es).map fun p=>(e p.1,d p.2)
 | []=>rfl
 |(k',v')::es=>by
  simp only[List.map_cons,qI,kF,Key.eq]
  by_cases h:k=k'
  ·simp[h]
  ·simp only[h,decide_false,Bool.false_eq_true,if_false,List.map_cons];rw[mE]
theorem amG{l:List UInt8}:strOf (l.map eU)=some l:=by
 induction l with
 |nil=>rfl
 |cons c l ih=>simp only[List.map_cons,eU,strOf];rw[show strOf (l.map eU)=some l from ih];simp
theorem ajk{α β:Type}{f:α→β}{l:List α}{n:Nat}:(l.map f).take n=(l.take n).map f:=List.map_take.symm
theorem aj2{α β:Type}{f:α→β}{l:List α}{n:Nat}:(l.map f).drop n=(l.drop n).map f:=List.map_drop.symm
theorem adX{n:Nat}:(0 < n+1)=True:=by simp
theorem acC{n:Nat}:(n+1=0)=False:=by simp
theorem jJ{h:bn}{os:List (Option dB)}{l l':Nat}{o:dB}(hl:l < h.n):((h.upd l' o).on os).at_ l=(h.upd l' o).at_ l:=fc hl
theorem oZ{h:bn}{os:List (Option dB)}{l l' l2:Nat}{o o2:dB}(hl:l < h.n):(((h.upd l' o).upd l2 o2).on os).at_ l=((h.upd l' o).upd l2 o2).at_ l:=fc hl
theorem gI{h:bn}{os:List (Option dB)}{l l':Nat}{o o':dB}(hl:l < h.n):((h.upd l' o').on os).upd l o=((h.upd l' o').upd l o).on os:=fT hl
theorem mS{h:bn}{os:List (Option dB)}{l l' l2:Nat}{o o' o2:dB}(hl:l < h.n):(((h.upd l' o').upd l2 o2).on os).upd l o=(((h.upd l' o').upd l2 o2).upd l o).on os:=fT hl
theorem pB{h:bn}{la lb:Nat}{o o':dB}(hn:la≠lb):(h.upd lb o).upd la o'=(h.upd la o').upd lb o:=bn.ext rfl fun i=>by
 simp only[bn.upd]
 by_cases h1:i=la
 ·subst h1;rw[if_pos rfl,if_neg hn,if_pos rfl]
 ·rw[if_neg h1];split <;> rfl
theorem vJ{c:CV}:c.fits c=True:=eq_true (by cases c with
 |val d=>cases d <;> rfl
 |dead=>trivial
 |_=>rfl)
theorem aaX{a b:List CV}:dB.fits (.cells a) (.cells b)=CV.fitsL a b:=rfl
theorem alK{k:TypeId}{a:List (au×au)}:dB.fits (.map k a) (.map k a)=True:=eq_true rfl
theorem aam:CV.fitsL [] []=True:=rfl
theorem vw{c c':CV}{cs cs':List CV}:CV.fitsL (c::cs) (c'::cs')=(c.fits c'∧CV.fitsL cs cs'):=rfl
theorem alg{n:Nat}{k:IntKind}{i:Int}:(au.int k i).under n=True:=rfl
theorem ahd{n:Nat}{b:Bool}:(au.bool b).under n=True:=rfl
theorem ajZ{n:Nat}{b:ByteArray}:(au.str b).under n=True:=rfl
theorem aoI{n:Nat}{xs:List au}:(au.sl xs).under n=cc n xs:=rfl
theorem alz{n:Nat}{xs:List au}:(au.agg xs).under n=cc n xs:=rfl
theorem yW{n:Nat}:(au.ptr none).under n=True:=rfl
theorem ai4{n l o:Nat}:(au.ptr (some (l,o))).under n=(l < n):=rfl
theorem ahR{n l:Nat}:(au.map (some l)).under n=(l < n):=rfl
theorem anF{n:Nat}{f:FuncId}{a b:List au}:(au.fn f a b).under n=(cc n a∧cc n b):=rfl
theorem agL{n:Nat}:cc n []=True:=rfl
theorem ab8{n:Nat}{d:au}{ds:List au}:cc n (d::ds)=(d.under n∧cc n ds):=rfl
theorem agH{n:Nat}{d:au}:(CV.val d).under n=d.under n:=rfl
theorem ail{n:Nat}:CV.nil.under n=True:=rfl
theorem ahM{n:Nat}{k:TypeId}{xs:List au}:(CV.row k xs).under n=cc n xs:=rfl
theorem adn{n:Nat}:gw n []=True:=rfl
theorem zB{n:Nat}{c:CV}{cs:List CV}:gw n (c::cs)=(c.under n∧gw n cs):=rfl
theorem zr{n:Nat}{cs:List CV}:(dB.cells cs).under n=gw n cs:=rfl
theorem ahC{n:Nat}{k:TypeId}{es:List (au×au)}:(dB.map k es).under n=lc n es:=rfl
theorem alP{n:Nat}{c:CV}:(SV.cv c).under n=c.under n:=rfl
theorem acL{n i:Nat}:(SV.alias (.slot i)).under n=True:=rfl
theorem ahD{H H':bn}{c:CV}:qM H H' (.cv c)=True:=rfl
theorem aad{H H':bn}{i:Nat}:qM H H' (.alias (.slot i))=True:=rfl
theorem agM{n a b:Nat}(h:dd (decide (a < b)) false):(n+a < n+b)=True:=eq_true (by
 have:a < b:=by simpa using h.ne
 omega)
theorem ajy{N:Nat}{o o':dB}{os os':List (Option dB)}:xy N (some o::os) (some o'::os')=(o.fits o'∧o'.under N∧xy N os os'):=rfl
theorem amq{N:Nat}{o:Option dB}{os os':List (Option dB)}:xy N (o::os) (none::os')=xy N os os':=by cases o <;> rfl
theorem aom{s:St}{H:bn}{N:Nat}{l:List (Nat×SV)}:aqk s H N l []=True:=rfl
theorem aiV{s:St}{H:bn}{N i:Nat}{v:SV}{l sl:List (Nat×SV)}:aqk s H N l ((i,v)::sl)=(((s.get i).fits v∧v.rooted ⟨l,H⟩∧v.under N∧qM s.box H v)∧aqk s H N l sl):=rfl
theorem amt{k:Nat}:jk k []=true:=rfl
theorem afU{k:Nat}{d:au}{ds:List au}:jk k (d::ds)=(d.cells.length==k&&jk k ds):=rfl
theorem aot{n:Nat}:(n==n)=true:=by simp
theorem anU{P:Program}{e:TypeId}{xs ys:List au}:awQ P e xs ys=((xs.length+ys.length)*P.bytesOf e≤dU∧jk (P.cellsOf e) ys=true∧0 < P.bytesOf e∧0 < P.cellsOf e∧du P e=true):=rfl
attribute [go_sem] av8 auD ard akW akl akr alU arX aqU aqY aw6 axL axc axk axo axr axO aw1 axG abD axF auT asb join_some List.getElem?_cons_zero List.getElem?_cons_succ List.getElem?_toArray Option.join_some vJ aaX alK aam vw alg ahd ajZ aoI alz yW ai4 ahR anF agL ab8 agH ail ahM adn zB zr ahC alP acL agM dL vX aiE amt afU aot anU eI eB eU eS eL axn atu amI au3 aqr auH ajr akw shL shR amL bOr ax0 ax7 lv mE amG ajk aj2 adX acC List.take_length List.map_append List.map_cons List.map_nil Bool.true_and Bool.false_and Bool.and_true Bool.and_false Bool.true_or Bool.false_or Bool.or_true Bool.or_false Bool.not_true Bool.not_false cond_true cond_false gS Option.isNone_some Option.isNone_none aoG ajy amq aom aiV ahD aad ot atb asf auf mU sD aeT aaU.eq_1 aaU.eq_2 uc.eq_1 pass
section
variable{C:Ctx}{m:Nat}{Q:Ex→St→Prop}{K:St→Prop}{s s1:St}
theorem dG(ht:St.To m s s1)(h:K s1):Ex.then (fun s=>∃s1,St.To m s s1∧K s1) Q .normal s:=⟨s1,ht,h⟩
theorem w_K{σ ρ:Type}{D:ρ→Prop}{a:Code}(inv:σ→St)(kk:σ→Option ρ)(h2:∀(x:σ) (s':St),Holds (kk x) D→St.To m s' (inv x)→Q .normal s')
  (h1:aO C (cq C) m a (Ex.then (fun s'=>∃x,Holds (kk x) D∧St.To m s' (inv x)) Q) s):aO C (cq C) m a Q s:=
 eD (dm.Le.refl_runs C) a (fun e s' h=>by cases e with
  |normal=>obtain⟨x,hx,ht⟩:=h;exact h2 x s' hx ht
  |_=>exact h) s h1
end
theorem anG{C:Ctx}{R:dm}{ops:Array Oper}{tab:List (Nat×Nat)}{K:St→Prop}{l rest pend pend':List Nat}{s s':St}(h:mU C.P ops l s=some s')(hp:l.reverse++pend=pend')(hk:di C R ops tab pend' rest K s'):di C R ops tab pend (l++rest) K s:=
 zX h (hp ▸ hk)
theorem any_nil:eQ []=false:=rfl
theorem any_cons{c:CV}{cs:List CV}:eQ (c::cs)=(c.isRow||eQ cs):=rfl
theorem arm{d:au}:(CV.val d).isRow=false:=rfl
theorem ar5:CV.nil.isRow=false:=rfl
theorem ato{α:Type}{n:α}:(n≠n)=False:=by simp
theorem avQ{b:Bool}:(b==true)=b:=by cases b <;> rfl
theorem asI{b:Bool}:(b==false)= !b:=by cases b <;> rfl
theorem apw:je []=some []:=rfl
theorem anS{d:au}{cs:List CV}:je (.val d::cs)=(je cs).map (List.cons d):=by
 simp only[je,CV.toD,oB];cases je cs <;> rfl
theorem aiX{cs:List CV}:je (.nil::cs)=(je cs).map (List.cons (.sl [])):=by
 simp only[je,CV.toD,oB];cases je cs <;> rfl
theorem adZ{n:Nat}:(n+1≠0)=True:=by simp
theorem awt{n:Nat}(h:dd (decide (n≤16777216)) false):(n≤2^24)=True:=eq_true (by
 have:n≤16777216:=by simpa using h.ne
 omega)
theorem fN{n k:Nat}{xs:List au}(u:cc n xs):cc (n+k) xs=True:=eq_true (tD (Nat.le_add_right n k) u)
theorem aru{P:Program}{as bs:List au}:fM P as bs []=some true:=rfl
def asg(P:Program)(f:Field)(t:Option TypeDesc)(a b:Option au):Option Bool:=
 match t,a,b with
 |some t,some a,some b=>eY t a b
 |_,_,_=>none
theorem aeh{P:Program}{as bs:List au}{f:Field}{fs:List Field}{e r:Bool}(h1:f.name= "_" ∨fl P f.type=true↔False) (h2:asg P f (P.underlying f.type) as[f.offset]? bs[f.offset]? =some e) (h3:fM P as bs fs=some r):fM P as bs (f::fs)=some (e&&r):=by
 simp only[fM]
 rw[if_neg (fun h=>h1.1 h)]
 cases ht:P.underlying f.type with
 |none=>rw[ht]at h2;simp[asg]at h2
 |some t=>
  cases ha:as[f.offset]? with
  |none=>rw[ht,ha]at h2;simp[asg]at h2
  |some a=>
   cases hb:bs[f.offset]? with
   |none=>rw[ht,ha,hb]at h2;simp[asg]at h2
   |some b=>
    rw[ht,ha,hb]at h2
    simp only[asg]at h2
    simp only[oB,h2,h3]
    cases e <;> rfl
theorem awx{P:Program}{t:TypeId}{fs:Array Field}{as bs:List au}{r:Bool}(hu:P.underlying t=some (.struct fs))(hs:P.stoodInHeld t=false)(hg:P.eqGuardType P.depth t=false)(h:fM P as bs fs.toList=some r):eqD P t (.agg as) (.agg bs)=some r:=by
 unfold eqD
 rw[hu]
 simp only[oB,hs,hg]
 simpa using h
theorem ajv{P:Program}{t:TypeId}{as bs:List au}{r:Bool}(h:eqD P t (.agg as) (.agg bs)=some r):me P .neq t (.agg as) (.agg bs)=some (.bool (!r)):=by simp[me,h]
theorem al6{s t:Str}:(bs s==bs t)=(s==t):=by rw[apI];by_cases h:s=t <;> simp[h]
theorem asm{n:Nat}:(n≤n)=True:=eq_true (nR n)
theorem zO{l i:Nat}:setCells l i []=[]:=rfl
theorem wl{l i:Nat}{c:CV}{cs:List CV}:setCells l i (c::cs)= .setCell l i c::setCells l (i+1) cs:=rfl
theorem ary{n:Nat}(h:dd (decide (n≤140737488355328)) false):(n≤dU)=True:=eq_true (by
 have:n≤140737488355328:=by simpa using h.ne
 unfold dU;omega)
theorem aty{a b:au}:packed [.cv (.val a),.cv (.val b)]=some (.tup [a,b]):=rfl
theorem atL{a b c:au}:packed [.cv (.val a),.cv (.val b),.cv (.val c)]=some (.tup [a,b,c]):=rfl
theorem xM{n:Nat}{xs ys:List au}:cc n (xs++ys)=(cc n xs∧cc n ys):=by
 induction xs with
 |nil=>simp[cc]
 |cons x xs ih=>simp only[List.cons_append,cc,ih,and_assoc]
theorem aa6{b:Bool}{k:IntKind}{a:Int}:gg b k a []=some (.int k a):=rfl
theorem abt{k:IntKind}{a b:Int}{l:List (IntKind×Int)}:gg false k a ((k,b)::l)=gg false k (mn a b) l:=by simp[gg,mn]
theorem ab6{k:IntKind}{a b:Int}{l:List (IntKind×Int)}:gg true k a ((k,b)::l)=gg true k (mx a b) l:=by simp[gg,mx]
theorem avm:(true=false)=False:=by simp
theorem aiy{n k:Nat}{d:au}:cc n (List.replicate k d)=(d.under n∨k=0):=by
 induction k with
 |zero=>simp[cc]
 |succ k ih=>
  simp only[List.replicate_succ,cc,ih]
  apply propext
  constructor
  ·intro h;exact .inl h.1
  ·intro h
   rcases h with h|h
   ·exact⟨h,.inl h⟩
   ·omega
theorem atd{b:Option (Nat×Nat)}:(au.ptr b).one=true:=rfl
theorem afv{a cs:List au}:rF (.agg a) cs= .agg cs:=rfl
theorem aig{k:IntKind}{n:Int}{c:au}:rF (.int k n) [c]=c:=rfl
theorem aaT{b:Bool}{c:au}:rF (.bool b) [c]=c:=rfl
theorem aiW{b:List au}{c:au}:rF (.sl b) [c]=c:=rfl
theorem ach{α:Type}{cs:List α}{i:Nat}:setFrom cs i []=cs:=rfl
theorem zg{α:Type}{cs ns:List α}{i:Nat}{n:α}:setFrom cs i (n::ns)=setFrom (cs.set i n) (i+1) ns:=rfl
theorem aue{n:Int}(h:dd (decide (0≤n∧n < 256)) false):((u8 n).toNat:Int)=n:=by
 have:0≤n∧n < 256:=by simpa using h.ne
 simp only[u8,UInt8.toNat_ofNat']
 omega
theorem afi{n:Nat}:∀{xs:List au},cc n xs↔∀(i:Nat) (d:au),xs[i]? =some d→d.under n:=by
 intro xs
 constructor
 ·intro h i d hd;exact lH h d (List.mem_of_getElem? hd)
 ·intro h;exact sN fun x hx=>by
   obtain⟨i,hi⟩:=List.getElem?_of_mem hx
   exact h i x hi
theorem afS{α:Type}{e:α→au}{k n i:Nat}[Enc e k]{xs:List α}{d:au}:cc n ((List.map e xs).set i d)=(d.under n∨xs.length≤i):=by
 apply propext
 rw[afi]
 constructor
 ·intro h
  by_cases hi:i < xs.length
  ·exact .inl (h i d (by rw[List.getElem?_set];simp[hi]))
  ·exact .inr (by omega)
 ·intro h j c hc
  rw[List.getElem?_set]at hc
  split at hc
  ·split at hc
   ·simp only[sJ]at hc;subst hc
    rcases h with h|h
    ·exact h
    ·rename_i h1 h2;simp at h2;omega
   ·cases hc
  ·rw[gP]at hc
   cases hx:xs[j]? with
   |none=>rw[hx]at hc;simp at hc
   |some x=>rw[hx]at hc;simp at hc;subst hc;exact Enc.under n x
theorem atI{i l j:Nat}:SV.unal (.slot i) (.alias (.cell l j))= .alias (.cell l j):=by simp[SV.unal,SV.drop]
theorem asW{l i j:Nat}(h:dd j i):SV.unal (.cell l i) (.alias (.cell l j))= .alias (.cell l j):=by simp[SV.unal,SV.drop,h.ne]
theorem aoB{i l j x y:Nat}:SV.unal (.slot i) (.elt (.cell l j) x y)= .elt (.cell l j) x y:=by simp[SV.unal,SV.drop]
theorem anT{i l j:Nat}{d:au}:SV.refix (.slot i) d (.alias (.cell l j))= .alias (.cell l j):=by simp[SV.refix]
theorem fq{l n k:Nat}(h:l < n):(l < n+k)=True:=eq_true (by omega)
theorem jh{l n:Nat}(h:l < n):(l < n)=True:=eq_true h
theorem ahI{n:Nat}:vn n []=True:=rfl
theorem adk{n:Nat}{v:SV}{vs:List SV}:vn n (v::vs)=(v.under n∧vn n vs):=rfl
def gy{K V:Type}(e:K→au)(d:V→au)(es:List (K×V)):List (au×au):=es.map fun p=>(e p.1,d p.2)
theorem apb{K V:Type}{e:K→au}{d:V→au}:gy e d []=[]:=rfl
theorem aoi{K V:Type}{e:K→au}{d:V→au}{es:List (K×V)}:(gy e d es).length=es.length:=by simp[gy]
theorem afM{K V:Type}{e:K→au}{d:V→au}{k k' n:Nat}[Enc e k][Enc d k']{es:List (K×V)}:lc n (gy e d es)=True:=vX
theorem acD{n:Nat}:lc n []=True:=rfl
theorem are{V:Type}{d:V→au}{k:Str}{es:List (Str×V)}:fy (.str (bs k)) (gy eS d es)=(oL k es).map d:=lv (e:=eS)
theorem arQ{V:Type}{d:V→au}{k:Int}{es:List (Int×V)}:fy (.int .i64 k) (gy eI d es)=(oL k es).map d:=lv (e:=eI)
theorem as9{k:Str}{v:Int}{es:List (Str×Int)}:qI (.str (bs k)) (.int .i64 v) (gy eS eI es)=gy eS eI (kF k v es):=mE (e:=eS) (d:=eI)
theorem atw{k:Int}{v:Int}{es:List (Int×Int)}:qI (.int .i64 k) (.int .i64 v) (gy eI eI es)=gy eI eI (kF k v es):=mE (e:=eI) (d:=eI)
theorem arL{k:Str}{v:Bool}{es:List (Str×Bool)}:qI (.str (bs k)) (.bool v) (gy eS eB es)=gy eS eB (kF k v es):=mE (e:=eS) (d:=eB)
theorem avF{o:Option Int}{z:Int}:(o.map eI).getD (.int .i64 z)= .int .i64 (o.getD z):=by cases o <;> rfl
theorem akS{P:Program}{kt:TypeId}{b:ByteArray}:isKey P kt .string (.str b)=true:=rfl
theorem alh{P:Program}{kt:TypeId}{k:IntKind}{n:Int}:isKey P kt (.int k) (.int k n)=true:=by simp[isKey]
attribute [go_sem] apb aoi afM acD are arQ as9 atw arL avF akS alh Option.isSome_map Option.isSome_none Option.isSome_some Option.getD_none
theorem arG{h:bn}{l0:Nat}{o0:dB}{os:List (Option dB)}{k:Nat}:(bn.on (bn.upd h l0 o0) os).at_ (h.n+k)=(os[k]?).join:=auD (h:=(bn.upd h l0 o0))
theorem aj1{h:bn}{l0:Nat}{o0:dB}{a0 a1:Option dB}{os:List (Option dB)}{o:dB}:(bn.on (bn.upd h l0 o0) (a0::a1::os)).upd (h.n+1) o=bn.on (bn.upd h l0 o0) (a0::some o::os):=akW (h:=(bn.upd h l0 o0))
theorem akQ{h:bn}{l0:Nat}{o0:dB}{a0 a1 a2:Option dB}{os:List (Option dB)}{o:dB}:(bn.on (bn.upd h l0 o0) (a0::a1::a2::os)).upd (h.n+2) o=bn.on (bn.upd h l0 o0) (a0::a1::some o::os):=akl (h:=(bn.upd h l0 o0))
theorem ak0{h:bn}{l0:Nat}{o0:dB}{a0 a1 a2 a3:Option dB}{os:List (Option dB)}{o:dB}:(bn.on (bn.upd h l0 o0) (a0::a1::a2::a3::os)).upd (h.n+3) o=bn.on (bn.upd h l0 o0) (a0::a1::a2::some o::os):=akr (h:=(bn.upd h l0 o0))
theorem alR{h:bn}{l0:Nat}{o0:dB}{a0 a1 a2 a3 a4:Option dB}{os:List (Option dB)}{o:dB}:(bn.on (bn.upd h l0 o0) (a0::a1::a2::a3::a4::os)).upd (h.n+4) o=bn.on (bn.upd h l0 o0) (a0::a1::a2::a3::some o::os):=alU (h:=(bn.upd h l0 o0))
attribute [go_sem] arG aj1 akQ ak0 alR
theorem ao3:ai7 []=[]:=rfl
theorem aky{d:au}{ds:List au}:ai7 (d::ds)= .val d::ai7 ds:=rfl
attribute [go_sem] ao3 aky
attribute [go_sem] atI asW aoB anT ahI adk
attribute [go_sem] afS afv aig aaT aiW ach zg aue List.map_set
attribute [go_sem] aiy atd List.all_cons List.all_nil Bool.and_self
attribute [go_sem] xM aa6 abt ab6 avm List.getD_cons_zero List.getD_cons_succ List.map_replicate
attribute [go_sem] asm zO wl List.set_cons_zero List.set_cons_succ ary aty atL lA List.length_map
attribute [go_sem] alN apw anS aiX adZ awt avQ asI ato any_nil any_cons arm ar5 List.drop_succ_cons
theorem tF{C:Ctx}{R:dm}{m:Nat}{Q:Ex→St→Prop}{s s1:St}{id:Nat}{ops:Array Oper}{d:Bool}(ht:St.To m s s1)(h:aO C R m (.region id ops d) Q s1):aO C R m (.region id ops d) Q s:=ayz ht h fun k=>To.trans ht k
theorem Holds.idxK{α β:Type}{xs:List α}{i:Nat}{k:α→Option β}{D:β→Prop}(h:Holds (xs[i]?.bind k) D):∃x,xs[i]? =some x∧(i < xs.length)=True∧Holds (k x) D:=by
 obtain⟨x,h1,h2⟩:=h.bind
 exact⟨x,h1,eq_true (List.getElem?_eq_some_iff.1 h1).1,h2⟩
def axS:Option (Nat×List au)→Option au
 |some p=>some (.sl p.2)
 |none=>none
def asO(s:St):SV→Option au
 |.cv (.val d)=>some d
 |.cv .nil=>some (.sl [])
 |.cv (.row _ xs)=>some (.sl xs)
 |.alias r=>axS (s.rowAt r)
 |_=>none
theorem amE{s:St}{d:au}:asO s (.cv (.val d))=some d:=rfl
theorem akM{s:St}{x:Operand}:nw s x=asO s (s.opv x):=by
 unfold nw
 cases s.opv x with
 |cv c=>cases c <;> rfl
 |alias r=>simp only[asO];cases s.rowAt r <;> rfl
 |undef=>rfl
 |imm _=>rfl
 |elt _ _ _=>rfl
 |bld _=>rfl
 |tup _=>rfl
def awo:Option au→Option (List au)→Option (List au)
 |some d,some ds=>some (d::ds)
 |_,_=>none
theorem af3{d:au}{ds:List au}:awo (some d) (some ds)=some (d::ds):=rfl
theorem alJ{s:St}:nh s []=some []:=rfl
theorem aih{s:St}{x:Operand}{xs:List Operand}:nh s (x::xs)=awo (nw s x) (nh s xs):=by
 rw[nh]
 cases nw s x with
 |none=>rfl
 |some d=>cases nh s xs <;> rfl
attribute [go_sem] amE akM af3 alJ aih aoF.eq_5 an1.eq_1 Bool.true_and
def au4(x:Operand):SV→Option fb
 |.cv (.row _ _)=>some (.slot (mc x))
 |.alias r=>some r
 |_=>none
theorem adL{x:Operand}{r:fb}:au4 x (.alias r)=some r:=rfl
theorem amr{s:St}{x:Operand}:rootOf s x=au4 x (s.opv x):=by
 unfold rootOf
 cases s.opv x with
 |cv c=>cases c <;> rfl
 |_=>rfl
attribute [go_sem] adL amr
attribute [go_sem] Bool.not_true Bool.not_false
theorem cq.as{C:Ctx}{f:FuncId}{as bs:List SV}{h:bn}{Q:List SV→bn→Prop}(hr:cq C f as h Q)(e:as=bs):cq C f bs h Q:=e ▸ hr
end Go.Val
namespace Go.Val
open Go.RowKit (Below)
variable{P:Program}{w:World}{G:Gh}
theorem rh{α β:Type}{f:α→Option β}:∀{l:List α} {r:List β},l.mapM f=some r→r.length=l.length∧∀(i:Nat) (x:α),l[i]? =some x→∃y,f x=some y∧r[i]? =some y
 | [],r,h=>by
  simp at h;subst h
  exact⟨rfl,fun i x hx=>by simp at hx⟩
 |a::l,r,h=>by
  rw[List.mapM_cons]at h
  cases ha:f a with
  |none=>rw[ha]at h;simp at h
  |some b=>
   cases hl:l.mapM f with
   |none=>rw[ha,hl]at h;simp at h
   |some bs=>
    rw[ha,hl]at h
    simp at h
    subst h
    obtain⟨h1,h2⟩:=rh hl
    refine⟨by simp[h1],fun i x hx=>?_⟩
    cases i with
    |zero=>simp at hx;subst hx;exact⟨b,ha,rfl⟩
    |succ i=>simp at hx;simpa using h2 i x hx
def ahZ(P:Program):Nat→List Field→Nat→Bool
 |o,[],n=>o==n
 |o,f::fs,n=>f.offset==o&&ahZ P (o+P.cellsOf f.type) fs n
def amT(P:Program):Nat→TypeId→Bool
 |0,_=>false
 |m+1,t=>match P.underlying t with
  |some .bool=>true
  |some (.int _)=>true
  |some .string=>true
  |some (.slice e)=>decide (0 < P.cellsOf e)&&amT P m e
  |some (.struct fs)=>ahZ P 0 fs.toList (P.cellsOf t)&&fs.toList.all fun f=>amT P m f.type&&(fl P f.type||P.cellsOf f.type==1)
  |_=>false
def isF(p:TypeId→List au→Prop):List Field→List au→Prop
 | [],ds=>ds=[]
 |f::fs,ds=>∃a b,ds=a++b∧p f.type a∧isF p fs b
def isT(P:Program):Nat→TypeId→List au→Prop
 |0,_,_=>False
 |m+1,t,ds=>match P.underlying t with
  |some .bool=>∃b,ds=[.bool b]
  |some (.int k)=>∃n,ds=[.int k n]∧(Lit.int k n).wf=true
  |some .string=>∃s,ds=[.str s]∧s.size≤maxLen
  |some (.slice e)=>∃xs,ds=[.sl xs]∧xs.length≤maxLen∧∀x∈xs,isT P m e x.cells∧(fl P e=true→∃cs,x= .agg cs)∧(fl P e=false→x.one=true)
  |some (.struct fs)=>isF (isT P m) fs.toList ds
  |_=>False
def imm?(G:Gh)(w:World):Prop:=∀b,b < w.heap.size→G.g b= .imm
theorem tw{p:TypeId→List au→Prop}{cs:List Value}:∀{fs:List Field} {o n:Nat},ahZ P o fs n=true→n=cs.length→(∀f∈fs,∃ds,cn w G ds ((cs.drop f.offset).take (P.cellsOf f.type))∧p f.type ds∧ds.length=P.cellsOf f.type)→
  ∃ds,cn w G ds (cs.drop o)∧isF p fs ds
 | [],o,n,ht,hn,_=>by
  simp only[ahZ,beq_iff_eq]at ht
  refine⟨[],?_,rfl⟩
  rw[List.drop_eq_nil_of_le (by omega)]
  exact .nil
 |f::fs,o,n,ht,hn,hp=>by
  simp only[ahZ,bA,beq_iff_eq]at ht
  obtain⟨a,h1,h2,h3⟩:=hp f (by simp)
  obtain⟨b,g1,g2⟩:=tw ht.2 hn fun f' hf'=>hp f' (by simp[hf'])
  rw[ht.1]at h1
  refine⟨a++b,?_,a,b,rfl,h2,g2⟩
  have:cs.drop o=(cs.drop o).take (P.cellsOf f.type)++cs.drop (o+P.cellsOf f.type):=by
   rw[← List.drop_drop,List.take_append_drop]
  rw[this]
  exact h1.append g1
theorem ahl{a:Addr}{n:Nat}{vs:List Value}(h:w.cells? 0 a n=some vs):vs.length=n∧∀(i:Nat) (v:Value),vs[i]? =some v→w.cell? (a.add i)=some v:=by
 unfold World.cells? at h
 rw[if_pos (Nat.zero_le _)]at h
 obtain⟨h1,h2⟩:=rh h
 refine⟨by simpa using h1,fun i v hv=>?_⟩
 have hi:i < n:=by have:=(List.getElem?_eq_some_iff.1 hv).1;simp at h1;omega
 obtain⟨y,hy,hr⟩:=h2 i i (by simp[hi])
 rw[hv]at hr
 cases hr
 exact hy
theorem tq{p:au→Prop}{a:Addr}{k:Nat}(hk:0 < k):∀(len:Nat),(∀i,i < len→∃vs x,w.cells? 0 (a.add (i*k)) k=some vs∧cn w G x.cells vs∧p x)→
  ∃xs vs,xs.length=len∧(∀x∈xs,p x∧x.cells.length=k)∧cn w G (bx xs) vs∧vs.length=len*k∧(∀(i:Nat) (v:Value),vs[i]? =some v→w.cell? ((a.add (i/k*k)).add (i%k))=some v)
 |0,_=>⟨[],[],rfl,by simp,.nil,by simp,by simp⟩
 |len+1,h=>by
  obtain⟨xs,vs,h1,h2,h3,h4,h5⟩:=tq hk len fun i hi=>h i (by omega)
  obtain⟨us,x,g1,g2,g3⟩:=h len (by omega)
  obtain⟨g4,g5⟩:=ahl g1
  refine⟨xs++[x],vs++us,by simp[h1],fun y hy=>?_,?_,by simp[h4,g4,Nat.add_mul],fun i v hv=>?_⟩
  ·rcases List.mem_append.1 hy with hy|hy
   ·exact h2 y hy
   ·simp at hy;subst hy;exact⟨g3,by have:=g2.length;omega⟩
  ·simp only[bx,List.flatMap_append,List.flatMap_cons,List.flatMap_nil,List.append_nil]
   exact h3.append g2
  ·by_cases hi:i < vs.length
   ·rw[List.getElem?_append_left hi]at hv;exact h5 i v hv
   ·rw[List.getElem?_append_right (by omega)]at hv
    have hlt:i - vs.length < us.length:=(List.getElem?_eq_some_iff.1 hv).1
    have e1:i/k=len:=by
     apply Nat.div_eq_of_lt_le
     ·omega
     ·rw[Nat.add_mul];omega
    have e2:i%k=i - vs.length:=by
     have:=Nat.div_add_mod i k
     rw[e1,Nat.mul_comm]at this;omega
    rw[e1,e2]
    exact g5 _ _ hv
theorem aej{H:Type}{enc:TypeId×Value→H}{spare:Nat→Bool}{held:Bool}(hi:imm? G w):∀(m:Nat) {fuel:Nat} {t:TypeId} {cs:List Value} {d:DataW H} {ps:List MemPlace},
  amT P m t=true→DataW.trod enc P w 0 spare held fuel t cs=some (d,ps)→∃ds,cn w G ds cs∧isT P m t ds∧ds.length=cs.length∧(fl P t=false→cs.length=1)∧(fl P t=true→cs.length=P.cellsOf t)
 |0,_,_,_,_,_,hf,_=>by cases hf
 |m+1,0,_,_,_,_,_,h=>by cases h
 |m+1,fuel+1,t,cs,d,ps,hf,h=>by
  have ih:=@aej H enc spare held hi m
  unfold amT at hf
  unfold isT
  cases hu:P.underlying t with
  |none=>rw[hu]at hf;cases hf
  |some td=>
   rw[hu]at hf
   cases td
   case bool=>
    simp only[DataW.trod,hu]at h
    split at h
    all_goals first|(rename_i heq;cases heq;done)|skip
    ·cases h;exact⟨[.bool _],.cons _ _ _ _ rfl (.bool _) .nil,⟨_,rfl⟩,rfl,fun _=>rfl,fun e=>by simp[fl,hu]at e⟩
    ·cases h
   case int k=>
    simp only[DataW.trod,hu]at h
    split at h
    all_goals first|(rename_i heq;cases heq;done)|skip
    ·rename_i heq
     cases heq
     split at h
     ·rename_i hc
      cases h
      obtain⟨rfl,hwf⟩:=hc
      exact⟨[.int _ _],.cons _ _ _ _ rfl (.int _ _) .nil,⟨_,rfl,hwf⟩,rfl,fun _=>rfl,fun e=>by simp[fl,hu]at e⟩
     ·cases h
    ·cases h
   case string=>
    simp only[DataW.trod,hu]at h
    split at h
    all_goals first|(rename_i heq;cases heq;done)|skip
    ·split at h
     ·rename_i hc
      cases h
      exact⟨[.str _],.cons _ _ _ _ rfl (.str _) .nil,⟨_,rfl,hc⟩,rfl,fun _=>rfl,fun e=>by simp[fl,hu]at e⟩
     ·cases h
    ·cases h
   case slice e=>
    simp only[bA,decide_eq_true_eq]at hf
    simp only[DataW.trod,hu]at h
    split at h
    all_goals first|(rename_i heq;cases heq;done)|skip
    ·cases h
     exact⟨[.sl []],.cons _ _ _ _ rfl (.nilsl none 0) .nil,⟨[],rfl,by simp,by simp⟩,rfl,fun _=>rfl,fun e=>by simp[fl,hu]at e⟩
    ·rename_i a len cap heq
     cases heq
     split at h
     ·rename_i hc
      simp only[Option.bind_eq_some_iff,Option.map_eq_some_iff]at h
      obtain⟨elems,hel,rest,hrest,_⟩:=h
      obtain⟨hl,hat⟩:=rh hel
      simp only[List.length_range]at hl
      obtain⟨xs,vs,g1,g2,g3,g4,g5⟩:=tq (w:=w) (G:=G) (p:=fun x=>isT P m e x.cells∧(fl P e=true→∃cs,x= .agg cs)∧(fl P e=false→x.one=true)) (a:=a) hf.1 len fun i hi=>by
       obtain⟨y,hy,_⟩:=hat i i (by simp[hi])
       obtain⟨vs,hvs,hr⟩:=Option.bind_eq_some_iff.1 hy
       obtain⟨ds,k1,k2,k3,k4,k5⟩:=ih (d:=y.1) (ps:=y.2) hf.2 hr
       cases hag:fl P e with
       |true=>
        refine⟨vs,.agg ds,hvs,k1,k2,fun _=>⟨ds,rfl⟩,fun e=>by cases e⟩
       |false=>
        have h1:=k4 hag
        cases k1 with
        |nil=>simp at h1
        |cons d v ds' vs' q1 q2 q3=>
         have hv':vs'=[]:=by simpa using h1
         subst hv'
         cases q3
         have hcell:d.cells=[d]:=by cases d <;> first|rfl|(simp[au.one]at q1)
         exact⟨[v],d,hvs,by rw[hcell];exact .cons _ _ _ _ q1 q2 .nil,by rw[hcell];exact k2,fun e=>by(cases e),fun _=>q1⟩
      refine⟨[.sl xs],?_,⟨xs,rfl,by omega,fun x hx=>(g2 x hx).1⟩,rfl,fun _=>rfl,fun e=>by simp[fl,hu]at e⟩
      refine .cons _ _ _ _ rfl ?_ .nil
      subst g1
      cases hx:xs with
      |nil=>exact .nilsl (some a) cap
      |cons x0 xs0=>
       rw[← hx]
       have hne:xs≠[]:=by rw[hx];simp
       have hlen:0 < xs.length:=by rw[hx];simp
       have hvl:0 < vs.length:=by rw[g4];exact Nat.mul_pos hlen hf.1
       have h0:=g5 0 _ (gE hvl)
       simp only[Nat.zero_div,Nat.zero_mod,Nat.zero_mul]at h0
       have hspot:a.spot=none:=by simpa[Addr.add]using World.cell?_spot h0
       have hb:a.block < w.heap.size:=by have:=tV h0;simpa[gW]using this
       refine .sl xs a cap (P.cellsOf e) vs hne (by omega) (hi _ hb) hb hspot (fun x hx=>(g2 x hx).2) g3 fun i v hv=>?_
       have:=g5 i v hv
       rw[add_add a _ _ hspot]at this
       rwa[Nat.div_add_mod']at this
     ·cases h
    ·cases h
   case struct fs=>
    simp only[bA,List.all_eq_true]at hf
    simp only[DataW.trod,hu]at h
    split at h
    ·rename_i hlen
     simp only[Option.map_eq_some_iff]at h
     obtain⟨xs,hxs,_⟩:=h
     obtain⟨hl,hat⟩:=rh hxs
     obtain⟨ds,k1,k2⟩:=tw (w:=w) (G:=G) (p:=isT P m) hf.1 hlen.symm fun f hff=>by
      obtain⟨i,hi⟩:=List.getElem?_of_mem hff
      obtain⟨y,hy,_⟩:=hat i f hi
      obtain⟨ds,q1,q2,q3,q4,q5⟩:=ih (d:=y.1) (ps:=y.2) (hf.2 f hff).1 hy
      refine⟨ds,q1,q2,?_⟩
      cases hag:fl P f.type with
      |true=>rw[q3];exact q5 hag
      |false=>rw[q3,q4 hag];(have:=(hf.2 f hff).2;simp[hag]at this;exact this.symm)
     have k1':cn w G ds cs:=k1
     refine⟨ds,k1',k2,k1'.length.symm,fun e=>by simp[fl,hu]at e,fun _=>hlen⟩
    ·cases h
   all_goals cases hf
def gh0(P:Program)(w:World):Gh:=⟨P,fun b=>if b < w.heap.size then .imm else .other,fun _=>0,0⟩
def au8:bn:=⟨0,fun _=>none⟩
theorem abU(P:Program)(w:World):imm? (gh0 P w) w:=fun b hb=>by simp[gh0,hb]
theorem ajb{C:Ctx}(hX:fF C)(hm:C.P.follows .mixedOrders=true){f:FuncId}{args:List SV}{vs:List Value}{w:World}{b:Bool}(hr:cq C f args au8 fun o h'=>o=[.cv (.val (.bool b))]∧h'=au8)
  (ha:dq w (gh0 C.P w) .slot 0 args vs):Calls C.P f vs.toArray w fun e w'=>e= .returned (.bool b)∧Below w.heap.size w w':=by
 refine Calls.mono ((qV hX hm hr).2 w (gh0 C.P w) vs rfl ha ⟨rfl,fun l o h=>by cases h⟩ (fun b hb=>by simp[gh0];omega)) fun e w' ⟨us,out,h',G',h1,h2,h3,h4,h5,h6⟩=>?_
 obtain⟨rfl,rfl⟩:=h2
 cases h3 with
 |cons c v os vs g1 g2=>
  cases g2
  have g1':cU w' G' (.bool b) v:=g1
  cases g1'
  exact⟨h1,h6.os,h6.tape,h6.output,h6.size,fun k hk=>(h6.imm k (abU _ _ k hk) hk).2⟩
theorem alA{α:Type}{e:α→au}:∀{xs:List au},(∀x∈xs,∃y,x=e y)→∃l:List α,xs=l.map e
 | [],_=>⟨[],rfl⟩
 |x::xs,h=>by
  obtain⟨y,hy⟩:=h x (by simp)
  obtain⟨l,hl⟩:=alA (xs:=xs) fun x hx=>h x (List.mem_cons_of_mem _ hx)
  exact⟨y::l,by simp[hy,hl]⟩
theorem apd{m:Nat}{t:TypeId}{ds:List au}(hu:P.underlying t=some .bool)(h:isT P (m+1) t ds):∃b:Bool,ds=[eB b]:=by
 unfold isT at h;rw[hu]at h;exact h
theorem ug{m:Nat}{t:TypeId}{ds:List au}(hu:P.underlying t=some (.int .i64))(h:isT P (m+1) t ds):∃n:Int,ds=[eI n]∧ -9223372036854775808≤n∧n≤9223372036854775807:=by
 unfold isT at h;rw[hu]at h
 obtain⟨n,h1,h2⟩:=h
 refine⟨n,h1,?_⟩
 simp[Lit.wf,IntKind.min,IntKind.max,IntKind.signed,IntKind.bits]at h2
 omega
theorem nn{m:Nat}{t e:TypeId}{ds:List au}{α:Type}{en:α→au}(hu:P.underlying t=some (.slice e))(h:isT P (m+1) t ds)(he:∀x,isT P m e x.cells→(fl P e=true→∃cs,x= .agg cs)→(fl P e=false→x.one=true)→∃y,x=en y):
  ∃l:List α,ds=[eL en l]∧l.length≤maxLen:=by
 unfold isT at h;rw[hu]at h
 obtain⟨xs,h1,h2,h3⟩:=h
 obtain⟨l,hl⟩:=alA fun x hx=>he x (h3 x hx).1 (h3 x hx).2.1 (h3 x hx).2.2
 exact⟨l,by rw[h1,hl];rfl,by rw[hl]at h2;simpa using h2⟩
theorem ap4{x d:au}(h:x.cells=[d])(ho:x.one=true):x=d:=by
 cases x <;> first|(simpa[au.cells]using h)|(simp[au.one]at ho)
variable{P:Program}{w:World}{G:Gh}
def akj(P:Program)(S:List TypeId):Bool:=S.all fun t=>match P.underlying t with
  |some .bool=>true
  |some (.int _)=>true
  |some .string=>true
  |some (.slice e)=>decide (0 < P.cellsOf e)&&S.contains e
  |some (.struct fs)=>ahZ P 0 fs.toList (P.cellsOf t)&&fs.toList.all fun f=>S.contains f.type&&(fl P f.type||P.cellsOf f.type==1)
  |_=>false
theorem yU{H:Type}{enc:TypeId×Value→H}{spare:Nat→Bool}{held:Bool}(hi:imm? G w){S:List TypeId}(hS:akj P S=true):∀(m:Nat) {t:TypeId} {cs:List Value} {d:DataW H} {ps:List MemPlace},
  S.contains t=true→DataW.trod enc P w 0 spare held m t cs=some (d,ps)→∃ds,cn w G ds cs∧isT P m t ds∧ds.length=cs.length∧(fl P t=false→cs.length=1)∧(fl P t=true→cs.length=P.cellsOf t)
 |0,_,_,_,_,_,h=>by cases h
 |m+1,t,cs,d,ps,hf0,h=>by
  have ih:=@yU H enc spare held hi S hS m
  have hf:=List.all_eq_true.1 hS t (by simpa using hf0)
  unfold isT
  cases hu:P.underlying t with
  |none=>rw[hu]at hf;cases hf
  |some td=>
   rw[hu]at hf
   cases td
   case bool=>
    simp only[DataW.trod,hu]at h
    split at h
    all_goals first|(rename_i heq;cases heq;done)|skip
    ·cases h;exact⟨[.bool _],.cons _ _ _ _ rfl (.bool _) .nil,⟨_,rfl⟩,rfl,fun _=>rfl,fun e=>by simp[fl,hu]at e⟩
    ·cases h
   case int k=>
    simp only[DataW.trod,hu]at h
    split at h
    all_goals first|(rename_i heq;cases heq;done)|skip
    ·rename_i heq
     cases heq
     split at h
     ·rename_i hc
      cases h
      obtain⟨rfl,hwf⟩:=hc
      exact⟨[.int _ _],.cons _ _ _ _ rfl (.int _ _) .nil,⟨_,rfl,hwf⟩,rfl,fun _=>rfl,fun e=>by simp[fl,hu]at e⟩
     ·cases h
    ·cases h
   case string=>
    simp only[DataW.trod,hu]at h
    split at h
    all_goals first|(rename_i heq;cases heq;done)|skip
    ·split at h
     ·rename_i hc
      cases h
      exact⟨[.str _],.cons _ _ _ _ rfl (.str _) .nil,⟨_,rfl,hc⟩,rfl,fun _=>rfl,fun e=>by simp[fl,hu]at e⟩
     ·cases h
    ·cases h
   case slice e=>
    simp only[bA,decide_eq_true_eq]at hf
    simp only[DataW.trod,hu]at h
    split at h
    all_goals first|(rename_i heq;cases heq;done)|skip
    ·cases h
     exact⟨[.sl []],.cons _ _ _ _ rfl (.nilsl none 0) .nil,⟨[],rfl,by simp,by simp⟩,rfl,fun _=>rfl,fun e=>by simp[fl,hu]at e⟩
    ·rename_i a len cap heq
     cases heq
     split at h
     ·rename_i hc
      simp only[Option.bind_eq_some_iff,Option.map_eq_some_iff]at h
      obtain⟨elems,hel,rest,hrest,_⟩:=h
      obtain⟨hl,hat⟩:=rh hel
      simp only[List.length_range]at hl
      obtain⟨xs,vs,g1,g2,g3,g4,g5⟩:=tq (w:=w) (G:=G) (p:=fun x=>isT P m e x.cells∧(fl P e=true→∃cs,x= .agg cs)∧(fl P e=false→x.one=true)) (a:=a) hf.1 len fun i hi=>by
       obtain⟨y,hy,_⟩:=hat i i (by simp[hi])
       obtain⟨vs,hvs,hr⟩:=Option.bind_eq_some_iff.1 hy
       obtain⟨ds,k1,k2,k3,k4,k5⟩:=ih (d:=y.1) (ps:=y.2) hf.2 hr
       cases hag:fl P e with
       |true=>
        refine⟨vs,.agg ds,hvs,k1,k2,fun _=>⟨ds,rfl⟩,fun e=>by cases e⟩
       |false=>
        have h1:=k4 hag
        cases k1 with
        |nil=>simp at h1
        |cons d v ds' vs' q1 q2 q3=>
         have hv':vs'=[]:=by simpa using h1
         subst hv'
         cases q3
         have hcell:d.cells=[d]:=by cases d <;> first|rfl|(simp[au.one]at q1)
         exact⟨[v],d,hvs,by rw[hcell];exact .cons _ _ _ _ q1 q2 .nil,by rw[hcell];exact k2,fun e=>by(cases e),fun _=>q1⟩
      refine⟨[.sl xs],?_,⟨xs,rfl,by omega,fun x hx=>(g2 x hx).1⟩,rfl,fun _=>rfl,fun e=>by simp[fl,hu]at e⟩
      refine .cons _ _ _ _ rfl ?_ .nil
      subst g1
      cases hx:xs with
      |nil=>exact .nilsl (some a) cap
      |cons x0 xs0=>
       rw[← hx]
       have hne:xs≠[]:=by rw[hx];simp
       have hlen:0 < xs.length:=by rw[hx];simp
       have hvl:0 < vs.length:=by rw[g4];exact Nat.mul_pos hlen hf.1
       have h0:=g5 0 _ (gE hvl)
       simp only[Nat.zero_div,Nat.zero_mod,Nat.zero_mul]at h0
       have hspot:a.spot=none:=by simpa[Addr.add]using World.cell?_spot h0
       have hb:a.block < w.heap.size:=by have:=tV h0;simpa[gW]using this
       refine .sl xs a cap (P.cellsOf e) vs hne (by omega) (hi _ hb) hb hspot (fun x hx=>(g2 x hx).2) g3 fun i v hv=>?_
       have:=g5 i v hv
       rw[add_add a _ _ hspot]at this
       rwa[Nat.div_add_mod']at this
     ·cases h
    ·cases h
   case struct fs=>
    simp only[bA,List.all_eq_true]at hf
    simp only[DataW.trod,hu]at h
    split at h
    ·rename_i hlen
     simp only[Option.map_eq_some_iff]at h
     obtain⟨xs,hxs,_⟩:=h
     obtain⟨hl,hat⟩:=rh hxs
     obtain⟨ds,k1,k2⟩:=tw (w:=w) (G:=G) (p:=isT P m) hf.1 hlen.symm fun f hff=>by
      obtain⟨i,hi⟩:=List.getElem?_of_mem hff
      obtain⟨y,hy,_⟩:=hat i f hi
      obtain⟨ds,q1,q2,q3,q4,q5⟩:=ih (d:=y.1) (ps:=y.2) (hf.2 f hff).1 hy
      refine⟨ds,q1,q2,?_⟩
      cases hag:fl P f.type with
      |true=>rw[q3];exact q5 hag
      |false=>rw[q3,q4 hag];(have:=(hf.2 f hff).2;simp[hag]at this;exact this.symm)
     have k1':cn w G ds cs:=k1
     refine⟨ds,k1',k2,k1'.length.symm,fun e=>by simp[fl,hu]at e,fun _=>hlen⟩
    ·cases h
   all_goals cases hf
end Go.Val
namespace Go.Val
theorem cN{p:Prop}(h:p:=by simp (disch:=(apply dd.mk;decide)) only[go_sem,Nat.reduceAdd,Nat.reduceLT,Nat.reduceMul,Nat.reduceLeDiff,Int.reduceToNat,Int.reduceLT,Int.reduceLE, *]):p:=h
theorem kB{p:Prop}(h:p:=by simp (disch:=(apply dd.mk;decide)) only[go_sem,Nat.reduceAdd,Nat.reduceLT,Nat.reduceMul,Nat.reduceLeDiff,Int.reduceToNat,Int.reduceLT,Int.reduceLE, *];rfl):p:=h
theorem ayg{p:Prop}(h:p:=by simp (disch:=(apply dd.mk;decide)) only[go_sem,Nat.reduceAdd,Nat.reduceLT,Nat.reduceMul,Nat.reduceLeDiff,Int.reduceToNat,Int.reduceLT,Int.reduceLE,eT,fB.eq_2,dH, *]):p:=h
theorem aaI{p:Prop}(h:p:=by simp (disch:=(apply dd.mk;decide)) only[go_sem,Nat.reduceAdd,Nat.reduceLT,Nat.reduceMul,Nat.reduceLeDiff,Int.reduceToNat,Int.reduceLT,Int.reduceLE,gS] <;> rfl):p:=h
theorem at4{p:Prop}(h:p:=by simp (disch:=(apply dd.mk;decide)) only[go_sem,Nat.reduceAdd,Nat.reduceLT,Nat.reduceMul,Nat.reduceLeDiff,Int.reduceToNat,Int.reduceLT,Int.reduceLE,gS, *];rfl):p:=h
theorem ayk{p:Prop}(h:p:=by simp (disch:=(apply dd.mk;decide)) only[go_sem,Nat.reduceAdd,Nat.reduceLT,Nat.reduceMul,Nat.reduceLeDiff,Int.reduceToNat,Int.reduceLT,Int.reduceLE,gS, *]):p:=h
theorem xT{p:Prop}(h:p:=by simp (disch:=(apply dd.mk;decide)) only[go_sem,Nat.reduceAdd,Nat.reduceLT,Nat.reduceMul,Nat.reduceLeDiff,Int.reduceToNat,Int.reduceLT,Int.reduceLE]):p:=h
section
variable{C:Ctx}{R:dm}{m:Nat}{Q:Ex→St→Prop}{s:St}
theorem aC{id:Nat}{ops:Array Oper}{l:List Oper}{s':St}(hk:Q .normal s')(hl:ops.toList=l:=by rfl)(h:gX C.P ops l s=some s':=by exact kB):aO C R m (.region id ops false) Q s:=kM hl h hk
theorem aG(k:Nat){ops:Array Oper}{K:St→Prop}{l:List Oper}{s':St}{o:Oper}{os:List Oper}(hk:wpOps C R ops (o::os) K s')(hl:l.drop k=o::os:=by rfl)(h:gX C.P ops (l.take k) s=some s':=by exact kB):wpOps C R ops l K s:=ap0 k hl h hk
theorem cB{id:Nat}{ops:Array Oper}{l:List Oper}(h:wpOps C R ops l (Q .normal) s)(hl:ops.toList=l:=by rfl):aO C R m (.region id ops false) Q s:=auc hl h
theorem aj{ops:Array Oper}{K:St→Prop}{l:List Oper}{s':St}(hk:K s')(h:gX C.P ops l s=some s':=by exact kB):wpOps C R ops l K s:=aaa h hk
theorem iF{ops:Array Oper}{os:List Oper}{K:St→Prop}{o:Oper}(hk:wpOps C R ops os K (s.put o.dst .undef))(h0:guardOf ops s o=some false:=by exact cN):wpOps C R ops (o::os) K s:=axm h0 hk
theorem oE(t:Bool){c:Operand}{a b:Code}(h1:t=true→aO C R m a Q s)(h2:t=false→aO C R m b Q s)(hc:s.opv c= .cv (.val (.bool t)):=by exact cN):aO C R m (.cond c a b) Q s:=auI hc h1 h2
theorem ak{c:Operand}{x y:Code}{t:Bool}{α:Type}{A B:Option α}{D:α→Prop}(hr:Holds (if t=true then A else B) D)(h1:t=true→Holds A D→aO C R m x Q s)(h2:t=false→Holds B D→aO C R m y Q s)(hc:s.opv c= .cv (.val (.bool t)):=by exact cN):aO C R m (.cond c x y) Q s:=atp hc hr h1 h2
theorem aU{h:bn}{os os':List (Option dB)}{sl:List (Nat×SV)}(hwf:h.WF)(hm:m≤h.n:=by exact nR _)(hb:s.box=h.on os:=by first|rfl|(exact kB))
  (hc:xy (h.on os').n os os'∧aqk s (h.on os') (h.on os').n sl sl:=by exact cN):St.To m s ⟨sl,h.on os'⟩:=To.cut hwf hm hb hc
theorem aN{s1:St}{f:FuncId}{fn:Func}{P:List SV→bn→Prop}{out:List SV}{h':bn}(ht:St.To m s s1)(hq:P out h')(hres:results C f s1 fn.results.toList=some (out,h'):=by exact ayg):atEnd C m f fn P .ret s:=rD ht hres hq
theorem aqy{s1:St}{f:FuncId}{fn:Func}{P:List SV→bn→Prop}{out:List SV}{h':bn}(ht:St.To m s s1)(hq:P out h')(hres:results C f s1 fn.results.toList=some (out,h'):=by exact ayg):atEnd C m f fn P .normal s:=auO ht hres hq
end
section
variable{C:Ctx}{s:St}
theorem aT{ops:Array Oper}{os:List Oper}{K:St→Prop}{dst:Option Tmp}{ty:TypeId}{pos:String}{after:Array Edge}{f:Operand}{args:Array Operand}{ts:Array TypeId}{gd:Option (Nat×Bool)}
  {g:FuncId} {fs cs:List au} {as:List SV} {es:List Eff} {s1:St} {out:List SV} {hp:bn}
  (h4:cq C g (jI fs++as++jI cs) s1.box fun o h'=>o=out∧h'=hp) (h5:(packed out).isSome=true) (hk:wpOps C (cq C) ops os K (St.put ⟨dy SV.uncell s1.slots,hp⟩ dst ((packed out).getD .undef)))
  (h0:guardOf ops s ⟨dst,.call ⟨.value f,args,ts⟩,ty,pos,after,gd⟩=some true:=by first|rfl|(simp (disch:=(apply dd.mk;decide)) only[go_sem,Nat.reduceAdd,Nat.reduceLT,Nat.reduceMul,Nat.reduceLeDiff,Int.reduceToNat,Int.reduceLT,Int.reduceLE, *])) (h1:callee s f=some (g,fs,cs):=by exact at4) (h2:iT C g s fs.length args.toList=some (as,es):=by exact at4) (h3:s.effs es=s1:=by exact at4):
  wpOps C (cq C) ops (⟨dst,.call ⟨.value f,args,ts⟩,ty,pos,after,gd⟩::os) K s:=asi h0 h1 h2 h3 h4 h5 hk
end
theorem kZ{h:bn}{l:Nat}(hl:l < h.n):(∀os,(h.on os).at_ l=h.at_ l)∧(∀k,(l < h.n+k)=True)∧(l < h.n)=True:=⟨fun os=>fc hl,fun k=>fq hl,eq_true hl⟩
theorem aef{C:Ctx}{s:St}{R:dm}{ops:Array Oper}{os:List Oper}{K:St→Prop}{dst:Option Tmp}{ty ty' t e:TypeId}{pos:String}{after:Array Edge}{x:Operand}{gd:Option (Nat×Bool)}{xs:List au}
  (h0:guardOf ops s ⟨dst,.binOp .eql t x (.const (.slice none 0 0)) ty',ty,pos,after,gd⟩=some true) (hu:C.P.underlying t=some (.slice e)) (hx:optVal s x=some (.sl xs))
  (hk:∀b,(xs≠[]→b=false)→wpOps C R ops os K (s.put dst (.cv (.val (.bool b))))):
  wpOps C R ops (⟨dst,.binOp .eql t x (.const (.slice none 0 0)) ty',ty,pos,after,gd⟩::os) K s:=
 ⟨true,h0,fun _=>.inl ⟨t,x,ty',xs,e,rfl,hu,hx,hk⟩,fun e=>by cases e⟩
def eK(k:IntKind)(n:Int):au:=.int k n
instance {k:IntKind}:Enc (eK k) 1:=⟨fun _=>rfl,fun n x=>by simp only[eK,au.under]⟩
instance {k:IntKind}:Key (eK k):=⟨fun a b=>by
 simp only[ja,eK,decide_true,Bool.true_and]
 by_cases h:a=b
 ·subst h;simp
 ·simp[h]⟩
def eA{α:Type}{n:Nat}(e:α→au)(v:Vector α n):au:=.agg (v.toList.map e)
def cH{α:Type}{n:Nat}(e:α→au)(v:Vector α n):List CV:=(v.toList.map e).map CV.val
variable{α:Type}{n:Nat}{e:α→au}{v:Vector α n}{cs:List CV}
instance {k:Nat} [Enc e k]:Enc (eA (n:=n) e) n:=⟨fun x=>by simp[eA,au.cells],fun m x=>by simp only[eA,au.under];rw[dL];trivial⟩
theorem js:(cH e v).length=n:=by simp[cH]
theorem aiu:(v.toList.map e).map CV.val=cH e v:=rfl
theorem yy:∀(l:List au),je (l.map CV.val)=some l
 | []=>rfl
 |d::l=>by simp[je,CV.toD,yy l]
theorem ahG:je (cH e v)=some (v.toList.map e):=yy _
theorem kV:∀(l:List au) (cs:List CV),eQ (l.map CV.val++cs)=eQ cs
 | [],_=>rfl
 |d::l,cs=>by
  have:=kV l cs
  simp only[List.map_cons,List.cons_append,eQ,this]
  rfl
theorem qt:eQ (cH e v++cs)=eQ cs:=kV _ _
theorem zC:eQ (cH e v)=false:=by
 have:=qt (e:=e) (v:=v) (cs:=[])
 rw[List.append_nil]at this
 exact this
theorem acP{k:Nat}:eQ ((cH e v).drop k)=false:=by
 unfold cH
 rw[← List.map_drop]
 have:=kV ((v.toList.map e).drop k) []
 rw[List.append_nil]at this
 rw[this];rfl
theorem agW:(cH e v).take n=cH e v:=List.take_of_length_le (by rw[js];exact nR _)
theorem vT:(cH e v++cs)[n]? =cs[0]? :=by
 rw[List.getElem?_append_right (by rw[js];exact nR _),js,Nat.sub_self]
theorem abC{d:CV}:(cH e v++cs).getD n d=cs.getD 0 d:=by simp only[gD,vT]
theorem aiq{c:CV}:(cH e v++cs).set n c=cH e v++cs.set 0 c:=by
 rw[List.set_append_right _ _ (by rw[js];exact nR _),js,Nat.sub_self]
def xz(v:Vector α n)(i:Int)(x:α):Vector α n:=v.setIfInBounds i.toNat x
theorem zx{i:Int}{x:α}:(xz v i x).toList=v.toList.set i.toNat x:=by simp[xz]
theorem um{i:Int}{x:α}:(cH e v).set i.toNat (.val (e x))=cH e (xz v i x):=by
 unfold cH
 rw[zx,List.map_set,List.map_set]
theorem agI{i:Int}{x:α}(h:i.toNat < n):(cH e v++cs).set i.toNat (.val (e x))=cH e (xz v i x)++cs:=by
 rw[List.set_append_left _ _ (by rw[js];exact h),um]
theorem aag{i:Int}{x:α}(h:v.toList[i.toNat]? =some x):(cH e v)[i.toNat]? =some (.val (e x)):=by
 unfold cH;rw[gP,gP,h];rfl
theorem vG{i:Int}{x:α}(h:v.toList[i.toNat]? =some x):(cH e v++cs)[i.toNat]? =some (.val (e x)):=by
 have h1:=aag (e:=e) h
 rw[List.getElem?_append_left (by have:=(List.getElem?_eq_some_iff.1 h1).1;exact this)];exact h1
theorem ahx{i:Int}{x:α}{d:CV}(h:v.toList[i.toNat]? =some x):(cH e v).getD i.toNat d= .val (e x):=by rw[gD,aag h];rfl
theorem adR{i:Int}{x:α}{d:CV}(h:v.toList[i.toNat]? =some x):(cH e v++cs).getD i.toNat d= .val (e x):=by rw[gD,vG h];rfl
theorem aq9{n:Int}:eU (u8 (IntKind.u8.wrap n))= .int .u8 (IntKind.u8.wrap n):=by unfold eU;rw[akw]
theorem rM{m:Nat}:∀(l:List au) (cs:List CV),cc m l→(gw m (l.map CV.val++cs)=gw m cs)
 | [],_,_=>rfl
 |d::l,cs,h=>by
  have h1:d.under m∧cc m l:=h
  have:=rM l cs h1.2
  show(((CV.val d).under m)∧gw m (l.map CV.val++cs))=_
  rw[this]
  exact propext ⟨fun x=>x.2,fun x=>⟨h1.1,x⟩⟩
theorem oF{m k:Nat}[Enc e k]:gw m (cH e v++cs)=gw m cs:=rM _ _ (by rw[dL];trivial)
theorem xp{m k:Nat}[Enc e k]:gw m (cH e v)=True:=by
 have:=oF (e:=e) (v:=v) (cs:=[]) (m:=m)
 rw[List.append_nil]at this
 rw[this];rfl
theorem ar9{m:Nat}:(m+1 < 1)=False:=eq_false (by omega)
theorem uS:∀(l:List au) (cs:List CV),je (l.map CV.val++cs)=(je cs).map fun ds=>l++ds
 | [],cs=>by simp
 |d::l,cs=>by
  have:=uS l cs
  simp only[List.map_cons,List.cons_append,je,CV.toD,this]
  cases je cs <;> rfl
theorem aa9:je (cH e v++cs)=(je cs).map fun ds=>v.toList.map e++ds:=uS _ _
theorem uq:∀(l:List au) (cs cs':List CV),CV.fitsL (l.map CV.val++cs) (l.map CV.val++cs')=CV.fitsL cs cs'
 | [],_,_=>rfl
 |d::l,cs,cs'=>by
  have:=uq l cs cs'
  simp only[List.map_cons,List.cons_append,vw,this,vJ,true_and]
theorem rC{cs':List CV}:CV.fitsL (cH e v++cs) (cH e v++cs')=CV.fitsL cs cs':=uq _ _ _
theorem adE:CV.fitsL (cH e v) (cH e v)=True:=by
 have:=rC (e:=e) (v:=v) (cs:=[]) (cs':=[])
 rw[List.append_nil]at this
 rw[this];simp only[aam]
theorem aan{m:Nat}{v:Vector α (m+1)}:eQ ((cH e v++cs).drop 1)=eQ cs:=by
 have hl:(cH e v).length=m+1:=js
 rw[List.drop_append_of_le_length (by omega)]
 unfold cH
 rw[← List.map_drop]
 exact kV _ _
theorem pQ{i:Nat}{x:α}(h:v.toList[i]? =some x):i < n:=by have:=(List.getElem?_eq_some_iff.1 h).1;simpa using this
theorem anR{i:Nat}{x:α}(h:v.toList[i]? =some x):(v.toList.map e).drop i=e x::(v.toList.map e).drop (i+1):=by
 have h1:(v.toList.map e)[i]? =some (e x):=by rw[gP,h];rfl
 obtain⟨hlt,hg⟩:=List.getElem?_eq_some_iff.1 h1
 rw[List.drop_eq_getElem_cons hlt,hg]
theorem ri{K:Type}[DecidableEq K]{e:K→au}[Key e](hi:∀a,∃k m,e a= .int k m):∀{l m:List K},kr (l.map e) (m.map e)=decide (l=m)
 | [],[]=>rfl
 | [],b::m=>by simp[kr]
 |a::l,[]=>by
  obtain⟨k,x,hx⟩:=hi a
  simp[kr,hx]
 |a::l,b::m=>by
  obtain⟨k,x,hx⟩:=hi a
  obtain⟨k',y,hy⟩:=hi b
  have h:=Key.eq (e:=e) a b
  rw[hx,hy]at h
  simp only[ja]at h
  simp only[List.map_cons,hx,hy,kr,ri hi (l:=l) (m:=m)]
  have h':(decide (k=k')&&x==y)=decide (a=b):=h
  rw[h']
  simp only[List.cons.injEq,Bool.decide_and]
theorem auq(a:UInt8):∃k m,eU a= .int k m:=⟨_,_,rfl⟩
theorem auE(a:Int):∃k m,eI a= .int k m:=⟨_,_,rfl⟩
instance:Key eU:=⟨fun a b=>by
 simp only[ja,eU,decide_true,Bool.true_and]
 by_cases h:a=b
 ·subst h;simp
 ·have:¬ a.toNat=b.toNat:=fun e=>h (UInt8.toNat_inj.1 e)
  simp[h];omega⟩
instance:Key (eA (n:=n) eU):=⟨fun a b=>by
 simp only[ja,eA]
 rw[ri auq]
 exact decide_eq_decide.2 Vector.toList_inj⟩
instance:Key (eA (n:=n) eI):=⟨fun a b=>by
 simp only[ja,eA]
 rw[ri auE]
 exact decide_eq_decide.2 Vector.toList_inj⟩
theorem aeL:∀(l:List UInt8),mX .u8 (l.map eU)=true
 | []=>rfl
 |a::l=>by simp[mX,eU,aeL l]
theorem anl{P:Program}{kt t:TypeId}{v:Vector UInt8 n}(h:P.underlying t=some (.int .u8))(hc:P.cellsOf t=1):isKey P kt (.array n t) (.agg (v.toList.map eU))=true:=by
 simp only[isKey,aeP,h,hc,aeL];simp
theorem as0{V:Type}{d:V→au}{q:IntKind}{k:Int}{es:List (Int×V)}:fy (.int q k) (gy (eK q) d es)=(oL k es).map d:=lv (e:=eK q)
theorem atO{q:IntKind}{k:Int}{v:Int}{es:List (Int×Int)}:qI (.int q k) (.int .i64 v) (gy (eK q) eI es)=gy (eK q) eI (kF k v es):=mE (e:=eK q) (d:=eI)
theorem aoJ{V:Type}{d:V→au}{k:Vector UInt8 n}{es:List (Vector UInt8 n×V)}:fy (.agg (k.toList.map eU)) (gy (eA eU) d es)=(oL k es).map d:=lv (e:=eA eU)
theorem an3{k:Vector UInt8 n}{v:Int}{es:List (Vector UInt8 n×Int)}:qI (.agg (k.toList.map eU)) (.int .i64 v) (gy (eA eU) eI es)=gy (eA eU) eI (kF k v es):=mE (e:=eA eU) (d:=eI)
attribute [go_sem] aan aa9 rC adE ar9 oF xp Vector.length_toList acP eK eA js aiu ahG zC qt agW vT abC aiq um as0 atO aoJ an3
mutual
def au.beq:au→au→Bool
 |.int k n,.int k' n'=>decide (k=k')&&decide (n=n')
 |.bool b,.bool b'=>decide (b=b')
 |.str s,.str s'=>decide (s.data.toList=s'.data.toList)
 |.sl xs,.sl ys=>au.beqL xs ys
 |.agg xs,.agg ys=>au.beqL xs ys
 |.ptr a,.ptr b=>decide (a=b)
 |.map a,.map b=>decide (a=b)
 |.fn f as bs,.fn g cs ds=>decide (f=g)&&au.beqL as cs&&au.beqL bs ds
 |.nilfn,.nilfn=>true
 |_,_=>false
def au.beqL:List au→List au→Bool
 | [],[]=>true
 |x::xs,y::ys=>au.beq x y&&au.beqL xs ys
 |_,_=>false
end
mutual
theorem au.beq_eq:∀(a b:au),au.beq a b=true→a=b
 |.int k n,b,h=>by
  cases b <;> simp only[au.beq,bA,decide_eq_true_eq,Bool.false_eq_true]at h
  rw[h.1,h.2]
 |.bool x,b,h=>by
  cases b <;> simp only[au.beq,decide_eq_true_eq,Bool.false_eq_true]at h
  rw[h]
 |.str s,b,h=>by
  cases b <;> simp only[au.beq,decide_eq_true_eq,Bool.false_eq_true]at h
  rename_i s'
  congr 1
  cases s;cases s'
  simp only at h
  congr 1
  exact Array.ext' h
 |.sl xs,b,h=>by
  cases b <;> simp only[au.beq,Bool.false_eq_true]at h
  rw[au.beqL_eq _ _ h]
 |.agg xs,b,h=>by
  cases b <;> simp only[au.beq,Bool.false_eq_true]at h
  rw[au.beqL_eq _ _ h]
 |.ptr a,b,h=>by
  cases b <;> simp only[au.beq,decide_eq_true_eq,Bool.false_eq_true]at h
  rw[h]
 |.map a,b,h=>by
  cases b <;> simp only[au.beq,decide_eq_true_eq,Bool.false_eq_true]at h
  rw[h]
 |.fn f as bs,b,h=>by
  cases b <;> simp only[au.beq,bA,decide_eq_true_eq,Bool.false_eq_true]at h
  rw[h.1.1,au.beqL_eq _ _ h.1.2,au.beqL_eq _ _ h.2]
 |.nilfn,b,h=>by
  cases b <;> simp only[au.beq,Bool.false_eq_true]at h
  rfl
theorem au.beqL_eq:∀(a b:List au),au.beqL a b=true→a=b
 | [],b,h=>by
  cases b <;> simp only[au.beqL,Bool.false_eq_true]at h
  rfl
 |x::xs,b,h=>by
  cases b <;> simp only[au.beqL,bA,Bool.false_eq_true]at h
  rw[au.beq_eq _ _ h.1,au.beqL_eq _ _ h.2]
end
def CV.beq:CV→CV→Bool
 |.val a,.val b=>au.beq a b
 |.nil,.nil=>true
 |.row k xs,.row k' ys=>decide (k=k')&&au.beqL xs ys
 |.dead,.dead=>true
 |_,_=>false
theorem CV.beq_eq(a b:CV)(h:CV.beq a b=true):a=b:=by
 cases a <;> cases b <;> simp only[CV.beq,bA,decide_eq_true_eq,Bool.false_eq_true]at h
 ·rw[au.beq_eq _ _ h]
 ·rfl
 ·rw[h.1,au.beqL_eq _ _ h.2]
 ·rfl
def CV.beqL:List CV→List CV→Bool
 | [],[]=>true
 |x::xs,y::ys=>CV.beq x y&&CV.beqL xs ys
 |_,_=>false
theorem CV.beqL_eq:∀(a b:List CV),CV.beqL a b=true→a=b
 | [],b,h=>by
  cases b <;> simp only[CV.beqL,Bool.false_eq_true]at h
  rfl
 |x::xs,b,h=>by
  cases b <;> simp only[CV.beqL,bA,Bool.false_eq_true]at h
  rw[CV.beq_eq _ _ h.1,CV.beqL_eq _ _ h.2]
def SV.beq:SV→SV→Bool
 |.cv a,.cv b=>CV.beq a b
 |.undef,.undef=>true
 |.alias r,.alias r'=>decide (r=r')
 |.imm xs,.imm ys=>au.beqL xs ys
 |.elt r i o,.elt r' i' o'=>decide (r=r')&&decide (i=i')&&decide (o=o')
 |.bld xs,.bld ys=>CV.beqL xs ys
 |.tup xs,.tup ys=>au.beqL xs ys
 |_,_=>false
theorem SV.beq_eq(a b:SV)(h:SV.beq a b=true):a=b:=by
 cases a <;> cases b <;> simp only[SV.beq,bA,decide_eq_true_eq,Bool.false_eq_true]at h
 ·rw[CV.beq_eq _ _ h]
 ·rfl
 ·rw[h]
 ·rw[au.beqL_eq _ _ h]
 ·rw[h.1.1,h.1.2,h.2]
 ·rw[CV.beqL_eq _ _ h]
 ·rw[au.beqL_eq _ _ h]
structure Ev where
 C:Ctx
 hand:FuncId→List SV→Option (List SV)
 plan:FuncId→Nat→Option (List Nat)
 fix:FuncId→Nat→St→List fb
 ext:FuncId→List au→TypeId→List au→Option (List au)
 isExt:FuncId→Bool
structure at9(E:Ev):Prop where
 hand:∀f a o h,E.hand f a=some o→E.C.hand f a h o h
 ext:∀g ds k zs ys,E.ext g ds k zs=some ys→E.C.ext g ds k zs=some ys
abbrev rT:=FuncId→List SV→bn→Option (List SV×bn)
def atK(E:Ev)(s:St)(dst:Option Nat)(g:FuncId):List Operand→Option St
 | []=>none
 |x::xs=>(rootOf s x).bind fun r=>(s.rowAt r).bind fun p=>(optVals s xs).bind fun ds=>
   if ds.all au.one then(E.ext g ds p.1 p.2).bind fun ys=>some ((s.eff (.setRow r p.1 ys)).put dst .undef)else none
def aqm(E:Ev)(call:rT)(s:St)(dst:Option Nat)(f:Operand)(args:List Operand):Option St:=
 (callee s f).bind fun c=>
  if E.isExt c.1&&c.2.1.isEmpty&&c.2.2.isEmpty then atK E s dst c.1 args else
  (iT E.C c.1 s c.2.1.length args).bind fun r=>
   (match E.hand c.1 (jI c.2.1++r.1++jI c.2.2)with
    |some out=>some (out,(s.effs r.2).box)
    |none=>call c.1 (jI c.2.1++r.1++jI c.2.2) (s.effs r.2).box).bind fun q=>
     (packed q.1).bind fun v=>some (St.put ⟨dy SV.uncell (s.effs r.2).slots,q.2⟩ dst v)
def avj(P:Program)(s:St)(o:Oper):Option St:=
 match o.op with
 |.binOp .eql t x (.const (.slice none 0 0)) _=>match P.underlying t,optVal s x with
  |some (.slice _),some (.sl (_::_))=>some (s.put o.dst (.cv (.val (.bool false))))
  |_,_=>none
 |_=>none
def aeX(E:Ev)(call:rT)(s:St)(o:Oper):Option St:=
 match o.op with
 |.call { callee:=.value f,args,.. }=>aqm E call s o.dst f args.toList
 |_=>match aop E.C.P s o with
  |some r=>some ((s.effs r.2).put o.dst r.1)
  |none=>avj E.C.P s o
def alb(E:Ev)(call:rT)(ops:Array Oper):List Oper→St→Option St
 | [],s=>some s
 |o::os,s=>match guardOf ops s o with
  |none=>none
  |some true=>(aeX E call s o).bind (alb E call ops os)
  |some false=>alb E call ops os (s.put o.dst .undef)
def yR(P:Program) (ops:Array Oper) (s:St) (i:Nat):Bool:=
 match ops[i]? with
 |none=>false
 |some o=>match o.dst with
  |none=>false
  |some d=>match guardOf ops s o with
   |none=>false
   |some true=>match aop P s o with
    |some (v,[])=>SV.beq v (s.get d)
    |_=>false
   |some false=>SV.beq (s.get d) .undef
def rJ(E:Ev) (call:rT) (ops:Array Oper) (tab:List (Nat×Nat)):List Nat→List Nat→St→Option St
 | [],pend,s=>if pend.all (yR E.C.P ops s)then some s else none
 |i::rest,pend,s=>match ops[i]? with
  |none=>none
  |some o=>match guardOf ops s o with
   |none=>none
   |some b=>
    match pass o with
    |true=>match b with
     |true=>match aop E.C.P s o with
      |some (v,[])=>rJ E call ops tab rest (i::pend) (s.put o.dst v)
      |_=>none
     |false=>rJ E call ops tab rest (i::pend) (s.put o.dst .undef)
    |false=>if pend.all (yR E.C.P ops s)then match b with
      |true=>(aeX E call s o).bind (rJ E call ops tab rest (pend.filter fun p=>!(ep tab i).testBit p))
      |false=>rJ E call ops tab rest (pend.filter fun p=>!(ep tab i).testBit p) (s.put o.dst .undef)
     else none
def xO(s:St):SV→Bool
 |.alias (.slot i)=>dX (s.get i)
 |.elt (.slot i) _ _=>dX (s.get i)
 |_=>true
def qX(s:St):List (Nat×SV)→Nat→List (Nat×SV)
 | [],_=>[]
 |(i,v)::l,seen=>if seen.testBit i then qX s l seen else if xO s v then(i,v)::qX s l (seen ||| (1 <<< i))else(i,.cv .dead)::qX s l (seen ||| (1 <<< i))
def trim(s:St):St:=⟨qX s s.slots 0,s.box⟩
def aei(body:St→Option (Ex×St)):Nat→St→Option (Ex×St)
 |0,_=>none
 |n+1,s=>match body (trim s)with
  |some (.normal,s')=>aei body n s'
  |r=>r
def aqp(s:St)(r:fb):St:=match s.rowAt r with
 |some (k,xs)=>s.eff (.fix r (.sl xs))
 |none=>s
def auG(s:St):List fb→St
 | []=>s
 |r::rs=>auG (aqp s r) rs
def amH(E:Ev)(f id:Nat)(ops:Array Oper):List Nat:=match E.plan f id with
 |some p=>p
 |none=>List.range ops.size
def gF(E:Ev)(call:rT)(f:FuncId)(n:Nat):Code→St→Option (Ex×St)
 |.skip,s=>some (.normal,s)
 |.region id ops false,s=>(alb E call ops ops.toList (auG s (E.fix f id s))).bind fun s'=>some (.normal,s')
 |.region id ops true,s=>if sV ops (amH E f id ops)then(rJ E call ops (dP ops (amH E f id ops) []) (amH E f id ops) [] (auG s (E.fix f id s))).bind fun s'=>some (.normal,s')else none
 |.seq a b,s=>match gF E call f n a s with
  |some (.normal,s')=>gF E call f n b s'
  |r=>r
 |.cond c a b,s=>match s.opv c with
  |.cv (.val (.bool true))=>gF E call f n a s
  |.cv (.val (.bool false))=>gF E call f n b s
  |_=>none
 |.block id c,s=>match gF E call f n c s with
  |some (.exit i,s')=>if i=id then some (.normal,s')else some (.exit i,s')
  |r=>r
 |.loop c,s=>aei (gF E call f n c) n s
 |.exit id,s=>some (.exit id,s)
 |.ret,s=>some (.ret,s)
 |_,_=>none
def akb(P:Program)(f:FuncId):Option (Func×Code):=
 match P.funcs[f]? with
 |none=>none
 |some fn=>match fn.body with
  |none=>none
  |some code=>if within fn.ntmps code&& !(fn.name== "runtime.NumGoroutine")then some (fn,code)else none
def xA(E:Ev) (n:Nat):Nat→rT
 |0,_,_,_=>none
 |k+1,f,args,h=>match akb E.C.P f with
  |none=>none
  |some (fn,code)=>if args.length≤fn.ntmps then match gF E (xA E n k) f n code ⟨entry 0 args,h⟩ with
    |some (.exit _,_)=>none
    |some (_,s)=>results E.C f s fn.results.toList
    |none=>none
   else none
section
variable{E:Ev}{call:rT}
def zj(E:Ev)(call:rT):Prop:=∀f a h o h',call f a h=some (o,h')→cq E.C f a h fun o1 h1=>o1=o∧h1=h'
theorem yz(hE:at9 E) (hc:zj E call) {s s':St} {o:Oper} (h:aeX E call s o=some s') {K:St→Prop} (hK:K s'):kQ E.C (cq E.C) s o K:=by
 unfold aeX at h
 unfold kQ
 split at h
 ·rename_i f args _ heq
  simp only[heq]
  unfold aqm at h
  simp only[Option.bind_eq_some_iff]at h
  obtain⟨⟨g,fs,cs⟩,hcal,h⟩:=h
  simp only at h
  split at h
  ·rename_i hx
   simp only[bA,List.isEmpty_iff]at hx
   obtain⟨⟨_,rfl⟩,rfl⟩:=hx
   left;right
   cases hargs:args.toList with
   |nil=>rw[hargs]at h;simp[atK]at h
   |cons x xs=>
    rw[hargs]at h
    simp only[atK,Option.bind_eq_some_iff]at h
    obtain⟨r,h1,p,h2,ds,h3,h⟩:=h
    split at h
    ·rename_i hall
     simp only[Option.bind_eq_some_iff,sJ]at h
     obtain⟨ys,h4,rfl⟩:=h
     exact⟨g,x,xs,r,p.1,p.2,ds,ys,hcal,rfl,h1,h2,h3,hall,hE.ext _ _ _ _ _ h4,hK⟩
    ·cases h
  ·right
   simp only[Option.bind_eq_some_iff,sJ]at h
   obtain⟨r,h1,⟨out,h'⟩,h2,v,h3,rfl⟩:=h
   refine⟨g,fs,cs,r.1,r.2,hcal,h1,fun _=>?_⟩
   cases hh:E.hand g (jI fs++r.1++jI cs)with
   |some out'=>
    rw[hh]at h2
    simp only[sJ,pJ]at h2
    obtain⟨rfl,rfl⟩:=h2
    exact cq.hand (hE.hand _ _ _ _ hh) ⟨v,h3,hK⟩
   |none=>
    rw[hh]at h2
    refine(hc _ _ _ _ _ h2).mono fun o1 h1 ⟨e1,e2⟩=>?_
    subst e1 e2
    exact⟨v,h3,hK⟩
 ·rename_i hne
  split
  ·rename_i f args _ heq
   exact absurd heq (hne _ _ _)
  ·split at h
   ·rename_i r hr
    obtain rfl:=sI h
    exact .inr ⟨r.1,r.2,hr,hK⟩
   ·left
    unfold avj at h
    split at h
    ·rename_i t x ty hop
     split at h
     ·rename_i e y ys hu hx
      obtain rfl:=sI h
      exact⟨t,x,ty,y::ys,e,hop,hu,hx,fun b hb=>by rw[hb (by simp)];exact hK⟩
     ·cases h
    ·cases h
theorem xk(hE:at9 E)(hc:zj E call){ops:Array Oper}:∀(l:List Oper) {s s':St},alb E call ops l s=some s'→∀{K:St→Prop},K s'→wpOps E.C (cq E.C) ops l K s
 | [],s,s',h,K,hK=>by obtain rfl:=sI h;exact hK
 |o::os,s,s',h,K,hK=>by
  simp only[alb]at h
  split at h
  ·cases h
  ·rename_i hg
   simp only[Option.bind_eq_some_iff]at h
   obtain⟨s1,h1,h2⟩:=h
   exact⟨true,hg,fun _=>yz hE hc h1 (xk hE hc os h2 hK),fun e=>by cases e⟩
  ·rename_i hg
   exact⟨false,hg,(fun e=>by cases e),fun _=>xk hE hc os h hK⟩
theorem akZ{P:Program}{ops:Array Oper}{s:St}{i:Nat}(h:yR P ops s i=true):qN P ops s i:=by
 unfold yR at h
 split at h
 ·cases h
 ·rename_i o ho
  split at h
  ·cases h
  ·rename_i d hd
   split at h
   ·cases h
   ·rename_i hg
    split at h
    ·rename_i v hv
     exact⟨o,d,ho,hd,true,hg,fun _=>by rw[hv,SV.beq_eq _ _ h],fun e=>by cases e⟩
    ·cases h
   ·rename_i hg
    exact⟨o,d,ho,hd,false,hg,(fun e=>by cases e),fun _=>SV.beq_eq _ _ h⟩
theorem xY{P:Program}{ops:Array Oper}{s:St}{pend:List Nat}(h:pend.all (yR P ops s)=true):∀p∈pend,qN P ops s p:=fun p hp=>akZ (List.all_eq_true.1 h p hp)
theorem nL(hE:at9 E) (hc:zj E call) {ops:Array Oper} {tab:List (Nat×Nat)}:∀(l:List Nat) {pend:List Nat} {s s':St},rJ E call ops tab l pend s=some s'→∀{K:St→Prop},K s'→di E.C (cq E.C) ops tab pend l K s
 | [],pend,s,s',h,K,hK=>by
  simp only[rJ]at h
  split at h
  ·rename_i ha
   obtain rfl:=sI h
   exact⟨xY ha,hK⟩
  ·cases h
 |i::rest,pend,s,s',h,K,hK=>by
  simp only[rJ]at h
  simp only[di]
  split at h
  ·cases h
  ·rename_i o ho
   refine⟨o,ho,?_⟩
   split at h
   ·cases h
   ·rename_i b hg
    cases hp:pass o with
    |true=>
     rw[hp]at h
     cases b with
     |true=>
      simp only at h
      split at h
      ·rename_i v hv
       exact⟨true,hg,fun _=>⟨v,hv,nL hE hc rest h hK⟩,fun e=>by cases e⟩
      ·cases h
     |false=>exact⟨false,hg,(fun e=>by cases e),fun _=>nL hE hc rest h hK⟩
    |false=>
     rw[hp]at h
     simp only at h
     split at h
     ·rename_i ha
      refine⟨xY ha,?_⟩
      cases b with
      |true=>
       simp only[Option.bind_eq_some_iff]at h
       obtain⟨s1,h1,h2⟩:=h
       exact⟨true,hg,fun _=>yz hE hc h1 (nL hE hc rest h2 hK),fun e=>by cases e⟩
      |false=>exact⟨false,hg,(fun e=>by cases e),fun _=>nL hE hc rest h hK⟩
     ·cases h
theorem ap9{seen i j:Nat}:(seen ||| (1 <<< i)).testBit j=(seen.testBit j||decide (i=j)):=by
 rw[Nat.testBit_or,Nat.one_shiftLeft]
 by_cases h:i=j
 ·subst h;simp[Nat.testBit_two_pow_self]
 ·rw[Nat.testBit_two_pow_of_ne h];simp[h]
theorem ae5{s:St}:∀(l:List (Nat×SV)) (seen:Nat),∀p∈qX s l seen,seen.testBit p.1=false∧(p.2= .cv .dead∨p.2=look l p.1∧xO s p.2=true)
 | [],_,p,hp=>by simp[qX]at hp
 |(i,v)::l,seen,p,hp=>by
  simp only[qX]at hp
  have tail:∀seen':Nat,p∈qX s l seen'→(seen'.testBit p.1=false→i≠p.1∧seen.testBit p.1=false)→seen.testBit p.1=false∧(p.2= .cv .dead∨p.2=look ((i,v)::l) p.1∧xO s p.2=true):=fun seen' hm hi=>by
   obtain⟨h1,h2⟩:=ae5 l seen' p hm
   obtain⟨h3,h4⟩:=hi h1
   refine⟨h4,h2.imp id fun h=>⟨?_,h.2⟩⟩
   simp only[look]
   rw[if_neg h3];exact h.1
  have cons:∀h:(seen ||| (1 <<< i)).testBit p.1=false,i≠p.1∧seen.testBit p.1=false:=fun h=>by
   rw[ap9,Bool.or_eq_false_iff]at h
   exact⟨by simpa using h.2,h.1⟩
  split at hp
  ·rename_i hs
   refine tail seen hp fun h=>⟨fun e=>?_,h⟩
   rw[← e,hs]at h;cases h
  ·rename_i hs
   split at hp
   ·rename_i hr
    rcases List.mem_cons.1 hp with rfl|hp
    ·exact⟨by simpa using hs,.inr ⟨by simp[look],hr⟩⟩
    ·exact tail _ hp cons
   ·rcases List.mem_cons.1 hp with rfl|hp
    ·exact⟨by simpa using hs,.inl rfl⟩
    ·exact tail _ hp cons
theorem ag0{s:St}{v:SV}(h:dX v=true):xO s v=true:=by
 cases v with
 |cv c=>rfl
 |alias r=>cases h
 |elt r i o=>cases h
 |_=>rfl
theorem sw{s:St}{j:Nat}:∀(l:List (Nat×SV)) (seen:Nat),dX (look l j)=true→seen.testBit j=false→look (qX s l seen) j=look l j
 | [],_,h,_=>by simp[look,dX]at h
 |(i,v)::l,seen,h,hs=>by
  simp only[look]at h ⊢
  simp only[qX]
  by_cases e:i=j
  ·subst e
   rw[if_pos rfl]at h ⊢
   rw[hs,if_neg (by simp),if_pos (ag0 h)]
   simp[look]
  ·rw[if_neg e]at h ⊢
   split
   ·exact sw l seen h hs
   ·have hs2:(seen ||| (1 <<< i)).testBit j=false:=by rw[ap9,hs];simp[e]
    split
    ·simp only[look];rw[if_neg e];exact sw l _ h hs2
    ·simp only[look];rw[if_neg e];exact sw l _ h hs2
theorem al0{m:Nat}(s:St):St.To m s (trim s):=by
 refine St.To.weak s (trim s) (qX s s.slots 0) (fun p hp=>?_) (.refl _)
 obtain⟨_,h⟩:=ae5 s.slots 0 p hp
 rcases h with h|⟨h,hr⟩
 ·rw[h]
  exact⟨by cases s.get p.1 <;> simp[SV.fits],by trivial⟩
 ·refine⟨?_,?_⟩
  ·have e:s.get p.1=p.2:=h.symm
   rw[e];exact yt _
  ·have hrow:∀i,dX (s.get i)=true→dX (St.get ⟨qX s s.slots 0,s.box⟩ i)=true:=fun i hi=>by
    show dX (look (qX s s.slots 0) i)=true
    rw[sw s.slots 0 hi (by simp)];exact hi
   generalize p.2=v at hr
   cases v with
   |alias r=>cases r with
    |slot i=>exact hrow i hr
    |cell l i=>trivial
   |elt r i o=>cases r with
    |slot i=>exact hrow i hr
    |cell l i=>trivial
   |_=>trivial
theorem xo{m:Nat}:∀(rs:List fb) (s:St),St.To m s (auG s rs)
 | [],s=>.refl s
 |r::rs,s=>by
  simp only[auG,aqp]
  split
  ·rename_i k xs h
   exact .fix s _ r k xs h (xo rs _)
  ·exact xo rs s
theorem yr{m:Nat}{c:Code}{b:St→Option (Ex×St)}(hb:∀s ex s',b s=some (ex,s')→∀Q:Ex→St→Prop,Q ex s'→aO E.C (cq E.C) m c Q s):∀(n:Nat) (s:St) (ex:Ex) (s':St),aei b n s=some (ex,s')→∀Q:Ex→St→Prop,Q ex s'→mZ m (aO E.C (cq E.C) m c) Q s
 |0,s,ex,s',h,Q,hQ=>by cases h
 |n+1,s,ex,s',h,Q,hQ=>by
  simp only[aei]at h
  split at h
  ·rename_i s1 h1
   exact mZ.step (trim s) (al0 s) (hb _ _ _ h1 _ (yr hb n s1 ex s' h Q hQ))
  ·rename_i hne
   refine mZ.step (trim s) (al0 s) (hb _ _ _ h _ ?_)
   cases ex with
   |normal=>exact absurd h (hne s')
   |exit i=>exact hQ
   |ret=>exact hQ
theorem iO(hE:at9 E)(hc:zj E call){f n m:Nat}:∀(c:Code) (s:St) (ex:Ex) (s':St),gF E call f n c s=some (ex,s')→∀Q:Ex→St→Prop,Q ex s'→aO E.C (cq E.C) m c Q s
 |.skip,s,ex,s',h,Q,hQ=>by
  simp only[gF,sJ,pJ]at h
  obtain⟨rfl,rfl⟩:=h;exact hQ
 |.region id ops false,s,ex,s',h,Q,hQ=>by
  simp only[gF,Option.bind_eq_some_iff,sJ,pJ]at h
  obtain⟨s1,h1,rfl,rfl⟩:=h
  exact⟨_,xo _ s,xk hE hc _ h1 hQ⟩
 |.region id ops true,s,ex,s',h,Q,hQ=>by
  simp only[gF]at h
  split at h
  ·rename_i hp
   simp only[Option.bind_eq_some_iff,sJ,pJ]at h
   obtain⟨s1,h1,rfl,rfl⟩:=h
   exact⟨_,_,xo _ s,.inl ⟨hp,nL hE hc _ h1 hQ⟩⟩
  ·cases h
 |.seq a b,s,ex,s',h,Q,hQ=>by
  simp only[gF]at h
  split at h
  ·rename_i s1 h1
   exact iO hE hc a s _ _ h1 _ ⟨s1,.refl s1,iO hE hc b s1 ex s' h Q hQ⟩
  ·rename_i hne
   refine iO hE hc a s ex s' h _ ?_
   cases ex with
   |normal=>exact absurd h (hne s')
   |exit i=>exact hQ
   |ret=>exact hQ
 |.cond c a b,s,ex,s',h,Q,hQ=>by
  simp only[gF]at h
  split at h
  ·rename_i ho
   exact⟨true,ho,fun _=>iO hE hc a s ex s' h Q hQ,fun e=>by cases e⟩
  ·rename_i ho
   exact⟨false,ho,(fun e=>by cases e),fun _=>iO hE hc b s ex s' h Q hQ⟩
  ·cases h
 |.block id c,s,ex,s',h,Q,hQ=>by
  simp only[gF]at h
  split at h
  ·rename_i i s1 h1
   refine iO hE hc c s _ _ h1 _ ?_
   simp only[Ex.inBlock]
   split at h
   ·rename_i hi
    simp only[sJ,pJ]at h
    obtain⟨rfl,rfl⟩:=h
    rw[if_pos hi];exact hQ
   ·rename_i hi
    simp only[sJ,pJ]at h
    obtain⟨rfl,rfl⟩:=h
    rw[if_neg hi];exact hQ
  ·rename_i hne
   refine iO hE hc c s ex s' h _ ?_
   cases ex with
   |exit i=>exact absurd h (hne i s')
   |normal=>exact hQ
   |ret=>exact hQ
 |.loop c,s,ex,s',h,Q,hQ=>by
  simp only[gF]at h
  exact yr (fun s ex s' h Q hQ=>iO hE hc c s ex s' h Q hQ) n s ex s' h Q hQ
 |.exit id,s,ex,s',h,Q,hQ=>by
  simp only[gF,sJ,pJ]at h
  obtain⟨rfl,rfl⟩:=h;exact hQ
 |.ret,s,ex,s',h,Q,hQ=>by
  simp only[gF,sJ,pJ]at h
  obtain⟨rfl,rfl⟩:=h;exact hQ
 |.scope ..,s,ex,s',h,Q,hQ=>by simp[gF]at h
 |.label ..,s,ex,s',h,Q,hQ=>by simp[gF]at h
 |.goto ..,s,ex,s',h,Q,hQ=>by simp[gF]at h
 |.refuse ..,s,ex,s',h,Q,hQ=>by simp[gF]at h
 |.rangeFunc ..,s,ex,s',h,Q,hQ=>by simp[gF]at h
theorem alp{P:Program}{f:FuncId}{fn:Func}{code:Code}(h:akb P f=some (fn,code)):P.funcs[f]? =some fn∧fn.body=some code∧within fn.ntmps code=true∧(fn.name== "runtime.NumGoroutine")=false:=by
 unfold akb at h
 split at h
 ·cases h
 ·rename_i fn' h1
  split at h
  ·cases h
  ·rename_i code' h2
   split at h
   ·rename_i h3
    simp only[sJ,pJ]at h
    obtain⟨rfl,rfl⟩:=h
    rw[bA,Bool.not_eq_true']at h3
    exact⟨h1,h2,h3.1,h3.2⟩
   ·cases h
theorem aeA(hE:at9 E){n:Nat}:∀k,zj E (xA E n k)
 |0=>fun f a h o h' he=>by cases he
 |k+1=>fun f a h o h' he=>by
  simp only[xA]at he
  split at he
  ·cases he
  ·rename_i fn code hco
   obtain⟨h1,h2,h3,h4⟩:=alp hco
   split at he
   ·rename_i hlen
    refine cq.intro fn code h1 h2 hlen h3 h4 fun _ _=>?_
    split at he
    ·cases he
    ·rename_i ex s hne hev
     refine iO hE (aeA hE k) code _ ex s hev _ ?_
     cases ex with
     |exit i=>exact absurd rfl (hne i)
     |normal=>exact⟨s,.refl s,o,h',he,h',.inl rfl,rfl,rfl⟩
     |ret=>exact⟨s,.refl s,o,h',he,h',.inl rfl,rfl,rfl⟩
    ·cases he
   ·cases he
end
def Gh.none(G:Gh):Gh:=⟨G.P,fun b=>match G.g b with|.imm=>.imm|_=>.other,G.ι,0⟩
theorem aeB(G:Gh)(b:Nat):(G.none.g b= .imm∧G.g b= .imm)∨G.none.g b= .other:=by
 simp only[Gh.none]
 cases h:G.g b <;> simp
theorem vc{n:Nat}:∀{xs ys:List au},cc n xs→cc n ys→cc n (xs++ys)
 | [],_,_,h=>h
 |x::xs,_,h1,h2=>⟨h1.1,vc h1.2 h2⟩
theorem zb{n:Nat}{d:au}(h:d.under n):cc n d.cells:=by
 cases d <;> first|exact h|exact⟨h,trivial⟩
theorem xU{n:Nat}:∀{xs:List au},cc n xs→cc n (bx xs)
 | [],_=>trivial
 |x::xs,h=>by
  show cc n (x.cells++bx xs)
  exact vc (zb h.1) (xU h.2)
structure Flat(w:World)(G:Gh)(w':World)(G':Gh):Prop where
 g:∀b,G.g b= .imm→b < w.heap.size→G'.g b= .imm∧w'.heap[b]? =w.heap[b]?
 size:w.heap.size≤w'.heap.size
mutual
theorem cU.flat{w w':World}{G G':Gh}(M:Flat w G w' G'):∀{d:au} {v:Value},cU w G d v→d.under 0→cU w' G' d v
 |_,_,.int k n,_=>.int k n
 |_,_,.bool b,_=>.bool b
 |_,_,.str s,_=>.str s
 |_,_,.agg cs vs h,hu=>.agg cs vs (cn.flat M h hu)
 |_,_,.nilptr,_=>.nilptr
 |_,_,.ptr l off h,hu=>absurd hu (Nat.not_lt_zero _)
 |_,_,.nilmap,_=>.nilmap
 |_,_,.map l h,hu=>absurd hu (Nat.not_lt_zero _)
 |_,_,.nilfn,_=>.nilfn
 |_,_,.fn f as bs us vs h1 h2,hu=>.fn f as bs us vs (cn.flat M h1 hu.1) (cn.flat M h2 hu.2)
 |_,_,.nilsl a cap,_=>.nilsl a cap
 |_,_,.sl xs ad cap k vs hne hcap hg hb hs hk hr hc,hu=>.sl xs ad cap k vs hne hcap (M.g _ hg hb).1 (Nat.lt_of_lt_of_le hb M.size) hs hk (cn.flat M hr (xU hu)) (hc.mono fun h=>(M.g _ hg h).2)
theorem cn.flat{w w':World}{G G':Gh}(M:Flat w G w' G'):∀{ds:List au} {vs:List Value},cn w G ds vs→cc 0 ds→cn w' G' ds vs
 |_,_,.nil,_=>.nil
 |_,_,.cons d v ds vs h1 h2 h3,hu=>.cons d v ds vs h1 (cU.flat M h2 hu.1) (cn.flat M h3 hu.2)
end
def xt:SV→Prop
 |.cv (.val d)=>d.under 0
 |_=>False
theorem dD.flat{w w':World}{G G':Gh}(M:Flat w G w' G'):∀{os:List SV} {vs:List Value},dD w G os vs→(∀o∈os,xt o)→dD w' G' os vs
 |_,_,.nil,_=>.nil
 |_,_,.cons c v os vs h1 h2,hu=>by
  have hc:=hu (.cv c) (by simp)
  refine .cons c v os vs ?_ (dD.flat M h2 (fun o ho=>hu o (List.mem_cons_of_mem _ ho)))
  cases c with
  |val d=>exact cU.flat M h1 hc
  |nil=>exact hc.elim
  |row k xs=>exact hc.elim
  |dead=>exact hc.elim
theorem dq.flat{w w':World}{G G':Gh}(M:Flat w G w' G'){t:Nat→Tag}:∀{i:Nat} {as:List SV} {vs:List Value},dq w G t i as vs→(∀o∈as,xt o)→dq w' G' t i as vs
 |_,_,_,.nil i,_=>.nil i
 |_,_,_,.cons i c v as vs h1 h2,hu=>by
  have hc:=hu (.cv c) (by simp)
  refine .cons i c v as vs ?_ (dq.flat M h2 (fun o ho=>hu o (List.mem_cons_of_mem _ ho)))
  cases c with
  |val d=>exact cU.flat M h1 hc
  |nil=>exact hc.elim
  |row k xs=>exact hc.elim
  |dead=>exact hc.elim
theorem yp{P:Program}{f:FuncId}{args out:List SV}{Q:List SV→bn→Prop}(h0:fk P f args ⟨0,fun _=>.none⟩ Q)(hQ:∀o h,Q o h→o=out)(ha:∀o∈args,xt o)(ho:∀o∈out,xt o)(h:bn):fk P f args h fun o h'=>o=out∧h'=h:=by
 obtain⟨hent,hrun⟩:=h0
 refine⟨hent,fun w G vs hP hargs hh hf=>?_⟩
 have F0:Flat w G w G.none:=⟨fun b hb _=>⟨by simp only[Gh.none,hb],rfl⟩,nR _⟩
 refine(hrun w G.none vs hP (dq.flat F0 hargs ha) ⟨rfl,fun l o e=>by cases e⟩ (fun b hb=>by simp only[Gh.none,hf b hb])).mono fun e w' ⟨us,o,h1,G1,he,hq,hro,hrh,hfr,hk⟩=>?_
 obtain rfl:=hQ _ _ hq
 have hheap:∀b,b < w.heap.size→w'.heap[b]? =w.heap[b]? :=fun b hb=>by
  rcases aeB G b with⟨e,_⟩|e
  ·exact(hk.imm b e hb).2
  ·exact(hk.other b e hb).2
 have hgr:jb w G w' ⟨G.P,fun b=>if b < w.heap.size then G.g b else match G1.g b with|.imm=>.imm|_=>.other,G.ι,G.n⟩:={
  os:=hk.os
  tape:=hk.tape
  output:=hk.output
  size:=hk.size
  heap:=hheap
  g:=fun b hb=>by simp only;rw[if_pos hb]
  fresh:=fun b hb=>by
   simp only
   rw[if_neg (by have:=hk.size;omega),hfr b hb]
  n:=nR _
  ι:=fun _ _=>rfl
  P:=rfl }
 have F1:Flat w' G1 w' ⟨G.P,fun b=>if b < w.heap.size then G.g b else match G1.g b with|.imm=>.imm|_=>.other,G.ι,G.n⟩:=⟨fun b hb hl=>⟨by
  simp only
  by_cases hlt:b < w.heap.size
  ·rw[if_pos hlt]
   rcases aeB G b with⟨_,e⟩|e
   ·exact e
   ·have:=(hk.other b e hlt).1
    rw[hb]at this;cases this
  ·rw[if_neg hlt,hb],rfl⟩,nR _⟩
 exact⟨us,_,h,_,he,⟨rfl,rfl⟩,dD.flat F1 hro ho,hgr.heapH rfl hh,hgr.fresh,hgr.kept⟩
variable{C:Ctx}{s:St}
theorem aoz{h:bn}{la lb:Nat}{o o':dB}(hn:la≠lb)(ha:h.at_ lb=some o):(h.upd la o').upd lb o=h.upd la o':=by rw[← pB hn,fh ha]
theorem aaK{h:bn}{l:Nat}{o:dB}(hl:l < h.n)(ha:h.at_ l=some o):(∀os o',(h.on os).upd l o'=(h.upd l o').on os)∧(∀os l' o',((h.upd l' o').on os).at_ l=(h.upd l' o').at_ l)∧(∀os l' o o',((h.upd l' o').on os).upd l o=((h.upd l' o').upd l o).on os)∧h.upd l o=h∧
  (∀os l' l2 o o2,(((h.upd l' o).upd l2 o2).on os).at_ l=((h.upd l' o).upd l2 o2).at_ l)∧∀os l' l2 o o' o2,(((h.upd l' o').upd l2 o2).on os).upd l o=(((h.upd l' o').upd l2 o2).upd l o).on os:=
 ⟨fun _ _=>fT hl,fun _ _ _=>jJ hl,fun _ _ _ _=>gI hl,fh ha,fun _ _ _ _ _=>oZ hl,fun _ _ _ _ _ _=>mS hl⟩
theorem aiC{la lb:Nat}(hn:la≠lb):(∀(h:bn) (o:dB),(h.upd lb o).at_ la=h.at_ la)∧(∀(h:bn) (o:dB),(h.upd la o).at_ lb=h.at_ lb)∧∀(h:bn) (o o':dB),(h.upd lb o).upd la o'=(h.upd la o').upd lb o:=
 ⟨fun _ _=>ry hn,fun _ _=>ry (Ne.symm hn),fun _ _ _=>pB hn⟩
theorem av9{h:bn}{la lb:Nat}{o:dB}(hn:la≠lb)(ha:h.at_ lb=some o):∀o',(h.upd la o').upd lb o=h.upd la o':=fun _=>aoz hn ha
theorem qv{a b:Nat}(h:a≠b:=by first|omega|assumption|exact Ne.symm (by assumption)):a≠b:=h
theorem ft{h:bn}{l:Nat}{o:dB}(hwf:h.WF)(hl:l < h.n)(ho:o.under h.n:=by exact cN):(h.upd l o).WF:=WF.upd hwf hl ho
section
variable{R:dm}{ops:Array Oper}{tab:List (Nat×Nat)}{K:St→Prop}{pend rest:List Nat}{s':St}{i:Nat}
theorem dt(pend':List Nat)(hk:di C R ops tab pend' rest K s')(hp:ops[i]?.map pass=some false:=by rfl)(hh:ot C.P ops s pend:=by exact cN)(h:alN C.P ops s ops[i]? =some s':=by exact kB)(hf:(pend.filter fun p=>!(ep tab i).testBit p)=pend':=by rfl):di C R ops tab pend (i::rest) K s:=avR hp hh h hf hk
theorem bU(l pend':List Nat)(hk:di C R ops tab pend' rest K s')(h:mU C.P ops l s=some s':=by exact kB)(hp:l.reverse++pend=pend':=by rfl):di C R ops tab pend (l++rest) K s:=anG h hp hk
theorem df(hk:K s)(hh:ot C.P ops s pend:=by exact cN):di C R ops tab pend [] K s:=apa hh hk
theorem dO(pend':List Nat){dst:Option Tmp}{ty:TypeId}{pos:String}{after:Array Edge}{f:Operand}{args:Array Operand}{ts:Array TypeId}{gd:Option (Nat×Bool)}
  {g:FuncId} {fs cs:List au} {as:List SV} {es:List Eff} {s1:St} {out:List SV} {hp:bn}
  (h4:cq C g (jI fs++as++jI cs) s1.box fun o h'=>o=out∧h'=hp) (h5:(packed out).isSome=true) (hk:di C (cq C) ops tab pend' rest K (St.put ⟨dy SV.uncell s1.slots,hp⟩ dst ((packed out).getD .undef)))
  (ho:ops[i]? =some ⟨dst,.call ⟨.value f,args,ts⟩,ty,pos,after,gd⟩:=by rfl) (hh:ot C.P ops s pend:=by exact ayk) (h0:guardOf ops s ⟨dst,.call ⟨.value f,args,ts⟩,ty,pos,after,gd⟩=some true:=by first|rfl|(simp (disch:=(apply dd.mk;decide)) only[go_sem,Nat.reduceAdd,Nat.reduceLT,Nat.reduceMul,Nat.reduceLeDiff,Int.reduceToNat,Int.reduceLT,Int.reduceLE,gS, *]))
  (h1:callee s f=some (g,fs,cs):=by exact at4) (h2:iT C g s fs.length args.toList=some (as,es):=by exact at4) (h3:s.effs es=s1:=by exact at4) (hf:(pend.filter fun p=>!(ep tab i).testBit p)=pend':=by rfl):
  di C (cq C) ops tab pend (i::rest) K s:=av5 ho hh h0 h1 h2 h3 hf h4 h5 hk
end
def ax4(l:Nat)(kt:TypeId)(k z:au):Option (List (au×au))→Option Out
 |some en=>some (.tup [(fy k en).getD z,.int .i64 (tn k en)],[.setMap l kt (qI k ((fy k en).getD z) en)])
 |none=>none
def meD(s:St)(kt:TypeId)(k z:au):au→Option Out
 |.map (some l)=>ax4 l kt k z (mapAt s kt (.map (some l)))
 |_=>none
def meK(P:Program)(s:St)(kt:TypeId):Option au→Option au→Option TypeDesc→Option au→Option Out
 |some d,some k,some td,some z=>if isKey P kt td k=true then meD s kt k z d else none
 |_,_,_,_=>none
def awX(P:Program)(s:St)(x k:Operand):Option TypeDesc→Option Out
 |some (.map kt e)=>meK P s kt (optVal s x) (optVal s k) (P.underlying kt) (lq P e)
 |_=>none
def axz(l:Nat)(v:au)(es:List Eff)(n:Int):Option dB→Option Out
 |some (.map kt en)=>if n.toNat < en.length∧0≤n then some (.undef,es++[.setMap l kt (en.set n.toNat ((en.getD n.toNat default).1,v))])else none
 |_=>none
def esD(s:St):Option au→Option (IntKind×Int)→Option (au×List Eff)→Option Out
 |some (.map (some l)),some (_,n),some (v,es)=>axz l v es n (s.box.at_ l)
 |_,_,_=>none
section
variable{P:Program}{s:St}
theorem xH{t:TypeId}{x y:Operand}:mapEntryOp P s t x y=awX P s x y (P.underlying t):=by
 unfold mapEntryOp
 cases P.underlying t with
 |none=>rfl
 |some td=>
  cases td
  case map kt e=>
   simp only[awX]
   cases optVal s x with
   |none=>rfl
   |some d=>
    cases optVal s y with
    |none=>rfl
    |some k=>
     cases P.underlying kt with
     |none=>rfl
     |some td=>
      cases lq P e with
      |none=>rfl
      |some z=>
       simp only[oB,meK]
       split
       ·cases d with
        |map r=>
         cases r with
         |none=>rfl
         |some l=>simp only[meD];cases mapAt s kt (.map (some l)) <;> rfl
        |_=>rfl
       ·rfl
  all_goals rfl
theorem ub{x n y:Operand}:entryStoreOp P s x n y=esD s (optVal s x) (s.asInt n) (s.asVal y):=by
 unfold entryStoreOp
 cases optVal s x with
 |none=>rfl
 |some d=>
  cases s.asInt n with
  |none=>cases d <;> first|rfl|(rename_i r;cases r <;> rfl)
  |some m=>
   cases s.asVal y with
   |none=>cases d <;> first|rfl|(rename_i r;cases r <;> rfl)
   |some v=>
    cases d with
    |map r=>
     cases r with
     |none=>rfl
     |some l=>
      simp only[oB,esD]
      cases s.box.at_ l with
      |none=>rfl
      |some o=>cases o <;> rfl
    |_=>rfl
end
section
variable{P:Program}{s:St}{dst:Option Tmp}{ty:TypeId}{pos:String}{after:Array Edge}{g:Option (Nat×Bool)}
theorem afo{t:TypeId}{x k:Operand}:aop P s ⟨dst,.mapEntry t x k,ty,pos,after,g⟩=awX P s x k (P.underlying t):=xH
theorem yb{t:TypeId}{x n v:Operand}:aop P s ⟨dst,.entryStore t x n v,ty,pos,after,g⟩=esD s (optVal s x) (s.asInt n) (s.asVal v):=ub (P:=P)
end
def amQ{K V:Type}[DecidableEq K](k:K):List (K×V)→Nat
 | []=>0
 |(k',_)::es=>if k=k' then 0 else amQ k es+1
theorem ak7{V:Type}{d:V→au}{k:Int}:∀{es:List (Int×V)},tn (.int .i64 k) (gy eI d es)=amQ k es
 | []=>rfl
 |(k',v)::es=>by
  have ih:=ak7 (d:=d) (k:=k) (es:=es)
  show(if ja (.int .i64 k) (eI k')=true then 0 else tn (.int .i64 k) (gy eI d es)+1)=_
  rw[ih]
  simp[amQ,ja,eI]
theorem aaE{k v w:Int}:∀{es:List (Int×Int)},∃e,(gy eI eI (kF k w es))[amQ k es]? =some e∧(gy eI eI (kF k w es)).set (amQ k es) (e.1,.int .i64 v)=gy eI eI (kF k v es)
 | []=>⟨(.int .i64 k,.int .i64 w),rfl,rfl⟩
 |(k',u)::es=>by
  by_cases h:k=k'
  ·subst h
   exact⟨(.int .i64 k,.int .i64 w),by simp[kF,amQ,gy,eI],by simp[kF,amQ,gy,eI]⟩
  ·obtain⟨e,h1,h2⟩:=aaE (k:=k) (v:=v) (w:=w) (es:=es)
   refine⟨e,?_,?_⟩
   ·simp only[kF,amQ,if_neg h,gy,List.map_cons,List.getElem?_cons_succ];exact h1
   ·simp only[kF,amQ,if_neg h,gy,List.map_cons,List.set_cons_succ];exact congrArg _ h2
theorem axA{l:Nat}{kt:TypeId}{k v w:Int}{es:List (Int×Int)}{e0:List Eff}:axz l (.int .i64 v) e0 ((amQ k es:Nat):Int) (some (.map kt (gy eI eI (kF k w es))))=some (.undef,e0++[.setMap l kt (gy eI eI (kF k v es))]):=by
 obtain⟨e,h1,h2⟩:=aaE (k:=k) (v:=v) (w:=w) (es:=es)
 simp only[axz,Int.toNat_natCast]
 rw[if_pos ⟨(List.getElem?_eq_some_iff.1 h1).1,by omega⟩,gD,h1,gS,h2]
attribute [go_sem] decide_false afo yb awX.eq_1 meK.eq_1 meD.eq_1 ax4.eq_1 esD.eq_1 ak7 axA
theorem aqa{C:Ctx}{s:St}{ops:Array Oper}{tab:List (Nat×Nat)}{K:St→Prop}{pend rest pend':List Nat}{i:Nat}{dst:Option Tmp}{ty:TypeId}{pos:String}{after:Array Edge}{f:Operand}{args:Array Operand}{ts:Array TypeId}{gd:Option (Nat×Bool)}
  {g:FuncId} {fs cs ds:List au} {out:List SV} (ho:ops[i]? =some ⟨dst,.call ⟨.value f,args,ts⟩,ty,pos,after,gd⟩) (hh:ot C.P ops s pend) (h0:guardOf ops s ⟨dst,.call ⟨.value f,args,ts⟩,ty,pos,after,gd⟩=some true)
  (h1:callee s f=some (g,fs,cs)) (h2:nh s args.toList=some ds) (hf:(pend.filter fun p=>!(ep tab i).testBit p)=pend') (hb:args.toList.all (tx s)=true)
  (h4:cq C g (jI fs++jI ds++jI cs) s.box.shut fun o h'=>o=out∧h'=s.box.shut) (h5:(packed out).isSome=true) (hk:di C (cq C) ops tab pend' rest K (s.put dst ((packed out).getD .undef))):
  di C (cq C) ops tab pend (i::rest) K s:=by
 subst hf
 simp only[di]
 refine⟨_,ho,?_⟩
 simp only[pass]
 refine⟨lB hh,true,h0,fun _=>.inl (.inl (.inl ⟨g,fs,cs,ds,false,h1,h2,fun _=>hb,h4.mono fun o h' ⟨e1,e2⟩=>?_⟩)),fun e=>by cases e⟩
 subst e1
 cases hpk:packed o with
 |none=>rw[hpk]at h5;cases h5
 |some v=>exact⟨v,rfl,⟨(fun e=>by cases e),fun _=>e2⟩,by rw[hpk]at hk;exact hk⟩
def avE:SV→Bool
 |.cv (.val _)=>true
 |.cv .nil=>true
 |_=>false
theorem aiQ{s:St}{x:Operand}:tx s x=avE (s.opv x):=by
 unfold tx
 cases s.opv x with
 |cv c=>cases c <;> rfl
 |_=>rfl
theorem aiL{d:au}:avE (.cv (.val d))=true:=rfl
attribute [go_sem] aiQ aiL
theorem al8{n a b i j:Nat}(h:dd a b):fb.cell (n+b) j≠fb.cell (n+a) i:=by
 intro e
 simp only[fb.cell.injEq]at e
 exact h.ne (by omega)
theorem arp{n a b i j:Nat}(h:dd a b):SV.unal (.cell (n+a) i) (.alias (.cell (n+b) j))= .alias (.cell (n+b) j):=by
 simp only[SV.unal,SV.drop];rw[if_neg (fun e=>al8 (n:=n) (i:=i) (j:=j) h (by simpa using e))]
theorem apo{n a b i j x y:Nat}(h:dd a b):SV.unal (.cell (n+a) i) (.elt (.cell (n+b) j) x y)= .elt (.cell (n+b) j) x y:=by
 simp only[SV.unal,SV.drop];rw[if_neg (fun e=>al8 (n:=n) (i:=i) (j:=j) h (by simpa using e))]
attribute [go_sem] arp apo
theorem as7{h:bn}{a b c d e f g i j:Option dB}{os:List (Option dB)}{o:dB}:(h.on (a::b::c::d::e::f::g::i::j::os)).upd (h.n+8) o=h.on (a::b::c::d::e::f::g::i::some o::os):=pt (by simp)
attribute [go_sem] as7
theorem av4{h:bn}{a b c d e f g i j k l:Option dB}:(h.on [a,b,c,d,e,f,g,i,j,k,l]).n=h.n+11:=rfl
attribute [go_sem] av4
theorem anb{α:Type}{x:α}{a b:List α}:List.append (x::a) b=x::List.append a b:=rfl
theorem arS{α:Type}{b:List α}:List.append [] b=b:=rfl
attribute [go_sem] anb arS
theorem auU{h:bn}{a0 a1 a2 a3 a4 a5 a6 a7 a8 a9 a10 a11 a12 a13 a14 a15:Option dB}:(h.on [a0,a1,a2,a3,a4,a5,a6,a7,a8,a9,a10,a11,a12,a13,a14,a15]).n=h.n+16:=rfl
attribute [go_sem] auU
theorem rq{C:Ctx}{m:Nat}{Q:Ex→St→Prop}{s:St}{c:Code}(h:aO C (cq C) m c (Ex.then (aO C (cq C) m (.loop c) Q) Q) s):aO C (cq C) m (.loop c) Q s:=mZ.step s (.refl s) h
section
variable{C:Ctx}{R:dm}{m:Nat}{Q:Ex→St→Prop}{s:St}
theorem A_s{id:Nat}{ops:Array Oper}{l:List Oper}{s':St}{b:Code}(hk:aO C R m b Q s')(hl:ops.toList=l:=by rfl)(h:gX C.P ops l s=some s':=by exact kB):aO C R m (.seq (.region id ops false) b) Q s:=al (kM hl h (w_n hk))
end
theorem bg{C:Ctx}{f:FuncId}{args:List SV}{h:bn}{Q:List SV→bn→Prop}{fn:Func}{code:Code}(hf:C.P.funcs[f]? =some fn)
  (hw:h.WF→(∀v∈args,v.under h.n)→aO C (cq C) h.n code (atEnd C h.n f fn Q) ⟨entry 0 args,h.on []⟩) (hb:fn.body=some code:=by rfl) (hl:Nat.ble args.length fn.ntmps=true:=by rfl) (hin:within fn.ntmps code=true:=by rfl) (hname:(fn.name== "runtime.NumGoroutine")=false:=by rfl):cq C f args h Q:=
 cq.start fn code hf hb (Nat.le_of_ble_eq_true hl) hin hname hw
theorem Holds.one{α:Type}{x:Option α}{a:α}(e:x=some a):∃D:α→Prop,(∀z,D z→z=a)∧Holds x D:=⟨fun z=>z=a,fun _ h=>h,Holds.intro e rfl⟩
abbrev wI(n:Int):CV:=.val (.int .i64 n)
abbrev wP(l:Nat):CV:=.val (.ptr (some (l,0)))
abbrev wL{α:Type}(e:α→au)(l:List α):CV:=.val (.sl (List.map e l))
abbrev vI(n:Int):SV:=.cv (.val (.int .i64 n))
abbrev vP(l:Nat):SV:=.cv (.val (.ptr (some (l,0))))
abbrev vL{α:Type}(e:α→au)(l:List α):SV:=.cv (.val (.sl (List.map e l)))
abbrev vB(b:Bool):SV:=.cv (.val (.bool b))
abbrev rI(l:List Int):SV:=.cv (.row 3 (List.map eI l))
section
variable{C:Ctx}{R:dm}{m:Nat}{Q:Ex→St→Prop}{s:St}
theorem A_n{id:Nat}{ops:Array Oper}{l:List Oper}{s':St}{K:St→Prop}(hk:K s')(hl:ops.toList=l:=by rfl)(h:gX C.P ops l s=some s':=by exact kB):aO C R m (.region id ops false) (Ex.then (fun s=>∃s1,St.To m s s1∧K s1) Q) s:=kM hl h (w_n hk)
theorem fj{ops:Array Oper}{K:St→Prop}{l:List Oper}{s':St}(hk:K s')(h:gX C.P ops l s=some s':=by exact kB):wpOps C R ops l (Ex.then (fun s=>∃s1,St.To m s s1∧K s1) Q .normal) s:=aaa h (w_n hk)
theorem fD(k:Nat){id:Nat}{ops:Array Oper}{l:List Oper}{s':St}{o:Oper}{os:List Oper}{b:Code}(hk:wpOps C R ops (o::os) (Ex.then (fun s=>∃s1,St.To m s s1∧aO C R m b Q s1) Q .normal) s')(hl:ops.toList=l:=by rfl)(hd:l.drop k=o::os:=by rfl)(h:gX C.P ops (l.take k) s=some s':=by exact kB):aO C R m (.seq (.region id ops false) b) Q s:=al (auc hl (ap0 k hd h hk))
end
theorem A_c{m:Nat}{s:St}{h:bn}{os os':List (Option dB)}{sl:List (Nat×SV)}(hwf:h.WF:=by assumption)(hm:m≤h.n:=by exact nR _)(hb:s.box=h.on os:=by first|rfl|exact kB)
  (hc:xy (h.on os').n os os'∧aqk s (h.on os') (h.on os').n sl sl:=by exact cN):St.To m s ⟨sl,h.on os'⟩:=To.cut hwf hm hb hc
end Go.Val

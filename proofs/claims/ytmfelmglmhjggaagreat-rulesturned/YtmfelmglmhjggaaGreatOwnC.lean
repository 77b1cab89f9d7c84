/- A value semantics of the model's programs, sound against it, and functions read off the given program with the proofs that it runs so; no condition. -/
import Derived.Test.YtmfelmglmhjggaaGreatOwnB
import GoSem.ClaimChange
set_option linter.all false
set_option linter.unnecessarySimpa false
set_option linter.unusedVariables false
set_option linter.unusedSimpArgs false
namespace Go.Val
variable {P:Program} {s:St} {x y:Operand}
def adD:Option (List DVal)→Bool→Option Out
 | some ds,false=>some (.cv (.val (.agg ds)),[])
 | some _,true=>none
 | none,_=>none
def ael (l off:Nat):Option CV→Option Out
 | some (.val d)=>some (.cv (.val d),[])
 | some .nil=>some (.cv .nil,[])
 | some (.row _ _)=>some (.alias (.cell l off),[])
 | some .dead=>none
 | none=>none
def ak7 (n:Nat) (cs:List CV):Option Out:=if cs.length < n then none else adD (toDs (cs.take n)) (dM (cs.take n))
def loadCells (l off n:Nat) (cs:List CV):Bool→Option Out
 | true=>ak7 n (cs.drop off)
 | false=>if n≠1 then none else ael l off cs[off]?
def loadAt (P:Program) (t:TypeId) (l off:Nat):Option BObj→Option Out
 | some (.cells cs)=>loadCells l off (P.cellsOf t) cs (isAg P t)
 | some (.map _ _)=>none
 | none=>none
def ni (P:Program) (t:TypeId) (cs:List DVal):Option Out:=if cs.length < P.cellsOf t then none else retO (fj P t (cs.take (P.cellsOf t)))
def adJ (P:Program) (t:TypeId) (off:Nat):Option DVal→Option Out
 | some e=>ni P t (e.cells.drop off)
 | none=>none
def uD (P:Program) (t:TypeId) (i off:Nat):Option (TypeId×List DVal)→Option Out
 | some (_,xs)=>adJ P t off xs[i]?
 | none=>none
def ptrD {α:Type} (f:Nat→Nat→Option α):DVal→Option α
 | .ptr (some (l,off))=>f l off
 | .ptr none=>none
 | .int _ _=>none
 | .bool _=>none
 | .str _=>none
 | .sl _=>none
 | .agg _=>none
 | .map _=>none
 | .fn _ _ _=>none
 | .nilfn=>none
def zi (P:Program) (s:St) (t:TypeId) (l off:Nat):Option Out:=loadAt P t l off (s.box.at_ l)
def jd (P:Program) (s:St) (t:TypeId):SV→Option Out
 | .cv (.val d)=>ptrD (zi P s t) d
 | .imm cs=>ni P t cs
 | .elt r i off=>uD P t i off (s.rowAt r)
 | .cv .nil=>none
 | .cv (.row _ _)=>none
 | .cv .dead=>none
 | .alias _=>none
 | .bld _=>none
 | .tup _=>none
 | .undef=>none
def vp (P:Program) (s:St) (t:TypeId) (v:SV):Option TypeDesc→Option Out
 | some _=>if P.cellsOf t=0 then none else jd P s t v
 | none=>none
theorem cR {t:TypeId}:loadOp P s t x=vp P s t (s.opv x) (P.underlying t):=by
 unfold loadOp
 cases hu:P.underlying t with
 | none=>rw[if_pos (.inr rfl)];rfl
 | some td=>
  simp only[vp,Option.isNone_some,Bool.false_eq_true,or_false]
  split
  ·rfl
  ·cases s.opv x with
   | cv c=>
    cases c with
    | val d=>
     cases d with
     | ptr a=>
      cases a with
      | none=>rfl
      | some a=>
       obtain ⟨l,off⟩:=a
       simp only[jd,ptrD,zi]
       cases s.box.at_ l with
       | none=>rfl
       | some o=>
        cases o with
        | map _ _=>rfl
        | cells cs=>
         simp only[loadAt,ak4]
         cases isAg P t with
         | true=>
          simp only[if_true,loadCells,ak7]
          split
          ·rfl
          ·cases toDs ((cs.drop off).take (P.cellsOf t))with
           | none=>rfl
           | some ds=>
            simp only[Option.bind_some]
            cases dM ((cs.drop off).take (P.cellsOf t)) <;> rfl
         | false=>
          simp only[Bool.false_eq_true,if_false,loadCells]
          split
          ·rfl
          ·cases cs[off]? with
           | none=>rfl
           | some c=>cases c <;> rfl
     | _=>rfl
    | _=>rfl
   | imm cs=>
    simp only[jd,ni]
    split
    ·rfl
    ·cases fj P t (cs.take (P.cellsOf t)) <;> rfl
   | elt r i off=>
    simp only[jd]
    cases s.rowAt r with
    | none=>rfl
    | some p=>
     obtain ⟨k,xs⟩:=p
     simp only[Option.bind_some,uD]
     cases xs[i]? with
     | none=>rfl
     | some e=>
      simp only[Option.bind_some,adJ,ni]
      split
      ·rfl
      ·cases fj P t ((e.cells.drop off).take (P.cellsOf t)) <;> rfl
   | _=>rfl
def atg (n:Nat):Option DVal→Option Out
 | some d=>if d.cells.length=n then some (.imm d.cells,[])else none
 | none=>none
def ajH (e:TypeId) (r:Root) (i:Nat):Option (TypeId×List DVal)→Option Out
 | some (k,xs)=>if i < xs.length∧k=e then some (.elt r i 0,[])else none
 | none=>none
def lj (n i:Nat):DVal→Option Out
 | .sl xs=>atg n xs[i]?
 | .ptr _=>none
 | .int _ _=>none
 | .bool _=>none
 | .str _=>none
 | .agg _=>none
 | .map _=>none
 | .fn _ _ _=>none
 | .nilfn=>none
def oK (s:St) (e:TypeId) (n:Nat) (x:Operand) (i:Nat):SV→Option Out
 | .cv (.val d)=>lj n i d
 | .cv (.row k xs)=>if i < xs.length∧k=e then some (.elt (.slot (jr x)) i 0,[])else none
 | .alias r=>ajH e r i (s.rowAt r)
 | .cv .nil=>none
 | .cv .dead=>none
 | .imm _=>none
 | .elt _ _ _=>none
 | .bld _=>none
 | .tup _=>none
 | .undef=>none
def apL (l off:Nat):Option Out:=some (.cv (.val (.ptr (some (l,off)))),[])
def auO (n l off:Nat):Option Out:=apL l (off+n)
def onSV (n:Nat):SV→Option Out
 | .cv (.val d)=>ptrD (auO n) d
 | .imm cs=>some (.imm (cs.drop n),[])
 | .elt r j off=>some (.elt r j (off+n),[])
 | .cv .nil=>none
 | .cv (.row _ _)=>none
 | .cv .dead=>none
 | .alias _=>none
 | .bld _=>none
 | .tup _=>none
 | .undef=>none
def akt (P:Program) (s:St) (x:Operand) (i:Nat):Option TypeDesc→Option Out
 | some (.slice e)=>if P.cellsOf e=0 then none else oK s e (P.cellsOf e) x i (s.opv x)
 | some (.array n e)=>if P.cellsOf e=0∨¬ i < n then none else onSV (i*P.cellsOf e) (s.opv x)
 | _=>none
def xw (P:Program) (s:St) (x:Operand) (t:TypeId):Option (IntKind×Int)→Option Out
 | some (_,i)=>if i < 0 then none else akt P s x i.toNat (P.underlying t)
 | none=>none
theorem aia {n:Nat} {sv:SV}:onSV n sv=(match sv with
  | .cv (.val (.ptr (some (l,off))))=>some (.cv (.val (.ptr (some (l,off+n)))),[])
  | .imm cs=>some (.imm (cs.drop n),[])
  | .elt r j off=>some (.elt r j (off+n),[])
  | _=>none):=by
 cases sv with
 | cv c=>
  cases c with
  | val d=>
   cases d with
   | ptr a=>cases a <;> rfl
   | _=>rfl
  | _=>rfl
 | _=>rfl
theorem rY {t:TypeId}:indexAddrOp P s t x y=xw P s x t (s.asInt y):=by
 unfold indexAddrOp
 cases s.asInt y with
 | none=>rfl
 | some p=>
  obtain ⟨k,i⟩:=p
  simp only[Option.bind_some,xw]
  split
  ·rfl
  ·cases P.underlying t with
   | none=>rfl
   | some td=>
    cases td
    case slice e=>
     simp only[akt]
     split
     ·rfl
     ·cases s.opv x with
      | cv c=>
       cases c with
       | val d=>
        cases d with
        | sl xs=>simp only[oK,lj];cases xs[i.toNat]? <;> rfl
        | _=>rfl
       | _=>rfl
      | alias r=>simp only[oK];cases s.rowAt r <;> rfl
      | _=>rfl
    case array n e=>
     simp only[akt,aia]
     rfl
    all_goals rfl
def faFd (P:Program) (sv:SV):Option Field→Option Out
 | some fd=>if P.cellsOf fd.type=0 then none else onSV fd.offset sv
 | none=>none
def faTD (P:Program) (sv:SV) (f:Nat):Option TypeDesc→Option Out
 | some (.struct fs)=>faFd P sv fs[f]?
 | _=>none
theorem rR {t:TypeId} {f:Nat}:fieldAddrOp P s t x f=faTD P (s.opv x) f (P.underlying t):=by
 unfold fieldAddrOp
 cases P.underlying t with
 | none=>rfl
 | some td=>
  cases td
  case struct fs=>
   simp only[faTD]
   cases fs[f]? with
   | none=>rfl
   | some fd=>
    simp only[Option.bind_some,faFd,aia]
    rfl
  all_goals rfl
def lenD:DVal→Option Out
 | .str b=>ret (.int .i64 b.size)
 | .sl _=>none
 | .ptr _=>none
 | .int _ _=>none
 | .bool _=>none
 | .agg _=>none
 | .map _=>none
 | .fn _ _ _=>none
 | .nilfn=>none
def abl:Option DVal→Option Out
 | some d=>lenD d
 | none=>none
def abu:Option (List DVal)→Option Out
 | some xs=>ret (.int .i64 xs.length)
 | none=>none
def acE:Option BObj→Option Out
 | some (.map _ es)=>ret (.int .i64 es.length)
 | some (.cells _)=>none
 | none=>none
def ik (s:St):DVal→Option Out
 | .map none=>ret (.int .i64 0)
 | .map (some l)=>acE (s.box.at_ l)
 | .str _=>none
 | .sl _=>none
 | .ptr _=>none
 | .int _ _=>none
 | .bool _=>none
 | .agg _=>none
 | .fn _ _ _=>none
 | .nilfn=>none
def uc (s:St):Option DVal→Option Out
 | some d=>ik s d
 | none=>none
def wC (s:St) (x:Operand):Option TypeDesc→Option Out
 | some .string=>abl (optVal s x)
 | some (.slice _)=>abu (s.list (s.opv x))
 | some (.map _ _)=>uc s (optVal s x)
 | _=>none
theorem ans {t:TypeId}:lenOp P s t x=wC s x (P.underlying t):=by
 unfold lenOp
 cases P.underlying t with
 | none=>rfl
 | some td=>
  cases td
  case string=>
   simp only[wC]
   cases optVal s x with
   | none=>rfl
   | some d=>cases d <;> rfl
  case slice e=>simp only[wC];cases s.list (s.opv x) <;> rfl
  case map k e=>
   simp only[wC]
   cases optVal s x with
   | none=>rfl
   | some d=>
    cases d
    case map r=>
     cases r with
     | none=>rfl
     | some l=>
      simp only[Option.bind_some,uc,ik]
      cases s.box.at_ l with
      | none=>rfl
      | some o=>cases o <;> rfl
    all_goals rfl
  all_goals rfl
section
variable {dst:Option Tmp} {ty:TypeId} {pos:String} {after:Array Edge} {g:Option (Nat×Bool)}
theorem auc {t:TypeId} {x:Operand}:aop P s ⟨dst,.load t x,ty,pos,after,g⟩=vp P s t (s.opv x) (P.underlying t):=cR
theorem abM {t:TypeId} {x y:Operand}:aop P s ⟨dst,.indexAddr t x y,ty,pos,after,g⟩=xw P s x t (s.asInt y):=rY
theorem yx {t:TypeId} {x:Operand} {f:Nat}:aop P s ⟨dst,.fieldAddr t x f,ty,pos,after,g⟩=faTD P (s.opv x) f (P.underlying t):=rR
theorem awi {x:Operand} {t:TypeId}:aop P s ⟨dst,.call ⟨.builtin .len,#[x],#[t]⟩,ty,pos,after,g⟩=wC s x (P.underlying t):=ans
end
end Go.Val
namespace Go.Val
variable {P:Program} {s:St} {x y:Operand}
def aggD {α:Type} (f:List DVal→Option α):DVal→Option α
 | .agg cs=>f cs
 | .ptr _=>none
 | .int _ _=>none
 | .bool _=>none
 | .str _=>none
 | .sl _=>none
 | .map _=>none
 | .fn _ _ _=>none
 | .nilfn=>none
def ahb {α:Type} (f:List DVal→Option α):Option DVal→Option α
 | some d=>aggD f d
 | none=>none
def strD {α:Type} (f:ByteArray→Option α):DVal→Option α
 | .str b=>f b
 | .agg _=>none
 | .ptr _=>none
 | .int _ _=>none
 | .bool _=>none
 | .sl _=>none
 | .map _=>none
 | .fn _ _ _=>none
 | .nilfn=>none
def strO {α:Type} (f:ByteArray→Option α):Option DVal→Option α
 | some d=>strD f d
 | none=>none
theorem aggO'_eq {α:Type} {f:List DVal→Option α} {d:Option DVal}:(d.bind fun d=>match d with | .agg cs=>f cs | _=>none)=ahb f d:=by
 cases d with
 | none=>rfl
 | some d=>cases d <;> rfl
theorem aqS {α:Type} {f:ByteArray→Option α} {d:Option DVal}:(d.bind fun d=>match d with | .str b=>f b | _=>none)=strO f d:=by
 cases d with
 | none=>rfl
 | some d=>cases d <;> rfl
def ab8 (P:Program) (fd:Field) (cs:List DVal):Option Out:=if fd.offset+P.cellsOf fd.type≤cs.length∧P.cellsOf fd.type≠0 then retO (fj P fd.type ((cs.drop fd.offset).take (P.cellsOf fd.type)))else none
def fdO (P:Program) (d:Option DVal):Option Field→Option Out
 | some fd=>ahb (ab8 P fd) d
 | none=>none
def fTD (P:Program) (d:Option DVal) (f:Nat):Option TypeDesc→Option Out
 | some (.struct fs)=>fdO P d fs[f]?
 | _=>none
theorem qO {d:Option DVal}:d.bind ret=retO d:=by cases d <;> rfl
theorem afr {t:TypeId} {f:Nat}:fieldOp P s t x f=fTD P (optVal s x) f (P.underlying t):=by
 unfold fieldOp
 cases P.underlying t with
 | none=>rfl
 | some td=>
  cases td
  case struct fs=>
   simp only[fTD]
   cases fs[f]? with
   | none=>rfl
   | some fd=>
    simp only[Option.bind_some,fdO]
    rw[← aggO'_eq]
    congr 1
    funext d
    cases d
    case agg cs=>simp only[ab8,qO]
    all_goals rfl
  all_goals rfl
def aq5:Option UInt8→Option Out
 | some c=>ret (.int .u8 c.toNat)
 | none=>none
def arF (i:Nat) (b:ByteArray):Option Out:=aq5 b.data.toList[i]?
def ixAr (P:Program) (n:Nat) (e:TypeId) (i:Nat) (cs:List DVal):Option Out:=if i < n∧i*P.cellsOf e+P.cellsOf e≤cs.length then retO (fj P e ((cs.drop (i*P.cellsOf e)).take (P.cellsOf e)))else none
def ixTD (P:Program) (i:Nat) (d:Option DVal):Option TypeDesc→Option Out
 | some .string=>strO (arF i) d
 | some (.array n e)=>ahb (ixAr P n e i) d
 | _=>none
def akC (P:Program) (t:TypeId) (d:Option DVal):Option (IntKind×Int)→Option Out
 | some (_,i)=>if i < 0 then none else ixTD P i.toNat d (P.underlying t)
 | none=>none
theorem afL {t:TypeId}:indexOp P s t x y=akC P t (optVal s x) (s.asInt y):=by
 unfold indexOp
 cases s.asInt y with
 | none=>rfl
 | some p=>
  obtain ⟨k,i⟩:=p
  simp only[Option.bind_some,akC]
  split
  ·rfl
  ·cases hu:P.underlying t with
   | none=>cases optVal s x <;> rfl
   | some td=>
    cases optVal s x with
    | none=>cases td <;> rfl
    | some d=>
     simp only[Option.bind_some]
     cases td
     case string=>
      cases d
      case str b=>
       simp only[ixTD,strO,strD,arF]
       cases b.data.toList[i.toNat]? <;> rfl
      all_goals rfl
     case array n e=>
      cases d
      case agg cs=>simp only[ixTD,ahb,aggD,ixAr,qO]
      all_goals rfl
     all_goals (cases d <;> rfl)
def ass (len:Nat):Option (IntKind×Int)→Option Nat
 | some (_,i)=>if 0≤i∧i≤(len:Int)then some i.toNat else none
 | none=>none
theorem vq {len d:Nat}:boundOf s len d none=some d:=rfl
theorem vB {len d:Nat}:boundOf s len d (some x)=ass len (s.asInt x):=by
 simp only[boundOf]
 cases s.asInt x <;> rfl
def alE (b:ByteArray) (h:Nat):Option Nat→Option Out
 | some l=>ret (.str (b.extract l h))
 | none=>none
def tX (s:St) (lo:Option Operand) (b:ByteArray):Option Nat→Option Out
 | some h=>alE b h (boundOf s h 0 lo)
 | none=>none
def arq (s:St) (lo hi:Option Operand) (b:ByteArray):Option Out:=tX s lo b (boundOf s b.size b.size hi)
def asT (n:Nat) (xs:List DVal) (es:List Eff) (h:Nat):Option Nat→Option Out
 | some l=>if n=0∨dj n xs=false then none else some (.cv (.val (.sl ((xs.take h).drop l))),es)
 | none=>none
def ac3 (s:St) (lo:Option Operand) (n:Nat) (xs:List DVal) (es:List Eff):Option Nat→Option Out
 | some h=>asT n xs es h (boundOf s h 0 lo)
 | none=>none
def asW (s:St) (lo hi:Option Operand) (n:Nat) (es:List Eff) (xs:List DVal):Option Out:=ac3 s lo n xs es (boundOf s xs.length xs.length hi)
def slV (s:St) (lo hi:Option Operand) (n:Nat):Option (DVal×List Eff)→Option Out
 | some (.sl xs,es)=>asW s lo hi n es xs
 | _=>none
def auB (n:Nat) (hi:Option Operand):Option (List DVal)→Option (IntKind×Int)→Option Nat→Option Nat→Option Out
 | some _,some m,some h,some l=>if m.2=0∧h=0∧l=0∧hi.isSome∧n≠0 then some (.cv .nil,[])else none
 | _,_,_,_=>none
def slTD (P:Program) (s:St) (x:Operand) (lo hi:Option Operand):Option TypeDesc→Option Operand→Option Out
 | some .string,none=>strO (arq s lo hi) (optVal s x)
 | some (.slice e),none=>slV s lo hi (P.cellsOf e) (s.asVal x)
 | some (.slice e),some m=>auB (P.cellsOf e) hi (s.list (s.opv x)) (s.asInt m) (boundOf s 0 0 hi) (boundOf s 0 0 lo)
 | _,_=>none
theorem afd {t:TypeId} {lo hi mx:Option Operand}:sliceOp P s t x lo hi mx=slTD P s x lo hi (P.underlying t) mx:=by
 unfold sliceOp
 cases P.underlying t with
 | none=>rfl
 | some td=>
  cases td
  case string=>
   cases mx with
   | some m=>rfl
   | none=>
    simp only[slTD]
    rw[← aqS]
    congr 1;funext d
    cases d
    case str b=>
     simp only[arq]
     cases boundOf s b.size b.size hi with
     | none=>rfl
     | some h=>
      simp only[Option.bind_some,tX]
      cases boundOf s h 0 lo <;> rfl
    all_goals rfl
  case slice e=>
   cases mx with
   | none=>
    simp only[slTD]
    cases s.asVal x with
    | none=>rfl
    | some p=>
     obtain ⟨d,es⟩:=p
     cases d
     case sl xs=>
      simp only[Option.bind_some,slV,asW]
      cases boundOf s xs.length xs.length hi with
      | none=>rfl
      | some h=>
       simp only[Option.bind_some,ac3]
       cases boundOf s h 0 lo <;> rfl
     all_goals rfl
   | some m=>
    simp only[slTD]
    cases s.list (s.opv x)with
    | none=>rfl
    | some xs=>
     cases s.asInt m with
     | none=>rfl
     | some m=>
      cases boundOf s 0 0 hi with
      | none=>rfl
      | some h=>cases boundOf s 0 0 lo <;> rfl
  all_goals (cases mx <;> rfl)
end Go.Val
namespace Go.Val
variable {P:Program} {s:St} {x y:Operand}
def avj (b:ByteArray):Option (List DVal):=some (iF b)
def akq (i:Int):Option DVal→Option (List DVal)
 | some z=>if 0≤i then some (List.replicate i.toNat z)else none
 | none=>none
def ap7 (z:Option DVal):Option (IntKind×Int)→Option (List DVal)
 | some (_,i)=>akq i z
 | none=>none
def wm (P:Program) (s:St) (e:TypeId) (y:Operand):Option TypeDesc→Option (List DVal)
 | some (.slice _)=>s.list (s.opv y)
 | some .string=>strO avj (optVal s y)
 | some (.int _)=>ap7 (jq P e) (s.asInt y)
 | _=>none
def apOk (P:Program) (e:TypeId) (xs ys:List DVal):Prop:=(xs.length+ys.length)*P.bytesOf e≤dn∧dj (P.cellsOf e) ys=true∧0 < P.bytesOf e∧0 < P.cellsOf e∧cL P e=true
instance (P:Program) (e:TypeId) (xs ys:List DVal):Decidable (apOk P e xs ys):=by unfold apOk;infer_instance
def aoL (P:Program) (e:TypeId):Option (List DVal×List Eff)→Option (List DVal)→Option Out
 | some (xs,es),some ys=>if apOk P e xs ys then some (.cv (.row e (xs++ys)),es)else none
 | some _,none=>none
 | none,_=>none
def apTD (P:Program) (s:St) (ty:TypeId) (x y:Operand):Option TypeDesc→Option Out
 | some (.slice e)=>aoL P e (s.asRow e x) (wm P s e y (P.underlying ty))
 | _=>none
theorem aas {t ty:TypeId}:appendOp P s t ty x y=apTD P s ty x y (P.underlying t):=by
 unfold appendOp
 cases P.underlying t with
 | none=>rfl
 | some td=>
  cases td
  case slice e=>
   simp only[apTD]
   have hsrc:(match P.underlying ty with
     | some (.slice _)=>s.list (s.opv y)
     | some .string=>(optVal s y).bind fun d=>match d with
       | .str b=>some (iF b)
       | _=>none
     | some (.int _)=>(s.asInt y).bind fun p=>(jq P e).bind fun z=>if 0≤p.2 then some (List.replicate p.2.toNat z)else none
     | _=>none)=wm P s e y (P.underlying ty):=by
    cases P.underlying ty with
    | none=>rfl
    | some td=>
     cases td
     case string=>
      simp only[wm]
      cases optVal s y with
      | none=>rfl
      | some d=>cases d <;> rfl
     case int k=>
      simp only[wm]
      cases s.asInt y with
      | none=>rfl
      | some p=>cases jq P e <;> rfl
     all_goals rfl
   cases s.asRow e x with
   | none=>rfl
   | some r=>
    refine Eq.trans (congrArg (fun src:Option (List DVal)=>src.bind fun ys=>if (r.1.length+ys.length)*P.bytesOf e≤dn∧dj (P.cellsOf e) ys∧0 < P.bytesOf e∧0 < P.cellsOf e∧cL P e then some ((SV.cv (.row e (r.1++ys))),r.2)else none) hsrc) ?_
    cases wm P s e y (P.underlying ty) <;> rfl
  all_goals rfl
def avT (P:Program) (e:TypeId):Option (IntKind×Int)→Option (IntKind×Int)→Option DVal→Option Out
 | some (_,a),some (_,b),some z=>if 0≤a∧a=b∧a.toNat*P.bytesOf e≤dn∧0 < P.bytesOf e∧z.cells.length=P.cellsOf e then some (.cv (.row e (List.replicate a.toNat z)),[])else none
 | _,_,_=>none
def msTD (P:Program) (s:St) (n m:Operand):Option TypeDesc→Option Out
 | some (.slice e)=>avT P e (s.asInt n) (s.asInt m) (jq P e)
 | _=>none
theorem rU {t:TypeId}:makeSliceOp P s t x y=msTD P s x y (P.underlying t):=by
 unfold makeSliceOp
 cases P.underlying t with
 | none=>rfl
 | some td=>
  cases td
  case slice e=>
   simp only[msTD]
   cases s.asInt x with
   | none=>rfl
   | some a=>
    cases s.asInt y with
    | none=>rfl
    | some b=>cases jq P e <;> rfl
  all_goals rfl
def arR (k:IntKind):Option (IntKind×Int)→Option Out
 | some (_,i)=>ret (.int k (k.wrap i))
 | none=>none
def auq (b:ByteArray):Option Out:=ret (.str b)
def ak2 (b:ByteArray):Option Out:=ret (.sl (iF b))
def amk:Option (List UInt8)→Option Out
 | some b=>ret (.str ⟨b.toArray⟩)
 | none=>none
def adv:Option (List DVal)→Option Out
 | some ds=>amk (strOf ds)
 | none=>none
def cvTD (P:Program) (s:St) (x:Operand) (q:Bool):Option TypeDesc→Option TypeDesc→Option Out
 | some (.int _),some (.int k)=>arR k (s.asInt x)
 | some .string,some .string=>strO auq (optVal s x)
 | some (.slice e),some .string=>if isU8 P e then adv (s.list (s.opv x))else none
 | some .string,some (.slice e)=>if isU8 P e then strO ak2 (optVal s x)else none
 | some (.slice _),some (.slice e)=>if (q&&isU8 P e)=true then anl x (s.opv x)else none
 | _,_=>none
theorem wR {t t':TypeId}:convertOp P s t t' x=cvTD P s x (decide (t=t')) (P.underlying t) (P.underlying t'):=by
 unfold convertOp
 cases P.underlying t with
 | none=>rfl
 | some td=>
  cases P.underlying t' with
  | none=>cases td <;> rfl
  | some td'=>
   cases td
   case int k=>
    cases td'
    case int k'=>simp only[cvTD];cases s.asInt x <;> rfl
    all_goals rfl
   case string=>
    cases td'
    case string=>
     simp only[cvTD]
     cases optVal s x with
     | none=>rfl
     | some d=>cases d <;> rfl
    case slice e=>
     simp only[cvTD]
     split
     ·cases optVal s x with
      | none=>rfl
      | some d=>cases d <;> rfl
     ·rfl
    all_goals rfl
   case slice e=>
    cases td'
    case string=>
     simp only[cvTD]
     split
     ·cases s.list (s.opv x)with
      | none=>rfl
      | some ds=>simp only[Option.bind_some,adv];cases strOf ds <;> rfl
     ·rfl
    all_goals rfl
   all_goals (cases td' <;> rfl)
def exSV (i:Nat):SV→Option Out
 | .tup ds=>retO ds[i]?
 | .cv _=>none
 | .alias _=>none
 | .imm _=>none
 | .elt _ _ _=>none
 | .bld _=>none
 | .undef=>none
theorem xr {i:Nat}:extractOp s x i=exSV i (s.opv x):=by
 unfold extractOp
 cases s.opv x with
 | tup ds=>simp only[exSV,qO]
 | _=>rfl
def adf (kt:TypeId):Option BObj→Option (List (DVal×DVal))
 | some (.map kt' es)=>if kt'=kt then some es else none
 | some (.cells _)=>none
 | none=>none
def mapD (s:St) (kt:TypeId):DVal→Option (List (DVal×DVal))
 | .map none=>some []
 | .map (some l)=>adf kt (s.box.at_ l)
 | .agg _=>none
 | .ptr _=>none
 | .int _ _=>none
 | .bool _=>none
 | .str _=>none
 | .sl _=>none
 | .fn _ _ _=>none
 | .nilfn=>none
theorem anc {kt:TypeId} {d:DVal}:mapAt s kt d=mapD s kt d:=by
 unfold mapAt
 cases d with
 | map r=>
  cases r with
  | none=>rfl
  | some l=>
   simp only[mapD]
   cases s.box.at_ l with
   | none=>rfl
   | some o=>cases o <;> rfl
 | _=>rfl
def aqa (k z:DVal) (ok:Bool):Option (List (DVal×DVal))→Option Out
 | some es=>if ok=true then some (.tup [(dZ k es).getD z,.bool (dZ k es).isSome],[])else some (.cv (.val ((dZ k es).getD z)),[])
 | none=>none
def lkK (P:Program) (s:St) (kt:TypeId) (ok:Bool):Option DVal→Option DVal→Option TypeDesc→Option DVal→Option Out
 | some d,some k,some td,some z=>if isKey P kt td k=true then aqa k z ok (mapAt s kt d)else none
 | _,_,_,_=>none
def lkTD (P:Program) (s:St) (x k:Operand) (ok:Bool):Option TypeDesc→Option Out
 | some (.map kt e)=>lkK P s kt ok (optVal s x) (optVal s k) (P.underlying kt) (jq P e)
 | _=>none
theorem xZ {t:TypeId} {ok:Bool}:lookupOp P s t x y ok=lkTD P s x y ok (P.underlying t):=by
 unfold lookupOp
 cases P.underlying t with
 | none=>rfl
 | some td=>
  cases td
  case map kt e=>
   simp only[lkTD]
   cases optVal s x with
   | none=>rfl
   | some d=>
    cases optVal s y with
    | none=>rfl
    | some k=>
     cases P.underlying kt with
     | none=>rfl
     | some td=>
      cases jq P e with
      | none=>rfl
      | some z=>
       simp only[Option.bind_some,lkK]
       split
       ·cases mapAt s kt d <;> rfl
       ·rfl
  all_goals rfl
end Go.Val
namespace Go.Val
variable {P:Program} {s:St} {x y:Operand}
def atj (l:Nat) (kt:TypeId) (k v:DVal) (es:List Eff):Option (List (DVal×DVal))→Option Out
 | some en=>some (.undef,es++[.setMap l kt (mput k v en)])
 | none=>none
def muD (s:St) (kt:TypeId) (k v:DVal) (es:List Eff):DVal→Option Out
 | .map (some l)=>atj l kt k v es (mapAt s kt (.map (some l)))
 | .map none=>none
 | .agg _=>none
 | .ptr _=>none
 | .int _ _=>none
 | .bool _=>none
 | .str _=>none
 | .sl _=>none
 | .fn _ _ _=>none
 | .nilfn=>none
def muK (P:Program) (s:St) (kt:TypeId):Option DVal→Option DVal→Option TypeDesc→Option (DVal×List Eff)→Option Out
 | some d,some k,some td,some (v,es)=>if isKey P kt td k=true then muD s kt k v es d else none
 | _,_,_,_=>none
def muTD (P:Program) (s:St) (x k v:Operand):Option TypeDesc→Option Out
 | some (.map kt _)=>muK P s kt (optVal s x) (optVal s k) (P.underlying kt) (s.asVal v)
 | _=>none
theorem ma {t:TypeId} {z:Operand}:mapUpdateOp P s t x y z=muTD P s x y z (P.underlying t):=by
 unfold mapUpdateOp
 cases P.underlying t with
 | none=>rfl
 | some td=>
  cases td
  case map kt e=>
   simp only[muTD]
   cases optVal s x with
   | none=>rfl
   | some d=>
    cases optVal s y with
    | none=>rfl
    | some k=>
     cases P.underlying kt with
     | none=>rfl
     | some td=>
      cases s.asVal z with
      | none=>rfl
      | some v=>
       simp only[Option.bind_some,muK]
       split
       ·cases d with
        | map r=>
         cases r with
         | none=>rfl
         | some l=>simp only[muD];cases mapAt s kt (.map (some l)) <;> rfl
        | _=>rfl
       ·rfl
  all_goals rfl
def alD (n:Nat) (z:List CV):Option (List DVal)→Option Out
 | some _=>if z.length=0 then none else some (.cv (.val (.ptr (some (n,0)))),[.new (.cells z)])
 | none=>none
def alO (n:Nat):Option (List CV)→Option Out
 | some z=>alD n z (toDs z)
 | none=>none
def bxO (n k:Nat):Option (List CV×List Eff)→Option Out
 | some (cs,es)=>if cs.length=k∧dM (cs.drop 1)=false then some (.cv (.val (.ptr (some (n,0)))),es++[.new (.cells cs)])else none
 | none=>none
def bldO:Option (List CV×List Eff)→Option Out
 | some (cs,es)=>some (.bld cs,es)
 | none=>none
def mM (P:Program) (s:St) (t:TypeId) (ps:List (Nat×Operand)) (z:List CV):Bool→Option (List DVal)→Option Out
 | true,some _=>bldO (buildCells P s t z ps)
 | true,none=>none
 | false,_=>none
def bdO (P:Program) (s:St) (t:TypeId) (ps:List (Nat×Operand)):Option (List CV)→Option Out
 | some z=>mM P s t ps z (ca P t) (toDs z)
 | none=>none
def alz (es:List Eff):Option (List CV×List Eff)→Option (List CV×List Eff)
 | some (cs,es')=>some (cs,es++es')
 | none=>none
def adQ (P:Program) (s:St) (t:TypeId) (ps:List (Nat×Operand)) (cs:List CV) (off n:Nat):Option (List CV×List Eff)→Option (List CV×List Eff)
 | some (c,es)=>if c.length=n∧off+n≤cs.length then alz es (buildCells P (s.effs es) t (setFrom cs off c) ps)else none
 | none=>none
def uJ (P:Program) (s:St) (t:TypeId) (x:Operand) (ps:List (Nat×Operand)) (cs:List CV):Option (Nat×Nat)→Option (List CV×List Eff)
 | some (off,n)=>adQ P s t ps cs off n (partCells s x)
 | none=>none
theorem rS {t:TypeId} {cs:List CV}:buildCells P s t cs []=some (cs,[]):=rfl
theorem qR {t:TypeId} {cs:List CV} {i:Nat} {ps:List (Nat×Operand)}:buildCells P s t cs ((i,x)::ps)=uJ P s t x ps cs (place P t i):=by
 simp only[buildCells]
 cases place P t i with
 | none=>rfl
 | some p=>
  obtain ⟨off,n⟩:=p
  simp only[Option.bind_some,uJ]
  cases partCells s x with
  | none=>rfl
  | some c=>
   obtain ⟨c,es⟩:=c
   simp only[Option.bind_some,adQ]
   split
   ·cases buildCells P (s.effs es) t (setFrom cs off c) ps <;> rfl
   ·rfl
def ahY (d:DVal) (es:List Eff):Option (List DVal×List Eff)→Option (List DVal×List Eff)
 | some (ds,es')=>some (d::ds,es++es')
 | none=>none
def adP (P:Program) (s:St) (k j:Nat) (ps:List (Nat×Operand)):Option (DVal×List Eff)→Option (List DVal×List Eff)
 | some (d,es)=>if d.cells.length=k then ahY d es (buildElems P (s.effs es) k (j+1) ps)else none
 | none=>none
theorem rO {k j:Nat}:buildElems P s k j []=some ([],[]):=rfl
theorem rA {k j i:Nat} {ps:List (Nat×Operand)}:buildElems P s k j ((i,x)::ps)=if i=j then adP P s k j ps (s.asVal x)else none:=by
 simp only[buildElems]
 split
 ·cases s.asVal x with
  | none=>rfl
  | some d=>
   obtain ⟨d,es⟩:=d
   simp only[Option.bind_some,adP]
   split
   ·cases buildElems P (s.effs es) k (j+1) ps <;> rfl
   ·rfl
 ·rfl
def arT (P:Program) (e:TypeId) (n:Nat):Option (List DVal×List Eff)→Option Out
 | some (ds,es)=>if ds.length=n∧n*P.cellsOf e≤2^24∧P.cellsOf e≠0∧dU P e=true then some (.cv (.row e ds),es)else none
 | none=>none
def bsTD (P:Program) (s:St) (n:Nat) (ps:List (Nat×Operand)):Option TypeDesc→Option Out
 | some (.slice e)=>arT P e n (buildElems P s (P.cellsOf e) 0 ps)
 | _=>none
def ar7 (n:Nat) (kt:TypeId):Option TypeDesc→Option Out
 | some _=>some (.cv (.val (.map (some n))),[.new (.map kt [])])
 | none=>none
def mmTD (P:Program) (n:Nat):Option TypeDesc→Option Out
 | some (.map kt _)=>ar7 n kt (P.underlying kt)
 | _=>none
def amG (f:FuncId):Option (List DVal)→Option (List DVal)→Option Out
 | some a,some b=>if a.all DVal.one&&b.all DVal.one then ret (.fn f a b)else none
 | some _,none=>none
 | none,_=>none
def akQ (d:DVal):Option (List DVal)→Option (List DVal)
 | some ds=>some (d::ds)
 | none=>none
def acL (s:St) (xs:List Operand):Option DVal→Option (List DVal)
 | some d=>akQ d (optVals s xs)
 | none=>none
theorem zJ:optVals s []=some []:=rfl
theorem xB {xs:List Operand}:optVals s (x::xs)=acL s xs (optVal s x):=by
 simp only[optVals]
 cases optVal s x with
 | none=>rfl
 | some d=>simp only[Option.bind_some,acL];cases optVals s xs <;> rfl
def yw (l off n m:Nat):Option (List CV×List Eff)→Option Out
 | some (c,es)=>if c.length=n∧off+n≤m then some (.undef,es++setCells l off c)else none
 | none=>none
def ais (l off n:Nat) (c:Option (List CV×List Eff)):Option BObj→Option Out
 | some (.cells cs)=>yw l off n cs.length c
 | some (.map _ _)=>none
 | none=>none
def arY (s:St) (n:Nat) (c:Option (List CV×List Eff)) (l off:Nat):Option Out:=ais l off n c (s.box.at_ l)
def ahE (r:Root) (k:TypeId) (xs:List DVal) (i off n:Nat) (e:DVal):Option (DVal×List Eff)→Option Out
 | some (d,[])=>if d.cells.length=n∧off+n≤e.cells.length then some (.undef,[.setRow r k (xs.set i (nG e (setFrom e.cells off d.cells)))])else none
 | some (_,_::_)=>none
 | none=>none
def stEl (r:Root) (k:TypeId) (xs:List DVal) (i off n:Nat) (v:Option (DVal×List Eff)):Option DVal→Option Out
 | some e=>ahE r k xs i off n e v
 | none=>none
def anf (r:Root) (i off n:Nat) (v:Option (DVal×List Eff)):Option (TypeId×List DVal)→Option Out
 | some (k,xs)=>stEl r k xs i off n v xs[i]?
 | none=>none
def stSV (s:St) (n:Nat) (y:Operand):SV→Option Out
 | .cv (.val d)=>ptrD (arY s n (s.asCells y)) d
 | .elt r i off=>anf r i off n (s.asVal y) (s.rowAt r)
 | .imm _=>none
 | .cv .nil=>none
 | .cv (.row _ _)=>none
 | .cv .dead=>none
 | .alias _=>none
 | .bld _=>none
 | .tup _=>none
 | .undef=>none
theorem aeE {t:TypeId}:storeOp P s t x y=if P.cellsOf t=0 then none else stSV s (P.cellsOf t) y (s.opv x):=by
 unfold storeOp
 split
 ·rfl
 ·cases s.opv x with
  | cv c=>
   cases c with
   | val d=>
    cases d with
    | ptr a=>
     cases a with
     | none=>rfl
     | some a=>
      obtain ⟨l,off⟩:=a
      simp only[stSV,ptrD,arY]
      cases s.box.at_ l with
      | none=>rfl
      | some o=>
       cases o with
       | map _ _=>rfl
       | cells cs=>simp only[ais];cases s.asCells y <;> rfl
    | _=>rfl
   | _=>rfl
  | elt r i off=>
   simp only[stSV]
   cases s.rowAt r with
   | none=>rfl
   | some p=>
    obtain ⟨k,xs⟩:=p
    simp only[Option.bind_some,anf]
    cases xs[i]? with
    | none=>rfl
    | some e=>
     simp only[Option.bind_some,stEl]
     cases s.asVal y with
     | none=>rfl
     | some d=>
      obtain ⟨d,es⟩:=d
      cases es with
      | nil=>simp only[Option.bind_some,ahE,List.isEmpty_nil,true_and]
      | cons _ _=>simp[ahE]
  | _=>rfl
end Go.Val
namespace Go.Val
variable {P:Program} {s:St} {dst:Option Tmp} {ty:TypeId} {pos:String} {after:Array Edge} {g:Option (Nat×Bool)}
def mnO (mx:Bool):Option (List (IntKind×Int))→Option Out
 | some ((k,a)::l)=>retO (fh mx k a l)
 | some []=>none
 | none=>none
def alP (p:IntKind×Int):Option (List (IntKind×Int))→Option (List (IntKind×Int))
 | some l=>some (p::l)
 | none=>none
def adF (s:St) (xs:List Operand):Option (IntKind×Int)→Option (List (IntKind×Int))
 | some p=>alP p (asInts s xs)
 | none=>none
theorem aen:asInts s []=some []:=rfl
theorem abS {x:Operand} {xs:List Operand}:asInts s (x::xs)=adF s xs (s.asInt x):=by
 simp only[asInts]
 cases s.asInt x with
 | none=>rfl
 | some d=>simp only[Option.bind_some,adF];cases asInts s xs <;> rfl
theorem akl {t t':TypeId} {x:Operand}:aop P s ⟨dst,.convert t t' x,ty,pos,after,g⟩=cvTD P s x (decide (t=t')) (P.underlying t) (P.underlying t'):=wR
theorem aj0 {x:Operand} {i:Nat}:aop P s ⟨dst,.extract x i,ty,pos,after,g⟩=exSV i (s.opv x):=xr
theorem asK {t:TypeId} {x:Operand} {f:Nat}:aop P s ⟨dst,.field t x f,ty,pos,after,g⟩=fTD P (optVal s x) f (P.underlying t):=afr
theorem arf {t:TypeId} {x y:Operand}:aop P s ⟨dst,.index t x y,ty,pos,after,g⟩=akC P t (optVal s x) (s.asInt y):=afL
theorem aq9 {t:TypeId} {x:Operand} {lo hi mx:Option Operand}:aop P s ⟨dst,.slice t x lo hi mx,ty,pos,after,g⟩=slTD P s x lo hi (P.underlying t) mx:=afd
theorem aql {t:TypeId} {x y:Operand}:aop P s ⟨dst,.store t x y,ty,pos,after,g⟩=if P.cellsOf t=0 then none else stSV s (P.cellsOf t) y (s.opv x):=aeE
theorem aqJ {t:TypeId}:aop P s ⟨dst,.alloc t,ty,pos,after,g⟩=alO s.box.n (aZ P t):=by
 show ((aZ P t).bind fun z=>if z.length=0∨(toDs z).isNone then none else some ((SV.cv (.val (.ptr (some (s.box.n,0))))),[Eff.new (.cells z)]))=_
 cases aZ P t with
 | none=>rfl
 | some z=>
  simp only[Option.bind_some,alO]
  cases toDs z with
  | none=>simp[alD]
  | some d=>simp[alD]
theorem awa {t:TypeId} {x:Operand}:aop P s ⟨dst,.box t x,ty,pos,after,g⟩=bxO s.box.n (P.cellsOf t) (s.asCells x):=by
 show ((s.asCells x).bind fun c=>if c.1.length=P.cellsOf t∧dM (c.1.drop 1)=false then some ((SV.cv (.val (.ptr (some (s.box.n,0))))),c.2++[Eff.new (.cells c.1)])else none)=_
 cases s.asCells x <;> rfl
theorem arc {t:TypeId} {ps:Array (Nat×Operand)}:aop P s ⟨dst,.build t ps,ty,pos,after,g⟩=bdO P s t ps.toList (aZ P t):=by
 show ((aZ P t).bind fun z=>if ca P t∧(toDs z).isSome then (buildCells P s t z ps.toList).bind fun r=>some ((SV.bld r.1),r.2)else none)=_
 cases aZ P t with
 | none=>rfl
 | some z=>
  simp only[Option.bind_some,bdO]
  cases ca P t with
  | false=>cases toDs z <;> simp[mM]
  | true=>
   cases toDs z with
   | none=>simp[mM]
   | some d=>simp only[Option.isSome_some,and_self,if_true,mM];cases buildCells P s t z ps.toList <;> rfl
theorem vi {t:TypeId} {n:Nat} {ps:Array (Nat×Operand)}:aop P s ⟨dst,.buildSlice t n ps,ty,pos,after,g⟩=bsTD P s n ps.toList (P.underlying t):=by
 show (match P.underlying t with
  | some (.slice e)=>(buildElems P s (P.cellsOf e) 0 ps.toList).bind fun r=>if r.1.length=n∧n*P.cellsOf e≤2^24∧P.cellsOf e≠0∧dU P e then some ((SV.cv (.row e r.1)),r.2)else none
  | _=>none)=_
 cases P.underlying t with
 | none=>rfl
 | some td=>
  cases td
  case slice e=>simp only[bsTD];cases buildElems P s (P.cellsOf e) 0 ps.toList <;> rfl
  all_goals rfl
theorem yL {t:TypeId} {n m:Operand}:aop P s ⟨dst,.makeSlice t n m,ty,pos,after,g⟩=msTD P s n m (P.underlying t):=rU
theorem ajP {t:TypeId}:aop P s ⟨dst,.makeMap t none,ty,pos,after,g⟩=mmTD P s.box.n (P.underlying t):=by
 show (match P.underlying t with
  | some (.map kt _)=>if (P.underlying kt).isSome then some ((SV.cv (.val (.map (some s.box.n)))),[Eff.new (.map kt [])])else none
  | _=>none)=_
 cases P.underlying t with
 | none=>rfl
 | some td=>
  cases td
  case map kt e=>simp only[mmTD];cases P.underlying kt <;> rfl
  all_goals rfl
theorem aeT {f:FuncId} {first caps:Array Operand}:aop P s ⟨dst,.makeFunc (.func f) first caps,ty,pos,after,g⟩=amG f (optVals s first.toList) (optVals s caps.toList):=by
 show ((optVals s first.toList).bind fun a=>(optVals s caps.toList).bind fun b=>if a.all DVal.one&&b.all DVal.one then ret (.fn f a b)else none)=_
 cases optVals s first.toList with
 | none=>rfl
 | some a=>cases optVals s caps.toList <;> rfl
theorem am3 {t:TypeId} {x k:Operand} {ok:Bool}:aop P s ⟨dst,.lookup t x k ok,ty,pos,after,g⟩=lkTD P s x k ok (P.underlying t):=xZ
theorem yc {t:TypeId} {x k v:Operand}:aop P s ⟨dst,.mapUpdate t x k v,ty,pos,after,g⟩=muTD P s x k v (P.underlying t):=ma
theorem aob {t:TypeId} {x k v:Operand}:aop P s ⟨dst,.insert t x k v,ty,pos,after,g⟩=muTD P s x k v (P.underlying t):=ma
theorem aoD {x y:Operand} {t t':TypeId}:aop P s ⟨dst,.call ⟨.builtin .append,#[x,y],#[t,t']⟩,ty,pos,after,g⟩=apTD P s t' x y (P.underlying t):=aas
theorem awQ {args:Array Operand} {ts:Array TypeId}:aop P s ⟨dst,.call ⟨.builtin .min,args,ts⟩,ty,pos,after,g⟩=mnO false (asInts s args.toList):=by
 show ((asInts s args.toList).bind fun l=>match l with | (k,a)::l=>(fh false k a l).bind ret | []=>none)=_
 cases asInts s args.toList with
 | none=>rfl
 | some l=>
  cases l with
  | nil=>rfl
  | cons p l=>obtain ⟨k,a⟩:=p;simp only[Option.bind_some,mnO,qO]
theorem awB {args:Array Operand} {ts:Array TypeId}:aop P s ⟨dst,.call ⟨.builtin .max,args,ts⟩,ty,pos,after,g⟩=mnO true (asInts s args.toList):=by
 show ((asInts s args.toList).bind fun l=>match l with | (k,a)::l=>(fh true k a l).bind ret | []=>none)=_
 cases asInts s args.toList with
 | none=>rfl
 | some l=>
  cases l with
  | nil=>rfl
  | cons p l=>obtain ⟨k,a⟩:=p;simp only[Option.bind_some,mnO,qO]
end Go.Val
namespace Go.Val
attribute [go_sem] ajp amU afo aoo aoe arX xj rowAt_slot agZ an5 aal aoA ani apk asZ afb aaM ap0 afk avI amA atx aud arx adU avD atG auc abM yx awi aggO vq vB anc rS qR rO rA zJ xB aen abS akl aj0 asK arf aq9 aql aqJ awa arc vi yL ajP aeT am3 yc aob aoD awQ awB vl
attribute [go_sem] retO.eq_1 retO.eq_2 kR.eq_1 kR.eq_2 kR.eq_3 kR.eq_4 kR.eq_5 kR.eq_6 kR.eq_7 kR.eq_8 kR.eq_9 kR.eq_10 ak3.eq_1 ak3.eq_2 eW.eq_1 eW.eq_2 eW.eq_3 eW.eq_4 eW.eq_5 eW.eq_6 eW.eq_7 eW.eq_8 eW.eq_9 eW.eq_10 eW.eq_11 aggO.eq_1 aggO.eq_2 po.eq_1 po.eq_2 po.eq_3 po.eq_4 po.eq_5 po.eq_6 po.eq_7 po.eq_8 po.eq_9 po.eq_10 adi.eq_1 adi.eq_2 aggE.eq_1 aggE.eq_2 od.eq_1 od.eq_2 od.eq_3 od.eq_4 od.eq_5 od.eq_6 od.eq_7 od.eq_8 od.eq_9 od.eq_10 uP.eq_1 uP.eq_2 iq.eq_1 iq.eq_2 iq.eq_3 iq.eq_4 iq.eq_5 iq.eq_6 iq.eq_7 iq.eq_8 iq.eq_9 iq.eq_10 yb.eq_1 yb.eq_2 pz.eq_1 pz.eq_2 pz.eq_3 pz.eq_4 pz.eq_5 pz.eq_6 pz.eq_7 pz.eq_8 pz.eq_9 pz.eq_10 intD.eq_1 intD.eq_2 intD.eq_3 intD.eq_4 intD.eq_5 intD.eq_6 intD.eq_7 intD.eq_8 intD.eq_9 ru.eq_1 ru.eq_2 ru.eq_3 ru.eq_4 ru.eq_5 ru.eq_6 ru.eq_7 ru.eq_8 ru.eq_9 ru.eq_10 yo.eq_1 yo.eq_2 slD.eq_1 slD.eq_2 slD.eq_3 slD.eq_4 slD.eq_5 slD.eq_6 slD.eq_7 slD.eq_8 slD.eq_9 kS.eq_1 kS.eq_2 kS.eq_3 kS.eq_4 kS.eq_5 kS.eq_6 kS.eq_7 kS.eq_8 kS.eq_9 kS.eq_10 arS.eq_1 arS.eq_2 kO.eq_1 kO.eq_2 kO.eq_3 kO.eq_4 kO.eq_5 kO.eq_6 kO.eq_7 kO.eq_8 kO.eq_9 kO.eq_10 iL.eq_1 iL.eq_2 iL.eq_3 iL.eq_4 iL.eq_5 iL.eq_6 iL.eq_7 iL.eq_8 iL.eq_9 iL.eq_10 qk.eq_1 qk.eq_2 qk.eq_3 qk.eq_4 cellOf.eq_1 cellOf.eq_2 cellOf.eq_3 nq.eq_1 nq.eq_2 nq.eq_3 ry.eq_1 ry.eq_2 ry.eq_3 ry.eq_4 ry.eq_5 ry.eq_6 ry.eq_7 ry.eq_8 ry.eq_9 ry.eq_10 jH.eq_1 jH.eq_2 jH.eq_3 jH.eq_4 rj.eq_1 rj.eq_2 rj.eq_3 rj.eq_4 rj.eq_5 rj.eq_6 rj.eq_7 rj.eq_8 rj.eq_9 rj.eq_10 ln.eq_1 ln.eq_2 ln.eq_3 ln.eq_4 ln.eq_5 ln.eq_6 ln.eq_7 ln.eq_8 ln.eq_9 ln.eq_10 unK.eq_1 unK.eq_2 binK.eq_1 binK.eq_2 binK.eq_3 nilD.eq_1 nilD.eq_2 nilD.eq_3 nilD.eq_4 nilD.eq_5 nilD.eq_6 nilD.eq_7 nilD.eq_8 nilD.eq_9 nilD.eq_10 qA.eq_1 qA.eq_2 qA.eq_3 qA.eq_4 qA.eq_5 qA.eq_6 qA.eq_7 qA.eq_8 qA.eq_9 qA.eq_10 mj.eq_1 mj.eq_2 mj.eq_3 mj.eq_4 mj.eq_5 mj.eq_6 mj.eq_7 mj.eq_8 mj.eq_9 iP.eq_1 iP.eq_2 iP.eq_3 iP.eq_4 iP.eq_5 iP.eq_6 iP.eq_7 iP.eq_8 iP.eq_9 iP.eq_10 uO.eq_1 uO.eq_2 adD.eq_1 adD.eq_2 adD.eq_3 ael.eq_1 ael.eq_2 ael.eq_3 ael.eq_4 ael.eq_5 ak7 loadCells.eq_1 loadCells.eq_2 loadAt.eq_1 loadAt.eq_2 loadAt.eq_3 ni adJ.eq_1 adJ.eq_2 uD.eq_1 uD.eq_2 ptrD.eq_1 ptrD.eq_2 ptrD.eq_3 ptrD.eq_4 ptrD.eq_5 ptrD.eq_6 ptrD.eq_7 ptrD.eq_8 ptrD.eq_9 ptrD.eq_10 zi jd.eq_1 jd.eq_2 jd.eq_3 jd.eq_4 jd.eq_5 jd.eq_6 jd.eq_7 jd.eq_8 jd.eq_9 jd.eq_10 vp.eq_1 vp.eq_2 atg.eq_1 atg.eq_2 ajH.eq_1 ajH.eq_2 lj.eq_1 lj.eq_2 lj.eq_3 lj.eq_4 lj.eq_5 lj.eq_6 lj.eq_7 lj.eq_8 lj.eq_9 oK.eq_1 oK.eq_2 oK.eq_3 oK.eq_4 oK.eq_5 oK.eq_6 oK.eq_7 oK.eq_8 oK.eq_9 oK.eq_10 apL auO onSV.eq_1 onSV.eq_2 onSV.eq_3 onSV.eq_4 onSV.eq_5 onSV.eq_6 onSV.eq_7 onSV.eq_8 onSV.eq_9 onSV.eq_10 akt.eq_1 akt.eq_2 xw.eq_1 xw.eq_2 faFd.eq_1 faFd.eq_2 faTD.eq_1 lenD.eq_1 lenD.eq_2 lenD.eq_3 lenD.eq_4 lenD.eq_5 lenD.eq_6 lenD.eq_7 lenD.eq_8 lenD.eq_9 abl.eq_1 abl.eq_2 abu.eq_1 abu.eq_2 acE.eq_1 acE.eq_2 acE.eq_3 ik.eq_1 ik.eq_2 ik.eq_3 ik.eq_4 ik.eq_5 ik.eq_6 ik.eq_7 ik.eq_8 ik.eq_9 ik.eq_10 uc.eq_1 uc.eq_2 wC.eq_1 wC.eq_2 wC.eq_3 aggD.eq_1 aggD.eq_2 aggD.eq_3 aggD.eq_4 aggD.eq_5 aggD.eq_6 aggD.eq_7 aggD.eq_8 aggD.eq_9 ahb.eq_1 ahb.eq_2 strD.eq_1 strD.eq_2 strD.eq_3 strD.eq_4 strD.eq_5 strD.eq_6 strD.eq_7 strD.eq_8 strD.eq_9 strO.eq_1 strO.eq_2 ab8 fdO.eq_1 fdO.eq_2 fTD.eq_1 aq5.eq_1 aq5.eq_2 arF ixAr ixTD.eq_1 ixTD.eq_2 akC.eq_1 akC.eq_2 ass.eq_1 ass.eq_2 alE.eq_1 alE.eq_2 tX.eq_1 tX.eq_2 arq asT.eq_1 asT.eq_2 ac3.eq_1 ac3.eq_2 asW slV.eq_1 auB.eq_1 slTD.eq_1 slTD.eq_2 slTD.eq_3 avj akq.eq_1 akq.eq_2 ap7.eq_1 ap7.eq_2 wm.eq_1 wm.eq_2 wm.eq_3 aoL.eq_1 aoL.eq_2 aoL.eq_3 apTD.eq_1 avT.eq_1 msTD.eq_1 arR.eq_1 arR.eq_2 auq ak2 amk.eq_1 amk.eq_2 adv.eq_1 adv.eq_2 cvTD.eq_1 cvTD.eq_2 cvTD.eq_3 cvTD.eq_4 exSV.eq_1 exSV.eq_2 exSV.eq_3 exSV.eq_4 exSV.eq_5 exSV.eq_6 exSV.eq_7 adf.eq_1 adf.eq_2 adf.eq_3 mapD.eq_1 mapD.eq_2 mapD.eq_3 mapD.eq_4 mapD.eq_5 mapD.eq_6 mapD.eq_7 mapD.eq_8 mapD.eq_9 mapD.eq_10 aqa.eq_1 aqa.eq_2 lkK.eq_1 lkTD.eq_1 atj.eq_1 atj.eq_2 muD.eq_1 muD.eq_2 muD.eq_3 muD.eq_4 muD.eq_5 muD.eq_6 muD.eq_7 muD.eq_8 muD.eq_9 muD.eq_10 muK.eq_1 muTD.eq_1 alD.eq_1 alD.eq_2 alO.eq_1 alO.eq_2 bxO.eq_1 bxO.eq_2 bldO.eq_1 bldO.eq_2 mM.eq_1 mM.eq_2 mM.eq_3 bdO.eq_1 bdO.eq_2 alz.eq_1 alz.eq_2 adQ.eq_1 adQ.eq_2 uJ.eq_1 uJ.eq_2 ahY.eq_1 ahY.eq_2 adP.eq_1 adP.eq_2 arT.eq_1 arT.eq_2 bsTD.eq_1 ar7.eq_1 ar7.eq_2 mmTD.eq_1 amG.eq_1 amG.eq_2 amG.eq_3 akQ.eq_1 akQ.eq_2 acL.eq_1 acL.eq_2 yw.eq_1 yw.eq_2 ais.eq_1 ais.eq_2 ais.eq_3 arY ahE.eq_1 ahE.eq_2 ahE.eq_3 stEl.eq_1 stEl.eq_2 anf.eq_1 anf.eq_2 stSV.eq_1 stSV.eq_2 stSV.eq_3 stSV.eq_4 stSV.eq_5 stSV.eq_6 stSV.eq_7 stSV.eq_8 stSV.eq_9 stSV.eq_10 mnO.eq_1 mnO.eq_2 mnO.eq_3 alP.eq_1 alP.eq_2 adF.eq_1 adF.eq_2
attribute [go_sem] gH.eq_1 gH.eq_2 uq.eq_1 rN.eq_1 rN.eq_2 ac7.eq_1 alJ.eq_1 uM.eq_1 yX ej.eq_1 St.opv.eq_1 St.opv.eq_2 St.opv.eq_3 St.get anC amb apd
 aqX af5 amK anK amp agV tY aom zo zQ rT akR xG anM abB akL akj ako
 St.effs.eq_1 St.effs.eq_2 St.setRoot.eq_1 St.setRoot.eq_2 cJ.eq_1 cJ.eq_2 lit.eq_1 lit.eq_2 lit.eq_3 lit.eq_4 lit.eq_5 lit.eq_6 lit.eq_7 ret jr.eq_1 binD.eq_1 binD.eq_2 unD.eq_1 unD.eq_2 unD.eq_3 zr tc
 aiB.eq_1 aiB.eq_2 SV.fits CV.fits SV.rooted cY entry Option.map_some List.getElem?_map eq_self Bool.false_eq_true List.length_map Option.bind_some
 and_self true_and and_true false_and and_false or_self or_false false_or or_true true_or not_true not_false_eq_true if_true if_false fj isAg DVal.cells List.length_cons List.length_nil List.take_succ_cons List.take_zero List.drop_zero
end Go.Val
namespace Go.Val
variable {C:Ctx} {s:St} {x:Operand}
theorem aui {R:cG} (k:Nat) {ops:Array Oper} {K:St→Prop} {l:List Oper} {s s':St} {o:Oper} {os:List Oper} (hl:l.drop k=o::os) (h:gH C.P ops (l.take k) s=some s') (hk:wpOps C R ops (o::os) K s'):wpOps C R ops l K s:=
 aoz k h (hl ▸ hk)
theorem alW {R:cG} {ops:Array Oper} {K:St→Prop} {l:List Oper} {s':St} (h:gH C.P ops l s=some s') (hk:K s'):wpOps C R ops l K s:=adp h hk
theorem av7 {R:cG} {m:Nat} {Q:Ex→St→Prop} {id:Nat} {ops:Array Oper} {l:List Oper} (hl:ops.toList=l) (h:wpOps C R ops l (Q .normal) s):aK C R m (.region id ops false) Q s:=⟨s,.refl s,hl ▸ h⟩
def akY:Option (DVal×List Eff)→Option (SV×List Eff)
 | some (d,es)=>some (.cv (.val d),es)
 | none=>none
def aq2 (r:Root):Option (TypeId×List DVal)→Option (SV×List Eff)
 | some (k,xs)=>some (.cv (.row k xs),[.kill r])
 | none=>none
def kP (s:St) (x:Operand):SV→Option (SV×List Eff)
 | .cv .nil=>some (.cv .nil,[])
 | .cv (.row k xs)=>some (.cv (.row k xs),[.kill (.slot (jr x))])
 | .alias r=>aq2 r (s.rowAt r)
 | .cv (.val _)=>none
 | .cv .dead=>none
 | .imm _=>none
 | .elt _ _ _=>none
 | .bld _=>none
 | .tup _=>none
 | .undef=>none
theorem aey:argOf s .data x=akY (s.asVal x):=by
 simp only[argOf]
 cases s.asVal x <;> rfl
theorem agA:argOf s .move x=kP s x (s.opv x):=by
 simp only[argOf]
 cases s.opv x with
 | cv c=>cases c <;> rfl
 | alias r=>simp only[kP];cases s.rowAt r <;> rfl
 | _=>rfl
def alA (a:SV) (es:List Eff):Option (List SV×List Eff)→Option (List SV×List Eff)
 | some (as,es')=>some (a::as,es++es')
 | none=>none
def acT (C:Ctx) (f:FuncId) (s:St) (i:Nat) (xs:List Operand):Option (SV×List Eff)→Option (List SV×List Eff)
 | some (a,es)=>alA a es (gy C f (s.effs es) (i+1) xs)
 | none=>none
theorem ad7 {f:FuncId} {i:Nat}:gy C f s i []=some ([],[]):=rfl
theorem abV {f:FuncId} {i:Nat} {xs:List Operand}:gy C f s i (x::xs)=acT C f s i xs (argOf s (C.how f i) x):=by
 simp only[gy]
 cases argOf s (C.how f i) x with
 | none=>rfl
 | some a=>simp only[Option.bind_some,acT];cases gy C f (s.effs a.2) (i+1) xs <;> rfl
def fnD:DVal→Option (FuncId×List DVal×List DVal)
 | .fn f a b=>some (f,a,b)
 | .map _=>none
 | .agg _=>none
 | .ptr _=>none
 | .int _ _=>none
 | .bool _=>none
 | .str _=>none
 | .sl _=>none
 | .nilfn=>none
def fnSV:SV→Option (FuncId×List DVal×List DVal)
 | .cv (.val d)=>fnD d
 | .cv .nil=>none
 | .cv (.row _ _)=>none
 | .cv .dead=>none
 | .alias _=>none
 | .imm _=>none
 | .elt _ _ _=>none
 | .bld _=>none
 | .tup _=>none
 | .undef=>none
theorem aaL {g:FuncId}:callee s (.func g)=some (g,[],[]):=rfl
theorem afh {t:Nat}:callee s (.tmp t)=fnSV (s.get t):=by
 simp only[callee,St.opv]
 cases s.get t with
 | cv c=>
  cases c with
  | val d=>cases d <;> rfl
  | _=>rfl
 | _=>rfl
theorem adY {sl:List (Nat×SV)} {i:Nat} {v:SV}:cJ SV.uncell ((i,v)::sl)=(i,v.uncell)::cJ SV.uncell sl:=rfl
theorem ahI {c:CV}:SV.uncell (.cv c)= .cv c:=rfl
theorem xe:SV.uncell .undef= .undef:=rfl
theorem agM {cs:List DVal}:SV.uncell (.imm cs)= .imm cs:=rfl
theorem afF {cs:List CV}:SV.uncell (.bld cs)= .bld cs:=rfl
theorem agi {ds:List DVal}:SV.uncell (.tup ds)= .tup ds:=rfl
theorem aa1 {i:Nat}:SV.uncell (.alias (.slot i))= .alias (.slot i):=rfl
theorem acr {l i:Nat}:SV.uncell (.alias (.cell l i))= .cv .dead:=rfl
theorem we {i j o:Nat}:SV.uncell (.elt (.slot i) j o)= .elt (.slot i) j o:=rfl
theorem wt {l i j o:Nat}:SV.uncell (.elt (.cell l i) j o)= .cv .dead:=rfl
attribute [go_sem] aey agA ad7 abV aaL afh adY ahI xe agM afF agi aa1 acr we wt
attribute [go_sem] akY.eq_1 akY.eq_2 aq2.eq_1 aq2.eq_2 kP.eq_1 kP.eq_2 kP.eq_3 kP.eq_4 kP.eq_5 kP.eq_6 kP.eq_7 kP.eq_8 kP.eq_9 kP.eq_10 alA.eq_1 alA.eq_2 acT.eq_1 acT.eq_2 fnD.eq_1 fnD.eq_2 fnD.eq_3 fnD.eq_4 fnD.eq_5 fnD.eq_6 fnD.eq_7 fnD.eq_8 fnD.eq_9 fnSV.eq_1 fnSV.eq_2 fnSV.eq_3 fnSV.eq_4 fnSV.eq_5 fnSV.eq_6 fnSV.eq_7 fnSV.eq_8 fnSV.eq_9 fnSV.eq_10 packed.eq_1 packed.eq_2 wx.eq_1 wx.eq_2 sval List.map_cons List.map_nil List.nil_append List.cons_append List.append_nil List.append_assoc
end Go.Val
namespace Go.Val
variable {C:Ctx} {R:cG} {ops:Array Oper} {tab:List (Nat×Nat)}
def qm (s:St) (d:Option Nat):Option Out→Option St
 | some (v,[])=>some (s.put d v)
 | some (_,_::_)=>none
 | none=>none
def yT (P:Program) (s:St) (o:Oper):Option Bool→Option St
 | some true=>qm s o.dst (aop P s o)
 | some false=>some (s.put o.dst .undef)
 | none=>none
def adk (P:Program) (ops:Array Oper) (s:St):Option Oper→Option St
 | some o=>if pass o=true then yT P s o (guardOf ops s o)else none
 | none=>none
mutual
def jZ (P:Program) (ops:Array Oper):List Nat→St→Option St
 | [],s=>some s
 | i::l,s=>pG P ops l (adk P ops s ops[i]?)
def pG (P:Program) (ops:Array Oper):List Nat→Option St→Option St
 | l,some s=>jZ P ops l s
 | _,none=>none
end
theorem wG {P:Program} {i:Nat} {l:List Nat} {s s':St} (h:jZ P ops (i::l) s=some s'):∃ o s1,ops[i]? =some o∧pass o=true∧yT P s o (guardOf ops s o)=some s1∧jZ P ops l s1=some s':=by
 rw[jZ]at h
 cases he:adk P ops s ops[i]? with
 | none=>rw[he,pG]at h;cases h
 | some s1=>
  rw[he,pG]at h
  cases ho:ops[i]? with
  | none=>rw[ho]at he;cases he
  | some o=>
   rw[ho]at he
   simp only[adk]at he
   split at he
   ·rename_i hp;exact ⟨o,s1,rfl,hp,he,h⟩
   ·cases he
theorem xg {K:St→Prop}:∀ {l rest pend:List Nat} {s s':St},jZ C.P ops l s=some s'→cz C R ops tab (l.reverse++pend) rest K s'→cz C R ops tab pend (l++rest) K s
 | [],rest,pend,s,s',h,hk=>by rw[jZ]at h;cases h;simpa using hk
 | i::l,rest,pend,s,s',h,hk=>by
  obtain ⟨o,s1,ho,hp,hg,h1⟩:=wG h
  have ih:=xg (rest:=rest) (pend:=i::pend) h1 (by simpa[List.reverse_cons,List.append_assoc]using hk)
  simp only[List.cons_append,cz]
  refine ⟨o,ho,?_⟩
  simp only[hp]
  cases hb:guardOf ops s o with
  | none=>rw[hb]at hg;simp[yT]at hg
  | some b=>
   rw[hb]at hg
   refine ⟨b,rfl,fun e=>?_,fun e=>?_⟩
   ·subst e
    simp only[yT]at hg
    cases ha:aop C.P s o with
    | none=>rw[ha]at hg;simp[qm]at hg
    | some r=>
     obtain ⟨v,es⟩:=r
     rw[ha]at hg
     cases es with
     | nil=>simp only[qm,Option.some.injEq]at hg;subst hg;exact ⟨v,rfl,ih⟩
     | cons _ _=>simp[qm]at hg
   ·subst e
    simp only[yT,Option.some.injEq]at hg
    subst hg;exact ih
theorem cI {m:Nat} {Q:Ex→St→Prop} {s:St} {id:Nat} (plan:List Nat) (hp:rk ops plan=true) (h:cz C R ops (dh ops plan []) [] plan (Q .normal) s):aK C R m (.region id ops true) Q s:=⟨s,plan,.refl s,.inl ⟨hp,h⟩⟩
theorem awN {m:Nat} {Q:Ex→St→Prop} {s:St} {id:Nat} (A:List Nat) (x y:Nat) (B:List Nat) (ht:uE ops A x y B=true) (h1:cz C R ops (dh ops (A++x::y::B) []) [] (A++x::y::B) (Q .normal) s) (h2:cz C R ops (dh ops (A++y::x::B) []) [] (A++y::x::B) (Q .normal) s):aK C R m (.region id ops true) Q s:=⟨s,A++x::y::B,.refl s,.inr ⟨A,x,y,B,rfl,ht,h1,h2⟩⟩
end Go.Val
namespace Go.Val
theorem al5 {P:Program} {op:BinOp} {t:TypeId} {a b:Bool}:binD P op t (.bool a) (.bool b)=gR P op t (.bool a) (.bool b):=rfl
theorem aoM {P:Program} {op:BinOp} {t:TypeId} {a b:Option (Nat×Nat)}:binD P op t (.ptr a) (.ptr b)=gR P op t (.ptr a) (.ptr b):=rfl
theorem aog {P:Program} {op:BinOp} {t:TypeId} {a b:List DVal}:binD P op t (.agg a) (.agg b)=gR P op t (.agg a) (.agg b):=rfl
theorem ahX {a b:ByteArray}:(a.toList==b.toList)=decide (a=b):=by
 rw[← beq_toListBytes]
 cases h:a==b with
 | true=>have:=at8 h;subst this;simp
 | false=>
  have:a≠b:=fun e=>by subst e;rw[aiq]at h;cases h
  simp[this]
attribute [go_sem] adB pJ al5 aoM aog
end Go.Val
namespace Go.Val
def Heap.on (h:Heap) (os:List (Option BObj)):Heap:=⟨h.n+os.length,fun i=>if i < h.n then h.at_ i else (os[i - h.n]?).join⟩
theorem Heap.ext {h h':Heap} (hn:h.n=h'.n) (ha:∀ i,h.at_ i=h'.at_ i):h=h':=by
 cases h;cases h';simp only at hn ha;subst hn;simp only[Heap.mk.injEq,true_and];exact funext ha
theorem aN {h:Heap} (hwf:h.WF):h.on []=h:=by
 refine Heap.ext rfl fun i=>?_
 simp only[Heap.on]
 split
 ·rfl
 ·cases hi:h.at_ i with
  | none=>rfl
  | some o=>exact absurd (hwf i o hi).1 (by assumption)
theorem aua {h:Heap} {os:List (Option BObj)} {o:BObj}:(h.on os).new o=h.on (os++[some o]):=by
 refine Heap.ext (by simp[Heap.on,Heap.new,Nat.add_assoc]) fun i=>?_
 show (if i=h.n+os.length then some o else (if i < h.n then h.at_ i else (os[i - h.n]?).join))=(if i < h.n then h.at_ i else ((os++[some o])[i - h.n]?).join)
 by_cases h1:i < h.n
 ·rw[if_neg (by omega),if_pos h1,if_pos h1]
 ·by_cases h2:i=h.n+os.length
  ·subst h2;rw[if_pos rfl,if_neg h1];simp
  ·rw[if_neg h2,if_neg h1,if_neg h1]
   by_cases h3:i - h.n < os.length
   ·rw[List.getElem?_append_left h3]
   ·rw[List.getElem?_eq_none (by omega),List.getElem?_eq_none (by simp;omega)]
theorem yy {h:Heap} {os os':List (Option BObj)}:(h.on os).on os'=h.on (os++os'):=by
 refine Heap.ext (by simp[Heap.on,Nat.add_assoc]) fun i=>?_
 show (if i < h.n+os.length then (if i < h.n then h.at_ i else (os[i - h.n]?).join)else (os'[i - (h.n+os.length)]?).join)=(if i < h.n then h.at_ i else ((os++os')[i - h.n]?).join)
 by_cases h1:i < h.n
 ·rw[if_pos (by omega),if_pos h1,if_pos h1]
 ·by_cases h2:i < h.n+os.length
  ·rw[if_pos h2,if_neg h1,if_neg h1,List.getElem?_append_left (by omega)]
  ·rw[if_neg h2,if_neg h1,List.getElem?_append_right (by omega)]
   congr 2;omega
theorem aox {h:Heap} {os:List (Option BObj)} {k:Nat}:(h.on os).at_ (h.n+k)=(os[k]?).join:=by
 simp only[Heap.on];rw[if_neg (by omega)];congr 2;omega
theorem dS {h:Heap} {os:List (Option BObj)} {l:Nat} (hl:l < h.n):(h.on os).at_ l=h.at_ l:=by simp only[Heap.on];rw[if_pos hl]
theorem gI {h:Heap} {os:List (Option BObj)} {k:Nat} {o:BObj} (hk:k < os.length):(h.on os).upd (h.n+k) o=h.on (os.set k (some o)):=by
 refine Heap.ext (by simp[Heap.on,Heap.upd]) fun i=>?_
 show (if i=h.n+k then some o else (if i < h.n then h.at_ i else (os[i - h.n]?).join))=(if i < h.n then h.at_ i else ((os.set k (some o))[i - h.n]?).join)
 by_cases h1:i < h.n
 ·rw[if_neg (by omega),if_pos h1,if_pos h1]
 ·rw[if_neg h1,if_neg h1,List.getElem?_set]
  by_cases h2:i=h.n+k
  ·subst h2;rw[if_pos rfl,if_pos (by omega),if_pos (by omega)];rfl
  ·rw[if_neg h2,if_neg (by omega)]
theorem uR {h:Heap} {a:Option BObj} {os:List (Option BObj)} {o:BObj}:(h.on (a::os)).upd (h.n+0) o=h.on (some o::os):=gI (by simp)
theorem tB {h:Heap} {a b:Option BObj} {os:List (Option BObj)} {o:BObj}:(h.on (a::b::os)).upd (h.n+1) o=h.on (a::some o::os):=gI (by simp)
theorem ue {h:Heap} {a b c:Option BObj} {os:List (Option BObj)} {o:BObj}:(h.on (a::b::c::os)).upd (h.n+2) o=h.on (a::b::some o::os):=gI (by simp)
theorem tE {h:Heap} {a b c d:Option BObj} {os:List (Option BObj)} {o:BObj}:(h.on (a::b::c::d::os)).upd (h.n+3) o=h.on (a::b::c::some o::os):=gI (by simp)
theorem tH {h:Heap} {a b c d e:Option BObj} {os:List (Option BObj)} {o:BObj}:(h.on (a::b::c::d::e::os)).upd (h.n+4) o=h.on (a::b::c::d::some o::os):=gI (by simp)
theorem va {h:Heap} {a b c d e f:Option BObj} {os:List (Option BObj)} {o:BObj}:(h.on (a::b::c::d::e::f::os)).upd (h.n+5) o=h.on (a::b::c::d::e::some o::os):=gI (by simp)
theorem uz {h:Heap} {a b c d e f g:Option BObj} {os:List (Option BObj)} {o:BObj}:(h.on (a::b::c::d::e::f::g::os)).upd (h.n+6) o=h.on (a::b::c::d::e::f::some o::os):=gI (by simp)
theorem tC {h:Heap} {a b c d e f g z:Option BObj} {os:List (Option BObj)} {o:BObj}:(h.on (a::b::c::d::e::f::g::z::os)).upd (h.n+7) o=h.on (a::b::c::d::e::f::g::some o::os):=gI (by simp)
theorem eZ {h:Heap} {os:List (Option BObj)} {l:Nat} {o:BObj} (hl:l < h.n):(h.on os).upd l o=(h.upd l o).on os:=by
 refine Heap.ext rfl fun i=>?_
 show (if i=l then some o else (if i < h.n then h.at_ i else (os[i - h.n]?).join))=(if i < h.n then (if i=l then some o else h.at_ i)else (os[i - h.n]?).join)
 by_cases h1:i=l
 ·subst h1;rw[if_pos rfl,if_pos hl,if_pos rfl]
 ·rw[if_neg h1]
  by_cases h2:i < h.n
  ·rw[if_pos h2,if_pos h2,if_neg h1]
  ·rw[if_neg h2,if_neg h2]
theorem awA {h:Heap} {l:Nat} {o:BObj}:(h.upd l o).n=h.n:=rfl
theorem aub {h:Heap} {l:Nat} {o:BObj}:(h.upd l o).at_ l=some o:=by simp[Heap.upd]
theorem oO {h:Heap} {l l':Nat} {o:BObj} (hne:l'≠l):(h.upd l o).at_ l'=h.at_ l':=by simp[Heap.upd,hne]
theorem aq0 {h:Heap} {l:Nat} {o o':BObj}:(h.upd l o).upd l o'=h.upd l o':=Heap.ext rfl fun i=>by simp only[Heap.upd];split <;> rfl
theorem ef {h:Heap} {l:Nat} {o:BObj} (ha:h.at_ l=some o):h.upd l o=h:=Heap.ext rfl fun i=>by
 simp only[Heap.upd];split
 ·rename_i e;rw[e,ha]
 ·rfl
theorem WF.upd {h:Heap} {l:Nat} {o:BObj} (hwf:h.WF) (hl:l < h.n) (ho:o.under h.n):(h.upd l o).WF:=fun i o' hi=>by
 simp only[Heap.upd]at hi
 split at hi
 ·rename_i e;cases hi;subst e;exact ⟨hl,ho⟩
 ·exact hwf i o' hi
theorem awS {h:Heap}:(h.on []).n=h.n+0:=rfl
theorem awn {h:Heap} {a:Option BObj}:(h.on [a]).n=h.n+1:=rfl
theorem awz {h:Heap} {a b:Option BObj}:(h.on [a,b]).n=h.n+2:=rfl
theorem awk {h:Heap} {a b c:Option BObj}:(h.on [a,b,c]).n=h.n+3:=rfl
theorem awM {h:Heap} {a b c d:Option BObj}:(h.on [a,b,c,d]).n=h.n+4:=rfl
theorem awI {h:Heap} {a b c d e:Option BObj}:(h.on [a,b,c,d,e]).n=h.n+5:=rfl
theorem av8 {h:Heap} {a b c d e f:Option BObj}:(h.on [a,b,c,d,e,f]).n=h.n+6:=rfl
theorem awo {h:Heap} {a b c d e f g:Option BObj}:(h.on [a,b,c,d,e,f,g]).n=h.n+7:=rfl
theorem awq {h:Heap} {a b c d e f g z:Option BObj}:(h.on [a,b,c,d,e,f,g,z]).n=h.n+8:=rfl
theorem join_some {o:BObj}:Option.join (some (some o))=some o:=rfl
def cutO (N:Nat):List (Option BObj)→List (Option BObj)→Prop
 | _,[]=>True
 | _::os,none::os'=>cutO N os os'
 | some o::os,some o'::os'=>o.fits o'∧o'.under N∧cutO N os os'
 | _,_=>False
theorem aoJ {N:Nat} {os:List (Option BObj)}:cutO N os []=True:=by cases os <;> rfl
def iM (H H':Heap):SV→Prop
 | .alias (.cell l i)=>H'.cell l i=H.cell l i
 | .elt (.cell l i) _ _=>H'.cell l i=H.cell l i
 | _=>True
def cutS (s:St) (H:Heap) (N:Nat) (sl0:List (Nat×SV)):List (Nat×SV)→Prop
 | []=>True
 | (i,v)::sl=>((s.get i).fits v∧v.rooted ⟨sl0,H⟩∧v.under N∧iM s.box H v)∧cutS s H N sl0 sl
theorem uk {s:St} {H:Heap} {N:Nat} {sl0:List (Nat×SV)}:∀ {sl:List (Nat×SV)},cutS s H N sl0 sl→∀ p∈sl,(s.get p.1).fits p.2∧p.2.rooted ⟨sl0,H⟩∧p.2.under N∧iM s.box H p.2
 | [],_,p,hp=>by cases hp
 | (i,v)::sl,hw,p,hp=>by
  rcases List.mem_cons.1 hp with rfl | hp
  ·exact hw.1
  ·exact uk hw.2 p hp
theorem qT {n n':Nat} (hn:n≤n'):∀ {xs:List DVal},bv n xs→bv n' xs:=by
 have key:∀ (d:DVal),d.under n→d.under n':=by
  intro d
  apply DVal.rec (motive_1:=fun d=>d.under n→d.under n') (motive_2:=fun ds=>bv n ds→bv n' ds)
  ·intros;trivial
  ·intros;trivial
  ·intros;trivial
  ·intro xs ih h;exact ih h
  ·intro xs ih h;exact ih h
  ·intro a h;cases a with
   | none=>trivial
   | some a=>exact Nat.lt_of_lt_of_le h hn
  ·intro a h;cases a with
   | none=>trivial
   | some a=>exact Nat.lt_of_lt_of_le h hn
  ·intro f a b iha ihb h;exact ⟨iha h.1,ihb h.2⟩
  ·intros;trivial
  ·intros;trivial
  ·intro d ds ihd ihds h;exact ⟨ihd h.1,ihds h.2⟩
 intro xs
 induction xs with
 | nil=>intro h;trivial
 | cons x xs ih=>intro h;exact ⟨key x h.1,ih h.2⟩
theorem uw {n n':Nat} (hn:n≤n') {d:DVal} (h:d.under n):d.under n':=(qT hn (xs:=[d]) ⟨h,trivial⟩).1
theorem ahW {n n':Nat} (hn:n≤n') {c:CV} (h:c.under n):c.under n':=by
 cases c with
 | val d=>exact uw hn h
 | row k xs=>exact qT hn h
 | _=>trivial
theorem vF {n n':Nat} (hn:n≤n') {o:BObj} (h:o.under n):o.under n':=by
 cases o with
 | cells cs=>
  have:∀ {cs:List CV},eR n cs→eR n' cs:=by
   intro cs
   induction cs with
   | nil=>intro _;trivial
   | cons c cs ih=>intro h;exact ⟨ahW hn h.1,ih h.2⟩
  exact this h
 | map kt es=>
  have:∀ {es:List (DVal×DVal)},js n es→js n' es:=by
   intro es
   induction es with
   | nil=>intro _;trivial
   | cons c cs ih=>intro h;exact ⟨⟨uw hn h.1.1,uw hn h.1.2⟩,ih h.2⟩
  exact this h
theorem sM (o:BObj):o.fits o:=by
 cases o with
 | cells cs=>
  show CV.fitsL cs cs
  induction cs with
  | nil=>trivial
  | cons c cs ih=>exact ⟨by cases c with
   | val d=>cases d <;> rfl
   | _=>first | rfl | trivial,ih⟩
 | map kt es=>rfl
theorem pA {N:Nat}:∀ {os os':List (Option BObj)},cutO N os os'→∀ (k:Nat) (o':BObj),os'[k]? =some (some o')→∃ o,os[k]? =some (some o)∧o.fits o'∧o'.under N
 | _,[],_,k,o',h=>by simp at h
 | _::os,none::os',hc,k,o',h=>by
  cases k with
  | zero=>simp at h
  | succ k=>simpa using pA (os:=os) (os':=os') hc k o' (by simpa using h)
 | some o::os,some p::os',hc,k,o',h=>by
  cases k with
  | zero=>simp at h;subst h;exact ⟨o,rfl,hc.1,hc.2.1⟩
  | succ k=>simpa using pA (os:=os) (os':=os') hc.2.2 k o' (by simpa using h)
 | [],none::_,hc,_,_,_=>by simp[cutO]at hc
 | [],some _::_,hc,_,_,_=>by simp[cutO]at hc
 | none::_,some _::_,hc,_,_,_=>by simp[cutO]at hc
theorem pR {N:Nat}:∀ {os os':List (Option BObj)},cutO N os os'→os'.length≤os.length
 | _,[],_=>by simp
 | _::os,none::os',hc=>by simpa using pR (os:=os) (os':=os') hc
 | some o::os,some p::os',hc=>by simpa using pR (os:=os) (os':=os') hc.2.2
 | [],none::_,hc=>by simp[cutO]at hc
 | [],some _::_,hc=>by simp[cutO]at hc
 | none::_,some _::_,hc=>by simp[cutO]at hc
theorem To.cut {m:Nat} {s:St} {h:Heap} {os os':List (Option BObj)} {sl:List (Nat×SV)} (hwf:h.WF) (hm:m≤h.n) (hb:s.box=h.on os)
  (hc:cutO (h.on os').n os os'∧cutS s (h.on os') (h.on os').n sl sl):St.To m s ⟨sl,h.on os'⟩:=by
 refine .shrink s _ _ ⟨?_,?_,fun l o' ho'=>?_,fun p hp=>?_,fun p hp=>?_⟩ (.refl _)
 ·show m≤h.n+os'.length;omega
 ·rw[hb];show h.n+os'.length≤h.n+os.length
  have:=pR hc.1;omega
 ·rw[hb]
  simp only[Heap.on]at ho' ⊢
  by_cases h1:l < h.n
  ·rw[if_pos h1]at ho' ⊢
   have:=hwf l o' ho'
   exact ⟨by omega,vF (by omega) this.2,o',ho',sM o'⟩
  ·rw[if_neg h1]at ho' ⊢
   cases hj:os'[l - h.n]? with
   | none=>rw[hj]at ho';simp at ho'
   | some x=>
    rw[hj]at ho'
    simp only[Option.join_some]at ho'
    subst ho'
    obtain ⟨o,g1,g2,g3⟩:=pA hc.1 _ _ hj
    have:l - h.n < os'.length:=(List.getElem?_eq_some_iff.1 hj).1
    exact ⟨by omega,g3,o,by rw[g1];rfl,g2⟩
 ·have:=uk hc.2 p hp
  exact ⟨this.1,this.2.1,this.2.2.1⟩
 ·have:=(uk hc.2 p hp).2.2.2
  unfold iM at this
  split at this <;> simp_all
class Enc {α:Type} (e:α→DVal) (k:outParam Nat):Prop where
 cells:∀ x,(e x).cells.length=k
 under:∀ n x,(e x).under n
theorem aj5 {α:Type} {e:α→DVal} {k:Nat} [Enc e k] {xs:List α}:dj k (xs.map e)=true:=by
 simp only[dj,List.all_map,List.all_eq_true]
 intro x _
 simp[Enc.cells]
theorem de {α:Type} {e:α→DVal} {k n:Nat} [Enc e k] {xs:List α}:bv n (xs.map e)=True:=by
 refine eq_true ?_
 induction xs with
 | nil=>trivial
 | cons x xs ih=>exact ⟨Enc.under n x,ih⟩
theorem ta {α β:Type} {e:α→DVal} {d:β→DVal} {k k' n:Nat} [Enc e k] [Enc d k'] {xs:List (α×β)}:js n (xs.map fun p=>(e p.1,d p.2))=True:=by
 refine eq_true ?_
 induction xs with
 | nil=>trivial
 | cons x xs ih=>exact ⟨⟨Enc.under n x.1,Enc.under n x.2⟩,ih⟩
abbrev Str:=List UInt8
def bs (s:Str):ByteArray:=⟨s.toArray⟩
def eI (n:Int):DVal:=.int .i64 n
def eB (b:Bool):DVal:=.bool b
def eU (b:UInt8):DVal:=.int .u8 b.toNat
def eS (s:Str):DVal:=.str (bs s)
def eL {α:Type} (e:α→DVal) (xs:List α):DVal:=.sl (xs.map e)
instance:Enc eI 1:=⟨fun _=>rfl,fun _ _=>trivial⟩
instance:Enc eB 1:=⟨fun _=>rfl,fun _ _=>trivial⟩
instance:Enc eU 1:=⟨fun _=>rfl,fun _ _=>trivial⟩
instance:Enc eS 1:=⟨fun _=>rfl,fun _ _=>trivial⟩
instance {α:Type} {e:α→DVal} {k:Nat} [Enc e k]:Enc (eL e) 1:=⟨fun _=>rfl,fun n x=>by
 show bv n (x.map e)
 rw[de];trivial⟩
theorem awt {l:List UInt8}:ByteArray.mk l.toArray=bs l:=rfl
theorem aqg {s:Str}:(bs s).size=s.length:=by simp[bs,ByteArray.size]
theorem aiF {s:Str}:(bs s).data.toList=s:=by simp[bs]
theorem auQ {s t:Str}:bs s++bs t=bs (s++t):=by
 apply ByteArray.ext;simp[bs,ByteArray.data_append]
theorem apE {s t:Str}:(bs s=bs t)=(s=t):=by
 apply propext;constructor
 ·intro h;have:=congrArg (fun b=>b.data.toList) h;simpa[bs]using this
 ·intro h;rw[h]
theorem avs {s:Str} {l h:Nat}:(bs s).extract l h=bs ((s.take h).drop l):=by
 apply ByteArray.ext
 simp only[bs,ByteArray.data_extract]
 apply Array.ext'
 simp[List.drop_take]
theorem ajj {s:Str}:(bs s).toList=s:=by
 rw[ByteArray.toList_eq,aiF]
def idx {α:Type} (xs:List α) (i:Int):Option α:=if i < 0 then none else xs[i.toNat]?
theorem Holds.idx {α β:Type} {xs:List α} {i:Int} {k:α→Option β} {D:β→Prop} (h:Holds ((idx xs i).bind k) D):∃ x,(i < 0)=False∧xs[i.toNat]? =some x∧(i.toNat < xs.length)=True∧Holds (k x) D:=by
 obtain ⟨x,h1,h2⟩:=h.bind
 unfold Val.idx at h1
 split at h1
 ·cases h1
 ·rename_i hn
  exact ⟨x,eq_false hn,h1,eq_true (List.getElem?_eq_some_iff.1 h1).1,h2⟩
def cut {α:Type} (xs:List α) (lo hi:Int):Option (List α):=if 0≤hi∧hi≤(xs.length:Int)∧0≤lo∧lo≤(hi.toNat:Int)then some ((xs.take hi.toNat).drop lo.toNat)else none
def cutL {α:Type} (xs:List α) (lo:Int):Option (List α):=if 0≤lo∧lo≤(xs.length:Int)then some (xs.drop lo.toNat)else none
def cutH {α:Type} (xs:List α) (hi:Int):Option (List α):=if 0≤hi∧hi≤(xs.length:Int)then some (xs.take hi.toNat)else none
theorem Holds.cut {α β:Type} {xs:List α} {lo hi:Int} {k:List α→Option β} {D:β→Prop} (h:Holds ((cut xs lo hi).bind k) D):
  (0≤hi)=True∧(hi≤(xs.length:Int))=True∧(0≤lo)=True∧(lo≤(hi.toNat:Int))=True∧Holds (k ((xs.take hi.toNat).drop lo.toNat)) D:=by
 unfold Val.cut at h
 split at h
 ·rename_i hc;exact ⟨eq_true hc.1,eq_true hc.2.1,eq_true hc.2.2.1,eq_true hc.2.2.2,h⟩
 ·exact h.elim
theorem Holds.cutL {α β:Type} {xs:List α} {lo:Int} {k:List α→Option β} {D:β→Prop} (h:Holds ((cutL xs lo).bind k) D):
  (0≤lo)=True∧(lo≤(xs.length:Int))=True∧Holds (k (xs.drop lo.toNat)) D:=by
 unfold Val.cutL at h
 split at h
 ·rename_i hc;exact ⟨eq_true hc.1,eq_true hc.2,h⟩
 ·exact h.elim
theorem Holds.cutH {α β:Type} {xs:List α} {hi:Int} {k:List α→Option β} {D:β→Prop} (h:Holds ((cutH xs hi).bind k) D):
  (0≤hi)=True∧(hi≤(xs.length:Int))=True∧Holds (k (xs.take hi.toNat)) D:=by
 unfold Val.cutH at h
 split at h
 ·rename_i hc;exact ⟨eq_true hc.1,eq_true hc.2,h⟩
 ·exact h.elim
def app {α:Type} (sz:Nat) (xs ys:List α):Option (List α):=if (xs.length+ys.length)*sz≤dn then some (xs++ys)else none
theorem Holds.app {α β:Type} {sz:Nat} {xs ys:List α} {k:List α→Option β} {D:β→Prop} (h:Holds ((app sz xs ys).bind k) D):
  ((xs.length+ys.length)*sz≤dn)=True∧Holds (k (xs++ys)) D:=by
 unfold Val.app at h
 split at h
 ·rename_i hc;exact ⟨eq_true hc,h⟩
 ·exact h.elim
def cat (s t:Str):Option Str:=if ((s.length+t.length:Nat):Int) > IntKind.i64.max then none else some (s++t)
theorem Holds.cat {β:Type} {s t:Str} {k:Str→Option β} {D:β→Prop} (h:Holds ((cat s t).bind k) D):
  (((s.length+t.length:Nat):Int) > IntKind.i64.max)=False∧Holds (k (s++t)) D:=by
 unfold Val.cat at h
 split at h
 ·exact h.elim
 ·rename_i hc;exact ⟨eq_false hc,h⟩
def mk {α:Type} (sz:Nat) (z:α) (n:Int):Option (List α):=if 0≤n∧n.toNat*sz≤dn then some (List.replicate n.toNat z)else none
theorem Holds.mk {α β:Type} {sz:Nat} {z:α} {n:Int} {k:List α→Option β} {D:β→Prop} (h:Holds ((mk sz z n).bind k) D):
  (0≤n)=True∧(n.toNat*sz≤dn)=True∧Holds (k (List.replicate n.toNat z)) D:=by
 unfold Val.mk at h
 split at h
 ·rename_i hc;exact ⟨eq_true hc.1,eq_true hc.2,h⟩
 ·exact h.elim
theorem Holds.ite {α:Type} {b:Bool} {A B:Option α} {D:α→Prop} (h:Holds (if b=true then A else B) D):(b=true∧Holds A D)∨(b=false∧Holds B D):=by
 cases b with
 | true=>exact .inl ⟨rfl,h⟩
 | false=>exact .inr ⟨rfl,h⟩
def u8 (n:Int):UInt8:=UInt8.ofNat n.toNat
theorem ahU {n:Int}:((u8 (IntKind.u8.wrap n)).toNat:Int)=IntKind.u8.wrap n:=by
 have h:IntKind.u8.wrap n=n%256:=by simp[IntKind.wrap,IntKind.signed,IntKind.bits]
 rw[h]
 simp only[u8,UInt8.toNat_ofNat']
 omega
end Go.Val
namespace Go.Val
section
variable {C:Ctx} {R:cG} {m:Nat} {Q:Ex→St→Prop} {K:St→Prop} {s s1:St}
theorem w_k (h:K s):Ex.then K Q .normal s:=h
theorem w_n (h:K s):Ex.then (fun s=>∃ s1,St.To m s s1∧K s1) Q .normal s:=⟨s,.refl s,h⟩
theorem w_te {i:Nat} (h:Q (.exit i) s):Ex.then K Q (.exit i) s:=h
theorem w_tr (h:Q .ret s):Ex.then K Q .ret s:=h
theorem w_bn {id:Nat} (h:Q .normal s):Ex.inBlock id Q .normal s:=h
theorem w_bx {id:Nat} (h:Q .normal s):Ex.inBlock id Q (.exit id) s:=by simp only[Ex.inBlock,if_true];exact h
theorem w_br {id:Nat} (h:Q .ret s):Ex.inBlock id Q .ret s:=h
theorem atD {sj:St} {a b:Code} (ha:aK C R m a (Ex.then (fun s'=>St.To m s' sj) fun _ _=>False) s) (hR:R.Le R) (hk:aK C R m b Q sj):aK C R m (.seq a b) Q s:=
 dC hR a (fun e s h=>by cases e with
  | normal=>exact ⟨sj,h,hk⟩
  | _=>exact h.elim) s ha
theorem cn {sj:St} {a b:Code} (ha:aK C (Runs C) m a (Ex.then (fun s'=>St.To m s' sj) fun _ _=>False) s) (hk:aK C (Runs C) m b Q sj):aK C (Runs C) m (.seq a b) Q s:=atD ha (cG.Le.refl_runs C) hk
theorem vD {f:FuncId} {fn:Func} {P:List SV→Heap→Prop} {out:List SV} {h':Heap} (ht:St.To m s s1) (hres:results C f s1 fn.results.toList=some (out,h')) (hq:P out h'):atEnd C m f fn P .ret s:=⟨s1,ht,out,h',hres,h',.inl rfl,hq⟩
theorem au2 {f:FuncId} {fn:Func} {P:List SV→Heap→Prop} {out:List SV} {h':Heap} (ht:St.To m s s1) (hres:results C f s1 fn.results.toList=some (out,h')) (hq:P out h'):atEnd C m f fn P .normal s:=⟨s1,ht,out,h',hres,h',.inl rfl,hq⟩
def sW (n:Nat):List SV→Prop
 | []=>True
 | v::vs=>v.under n∧sW n vs
theorem sN {n:Nat}:∀ {vs:List SV},sW n vs→∀ v∈vs,v.under n
 | [],_,v,hv=>by cases hv
 | u::us,h,v,hv=>by
  rcases List.mem_cons.1 hv with rfl | hv
  ·exact h.1
  ·exact sN h.2 v hv
theorem Drops.on {h:Heap} {os os':List (Option BObj)} {out:List SV} (hwf:h.WF) (hm:m≤h.n) (hc:cutO (h.on os').n os os'∧sW (h.on os').n out):Heap.Drops m (h.on os) (h.on os') out:=by
 have hlen:=pR hc.1
 refine ⟨by show m≤h.n+os'.length;omega,by show h.n+os'.length≤h.n+os.length;omega,fun l o' ho'=>?_,sN hc.2⟩
 simp only[Heap.on]at ho' ⊢
 by_cases h1:l < h.n
 ·rw[if_pos h1]at ho' ⊢
  have:=hwf l o' ho'
  exact ⟨by omega,vF (by omega) this.2,o',ho',sM o'⟩
 ·rw[if_neg h1]at ho' ⊢
  cases hj:os'[l - h.n]? with
  | none=>rw[hj]at ho';simp at ho'
  | some x=>
   rw[hj]at ho'
   simp only[Option.join_some]at ho'
   subst ho'
   obtain ⟨o,g1,g2,g3⟩:=pA hc.1 _ _ hj
   have:l - h.n < os'.length:=(List.getElem?_eq_some_iff.1 hj).1
   exact ⟨by omega,g3,o,by rw[g1];rfl,g2⟩
theorem eQ {f:FuncId} {fn:Func} {P:List SV→Heap→Prop} {out:List SV} {h' h'':Heap} (ht:St.To m s s1) (hres:results C f s1 fn.results.toList=some (out,h')) (hd:Heap.Drops m h' h'' out) (hq:P out h''):atEnd C m f fn P .ret s:=⟨s1,ht,out,h',hres,h'',.inr hd,hq⟩
end
theorem dd {C:Ctx} {R:cG} {ops:Array Oper} {K:St→Prop} {s:St} (h:K s):wpOps C R ops [] K s:=h
def room (sz n:Nat):Option Unit:=if n*sz≤dn then some ()else none
theorem Holds.room {β:Type} {sz n:Nat} {k:Unit→Option β} {D:β→Prop} (h:Holds ((room sz n).bind k) D):(n*sz≤dn)=True∧Holds (k ()) D:=by
 unfold Val.room at h
 split at h
 ·rename_i hc;exact ⟨eq_true hc,h⟩
 ·exact h.elim
theorem Holds.map {α β:Type} {o:Option α} {f:α→β} {D:β→Prop} (h:Holds (o.map f) D):Holds o fun a=>D (f a):=by
 cases o with
 | none=>exact h.elim
 | some a=>exact h
theorem Runs.start {C:Ctx} {f:FuncId} {args:List SV} {h:Heap} {Q:List SV→Heap→Prop} (fn:Func) (code:Code) (hf:C.P.funcs[f]? =some fn) (hb:fn.body=some code) (hl:args.length≤fn.ntmps) (hin:within fn.ntmps code=true) (hname:(fn.name== "runtime.NumGoroutine")=false)
  (hw:h.WF→(∀ v∈args,v.under h.n)→aK C (Runs C) h.n code (atEnd C h.n f fn Q) ⟨entry 0 args,h.on []⟩):Runs C f args h Q:=
 Runs.intro fn code hf hb hl hin hname fun hwf hu=>by have:=hw hwf hu;rwa[aN hwf]at this
section
variable {C:Ctx} {s:St}
theorem apZ {ops:Array Oper} {os:List Oper} {K:St→Prop} {dst:Option Tmp} {ty:TypeId} {pos:String} {after:Array Edge} {f:Operand} {args:Array Operand} {ts:Array TypeId} {gd:Option (Nat×Bool)}
  {g:FuncId} {fs cs:List DVal} {as:List SV} {es:List Eff} {s1:St} {out:List SV} {hp:Heap} (h0:guardOf ops s ⟨dst,.call ⟨.value f,args,ts⟩,ty,pos,after,gd⟩=some true) (h1:callee s f=some (g,fs,cs)) (h2:gy C g s fs.length args.toList=some (as,es)) (h3:s.effs es=s1)
  (h4:Runs C g (sval fs++as++sval cs) s1.box fun o h'=>o=out∧h'=hp) (h5:(packed out).isSome=true) (hk:wpOps C (Runs C) ops os K (St.put ⟨cJ SV.uncell s1.slots,hp⟩ dst ((packed out).getD .undef))):
  wpOps C (Runs C) ops (⟨dst,.call ⟨.value f,args,ts⟩,ty,pos,after,gd⟩::os) K s:=by
 subst h3
 refine ⟨true,h0,fun _=>.inr ⟨g,fs,cs,as,es,h1,h2,fun _=>h4.mono fun o h' ⟨e1,e2⟩=>?_⟩,fun e=>by cases e⟩
 subst e1;subst e2
 cases hpk:packed o with
 | none=>rw[hpk]at h5;cases h5
 | some v=>exact ⟨v,rfl,by rw[hpk]at hk;exact hk⟩
theorem alf {R:cG} {ops:Array Oper} {os:List Oper} {K:St→Prop} {dst:Option Tmp} {ty:TypeId} {pos:String} {after:Array Edge} {f x:Operand} {xs:List Operand} {args:Array Operand} {ts:Array TypeId} {gd:Option (Nat×Bool)}
  {g:FuncId} {r:Root} {k:Nat} {zs ds ys:List DVal} (h0:guardOf ops s ⟨dst,.call ⟨.value f,args,ts⟩,ty,pos,after,gd⟩=some true) (h1:callee s f=some (g,[],[])) (h2:args.toList=x::xs) (h3:rootOf s x=some r) (h4:s.rowAt r=some (k,zs))
  (h5:optVals s xs=some ds) (h6:ds.all DVal.one=true) (h7:C.ext g ds k zs=some ys) (hk:wpOps C R ops os K ((s.eff (.setRow r k ys)).put dst .undef)):
  wpOps C R ops (⟨dst,.call ⟨.value f,args,ts⟩,ty,pos,after,gd⟩::os) K s:=
 ⟨true,h0,fun _=>.inl (.inr ⟨g,x,xs,r,k,zs,ds,ys,h1,h2,h3,h4,h5,h6,h7,hk⟩),fun e=>by cases e⟩
theorem aws {R:cG} {ops:Array Oper} {os:List Oper} {K:St→Prop} {o:Oper} (h0:guardOf ops s o=some false) (hk:wpOps C R ops os K (s.put o.dst .undef)):wpOps C R ops (o::os) K s:=
 ⟨false,h0,fun e=>(by cases e),fun _=>hk⟩
end
def auF (P:Program) (s:St) (o:Oper) (d:Nat):Option Bool→Prop
 | some true=>aop P s o=some (s.get d,[])
 | some false=>s.get d= .undef
 | none=>False
def arI (P:Program) (ops:Array Oper) (s:St) (o:Oper):Option Nat→Prop
 | some d=>auF P s o d (guardOf ops s o)
 | none=>False
def aqR (P:Program) (ops:Array Oper) (s:St):Option Oper→Prop
 | some o=>arI P ops s o o.dst
 | none=>False
def mg (P:Program) (ops:Array Oper) (s:St):List Nat→Prop
 | []=>True
 | p::ps=>aqR P ops s ops[p]? ∧mg P ops s ps
theorem jW {P:Program} {ops:Array Oper} {s:St}:∀ {l:List Nat},mg P ops s l→∀ p∈l,nY P ops s p
 | [],_,p,hp=>by cases hp
 | q::qs,h,p,hp=>by
  rcases List.mem_cons.1 hp with rfl | hp
  ·obtain ⟨h1,_⟩:=h
   cases ho:ops[p]? with
   | none=>rw[ho]at h1;exact h1.elim
   | some o=>
    rw[ho]at h1
    simp only[aqR]at h1
    cases hd:o.dst with
    | none=>rw[hd]at h1;exact h1.elim
    | some d=>
     rw[hd]at h1
     simp only[arI]at h1
     cases hg:guardOf ops s o with
     | none=>rw[hg]at h1;exact h1.elim
     | some b=>
      rw[hg]at h1
      refine ⟨o,d,ho,hd,b,hg,fun e=>?_,fun e=>?_⟩
      ·subst e;exact h1
      ·subst e;exact h1
  ·exact jW h.2 p hp
section
variable {C:Ctx} {R:cG} {ops:Array Oper} {tab:List (Nat×Nat)} {K:St→Prop} {pend pend' rest:List Nat} {s s':St} {i:Nat}
def aiI (P:Program) (ops:Array Oper) (s:St):Option Oper→Option St
 | some o=>rN P s o (guardOf ops s o)
 | none=>none
theorem p_op (hp:ops[i]?.map pass=some false) (hh:mg C.P ops s pend) (h:aiI C.P ops s ops[i]? =some s') (hf:(pend.filter fun p=>!(dy tab i).testBit p)=pend') (hk:cz C R ops tab pend' rest K s'):cz C R ops tab pend (i::rest) K s:=by
 subst hf
 simp only[cz]
 cases ho:ops[i]? with
 | none=>rw[ho]at h;cases h
 | some o=>
  rw[ho]at h hp
  simp only[Option.map_some,Option.some.injEq]at hp
  refine ⟨o,rfl,?_⟩
  simp only[hp]
  obtain ⟨b,hb,ht,hf⟩:=oh h
  refine ⟨jW hh,b,hb,fun e=>?_,fun e=>?_⟩
  ·obtain ⟨r,hr,e1⟩:=ht e
   subst e1
   exact mK hr hk
  ·have e1:=hf e
   subst e1;exact hk
theorem auG {dst:Option Tmp} {ty:TypeId} {pos:String} {after:Array Edge} {f:Operand} {args:Array Operand} {ts:Array TypeId} {gd:Option (Nat×Bool)}
  {g:FuncId} {fs cs:List DVal} {as:List SV} {es:List Eff} {s1:St} {out:List SV} {hp:Heap} (ho:ops[i]? =some ⟨dst,.call ⟨.value f,args,ts⟩,ty,pos,after,gd⟩) (hh:mg C.P ops s pend) (h0:guardOf ops s ⟨dst,.call ⟨.value f,args,ts⟩,ty,pos,after,gd⟩=some true)
  (h1:callee s f=some (g,fs,cs)) (h2:gy C g s fs.length args.toList=some (as,es)) (h3:s.effs es=s1) (hf:(pend.filter fun p=>!(dy tab i).testBit p)=pend')
  (h4:Runs C g (sval fs++as++sval cs) s1.box fun o h'=>o=out∧h'=hp) (h5:(packed out).isSome=true) (hk:cz C (Runs C) ops tab pend' rest K (St.put ⟨cJ SV.uncell s1.slots,hp⟩ dst ((packed out).getD .undef))):
  cz C (Runs C) ops tab pend (i::rest) K s:=by
 subst h3;subst hf
 simp only[cz]
 refine ⟨_,ho,?_⟩
 simp only[pass]
 refine ⟨jW hh,true,h0,fun _=>.inr ⟨g,fs,cs,as,es,h1,h2,fun _=>h4.mono fun o h' ⟨e1,e2⟩=>?_⟩,fun e=>by cases e⟩
 subst e1;subst e2
 cases hpk:packed o with
 | none=>rw[hpk]at h5;cases h5
 | some v=>exact ⟨v,rfl,by rw[hpk]at hk;exact hk⟩
theorem anz (hh:mg C.P ops s pend) (hk:K s):cz C R ops tab pend [] K s:=⟨jW hh,hk⟩
end
def mn (a b:Int):Int:=if b < a then b else a
def mx (a b:Int):Int:=if b > a then b else a
def shL (k:IntKind) (a b:Int):Int:=k.wrap (a*2^(min b.toNat k.bits))
def shR (k:IntKind) (a b:Int):Int:=a.fdiv (2^(min b.toNat k.bits))
def bAnd (k:IntKind) (a b:Int):Int:=k.wrap (BitVec.ofInt k.bits a &&& BitVec.ofInt k.bits b).toNat
def bOr (k:IntKind) (a b:Int):Int:=k.wrap (BitVec.ofInt k.bits a ||| BitVec.ofInt k.bits b).toNat
def bXor (k:IntKind) (a b:Int):Int:=k.wrap (BitVec.ofInt k.bits a ^^^ BitVec.ofInt k.bits b).toNat
def bNot (k:IntKind) (a b:Int):Int:=k.wrap (BitVec.ofInt k.bits a &&& ~~~ BitVec.ofInt k.bits b).toNat
def nat (n:Int):Option Int:=if 0≤n then some n else none
theorem Holds.nat {β:Type} {n:Int} {k:Int→Option β} {D:β→Prop} (h:Holds ((nat n).bind k) D):(0≤n)=True∧(n < 0)=False∧Holds (k n) D:=by
 unfold Val.nat at h
 split at h
 ·rename_i hc;exact ⟨eq_true hc,eq_false (by omega),h⟩
 ·exact h.elim
def aget {K V:Type} [DecidableEq K] (k:K):List (K×V)→Option V
 | []=>none
 | (k',v)::es=>if k=k' then some v else aget k es
def aput {K V:Type} [DecidableEq K] (k:K) (v:V):List (K×V)→List (K×V)
 | []=>[(k,v)]
 | (k',v')::es=>if k=k' then (k',v)::es else (k',v')::aput k v es
class Key {K:Type} [DecidableEq K] (e:K→DVal):Prop where
 eq:∀ a b,gF (e a) (e b)=decide (a=b)
instance:Key eI:=⟨fun a b=>by
 simp only[gF,eI,decide_true,Bool.true_and]
 by_cases h:a=b
 ·subst h;simp
 ·simp[h]⟩
instance:Key eB:=⟨fun a b=>by simp only[gF,eB];cases a <;> cases b <;> rfl⟩
theorem apS {s t:Str}:(bs s==bs t)=decide (s=t):=by
 have:=@ahX (bs s) (bs t)
 rw[← beq_toListBytes]at this
 rw[this]
 simp only[apE]
instance:Key eS:=⟨fun a b=>by simp only[gF,eS];exact apS⟩
theorem iU {K V:Type} [DecidableEq K] {e:K→DVal} {d:V→DVal} [Key e] {k:K}:∀ {es:List (K×V)},dZ (e k) (es.map fun p=>(e p.1,d p.2))=(aget k es).map d
 | []=>rfl
 | (k',v)::es=>by
  simp only[List.map_cons,dZ,aget,Key.eq]
  by_cases h:k=k'
  ·simp[h]
  ·simp only[h,decide_false,Bool.false_eq_true,if_false];exact iU
theorem iA {K V:Type} [DecidableEq K] {e:K→DVal} {d:V→DVal} [Key e] {k:K} {v:V}:∀ {es:List (K×V)},mput (e k) (d v) (es.map fun p=>(e p.1,d p.2))=(aput k v es).map fun p=>(e p.1,d p.2)
 | []=>rfl
 | (k',v')::es=>by
  simp only[List.map_cons,mput,aput,Key.eq]
  by_cases h:k=k'
  ·simp[h]
  ·simp only[h,decide_false,Bool.false_eq_true,if_false,List.map_cons];rw[iA]
theorem getD_map {α β:Type} {o:Option α} {f:α→β} {z:α}:(o.map f).getD (f z)=f (o.getD z):=by cases o <;> rfl
theorem akU {l:List UInt8}:strOf (l.map eU)=some l:=by
 induction l with
 | nil=>rfl
 | cons c l ih=>simp only[List.map_cons,eU,strOf];rw[show strOf (l.map eU)=some l from ih];simp
theorem aku {s:Str}:iF (bs s)=s.map eU:=by simp[iF,bs,eU]
theorem asF {c e:Bool}:(if c=true then some e else some false)=some (c&&e):=by cases c <;> rfl
theorem aj8 {α β:Type} {f:α→β} {l:List α} {n:Nat}:(l.map f).take n=(l.take n).map f:=List.map_take.symm
theorem ala {α β:Type} {f:α→β} {l:List α} {n:Nat}:(l.map f).drop n=(l.drop n).map f:=List.map_drop.symm
theorem aab {n:Nat}:(0 < n+1)=True:=by simp
theorem zl {n:Nat}:(n+1=0)=False:=by simp
end Go.Val
namespace Go.Val
theorem iR {h:Heap} {os:List (Option BObj)} {l l':Nat} {o:BObj} (hl:l < h.n):((h.upd l' o).on os).at_ l=(h.upd l' o).at_ l:=dS hl
theorem mw {h:Heap} {os:List (Option BObj)} {l l' l2:Nat} {o o2:BObj} (hl:l < h.n):(((h.upd l' o).upd l2 o2).on os).at_ l=((h.upd l' o).upd l2 o2).at_ l:=dS hl
theorem fL {h:Heap} {os:List (Option BObj)} {l l':Nat} {o o':BObj} (hl:l < h.n):((h.upd l' o').on os).upd l o=((h.upd l' o').upd l o).on os:=eZ hl
theorem kE {h:Heap} {os:List (Option BObj)} {l l' l2:Nat} {o o' o2:BObj} (hl:l < h.n):(((h.upd l' o').upd l2 o2).on os).upd l o=(((h.upd l' o').upd l2 o2).upd l o).on os:=eZ hl
theorem nQ {h:Heap} {la lb:Nat} {o o':BObj} (hn:la≠lb):(h.upd lb o).upd la o'=(h.upd la o').upd lb o:=Heap.ext rfl fun i=>by
 simp only[Heap.upd]
 by_cases h1:i=la
 ·subst h1;rw[if_pos rfl,if_neg hn,if_pos rfl]
 ·rw[if_neg h1];split <;> rfl
theorem ahL {v:SV}:v.fits v=True:=eq_true (rC v)
theorem sV {c:CV}:c.fits c=True:=eq_true (by cases c with
 | val d=>cases d <;> rfl
 | dead=>trivial
 | _=>rfl)
theorem abF {k:TypeId}:SV.fits (.cv .nil) (.cv (.row k []))=True:=eq_true rfl
theorem abd:SV.fits (.cv .nil) (.cv (.val (.sl [])))=True:=eq_true rfl
theorem wy {k:TypeId}:CV.fits .nil (.row k [])=True:=eq_true rfl
theorem xK:CV.fits .nil (.val (.sl []))=True:=eq_true rfl
theorem yA {a b:List CV}:BObj.fits (.cells a) (.cells b)=CV.fitsL a b:=rfl
theorem akX {k:TypeId} {a:List (DVal×DVal)}:BObj.fits (.map k a) (.map k a)=True:=eq_true rfl
theorem vC:CV.fitsL [] []=True:=rfl
theorem sn {c c':CV} {cs cs':List CV}:CV.fitsL (c::cs) (c'::cs')=(c.fits c'∧CV.fitsL cs cs'):=rfl
theorem aiE {n:Nat} {k:IntKind} {i:Int}:(DVal.int k i).under n=True:=rfl
theorem afy {n:Nat} {b:Bool}:(DVal.bool b).under n=True:=rfl
theorem ajU {n:Nat} {b:ByteArray}:(DVal.str b).under n=True:=rfl
theorem amx {n:Nat} {xs:List DVal}:(DVal.sl xs).under n=bv n xs:=rfl
theorem ajq {n:Nat} {xs:List DVal}:(DVal.agg xs).under n=bv n xs:=rfl
theorem xP {n:Nat}:(DVal.ptr none).under n=True:=rfl
theorem ajh {n l o:Nat}:(DVal.ptr (some (l,o))).under n=(l < n):=rfl
theorem xa {n:Nat}:(DVal.map none).under n=True:=rfl
theorem aeL {n l:Nat}:(DVal.map (some l)).under n=(l < n):=rfl
theorem amr {n:Nat} {f:FuncId} {a b:List DVal}:(DVal.fn f a b).under n=(bv n a∧bv n b):=rfl
theorem agO {n:Nat}:bv n []=True:=rfl
theorem aaR {n:Nat} {d:DVal} {ds:List DVal}:bv n (d::ds)=(d.under n∧bv n ds):=rfl
theorem ahs {n:Nat} {d:DVal}:(CV.val d).under n=d.under n:=rfl
theorem aht {n:Nat}:CV.nil.under n=True:=rfl
theorem abC {n:Nat}:CV.dead.under n=True:=rfl
theorem afn {n:Nat} {k:TypeId} {xs:List DVal}:(CV.row k xs).under n=bv n xs:=rfl
theorem acj {n:Nat}:eR n []=True:=rfl
theorem xJ {n:Nat} {c:CV} {cs:List CV}:eR n (c::cs)=(c.under n∧eR n cs):=rfl
theorem xE {n:Nat} {cs:List CV}:(BObj.cells cs).under n=eR n cs:=rfl
theorem af0 {n:Nat} {k:TypeId} {es:List (DVal×DVal)}:(BObj.map k es).under n=js n es:=rfl
theorem aiP {n:Nat} {c:CV}:(SV.cv c).under n=c.under n:=rfl
theorem vK {n:Nat}:SV.undef.under n=True:=rfl
theorem zt {n i:Nat}:(SV.alias (.slot i)).under n=True:=rfl
theorem yR {n l i:Nat}:(SV.alias (.cell l i)).under n=(l < n):=rfl
theorem aet {n:Nat} {ds:List DVal}:(SV.imm ds).under n=bv n ds:=rfl
theorem vk {n i j o:Nat}:(SV.elt (.slot i) j o).under n=True:=rfl
theorem vy {n l i j o:Nat}:(SV.elt (.cell l i) j o).under n=(l < n):=rfl
theorem afU {n:Nat} {cs:List CV}:(SV.bld cs).under n=eR n cs:=rfl
theorem aeK {n:Nat} {ds:List DVal}:(SV.tup ds).under n=bv n ds:=rfl
theorem aj1 {s:St} {c:CV}:(SV.cv c).rooted s=True:=rfl
theorem vQ {s:St}:SV.undef.rooted s=True:=rfl
theorem aeS {s:St} {ds:List DVal}:(SV.imm ds).rooted s=True:=rfl
theorem aeJ {s:St} {ds:List CV}:(SV.bld ds).rooted s=True:=rfl
theorem ahy {s:St} {ds:List DVal}:(SV.tup ds).rooted s=True:=rfl
theorem abr {s:St} {i:Nat}:(SV.alias (.slot i)).rooted s=(cY (s.get i)=true):=rfl
theorem abi {s:St} {l i:Nat}:(SV.alias (.cell l i)).rooted s=True:=rfl
theorem xd {s:St} {i j o:Nat}:(SV.elt (.slot i) j o).rooted s=(cY (s.get i)=true):=rfl
theorem wH {s:St} {l i j o:Nat}:(SV.elt (.cell l i) j o).rooted s=True:=rfl
theorem alS {k:TypeId} {xs:List DVal}:cY (.cv (.row k xs))=true:=rfl
theorem agk {H H':Heap} {c:CV}:iM H H' (.cv c)=True:=rfl
theorem uU {H H':Heap}:iM H H' .undef=True:=rfl
theorem yH {H H':Heap} {c:List DVal}:iM H H' (.imm c)=True:=rfl
theorem abZ {H H':Heap} {c:List CV}:iM H H' (.bld c)=True:=rfl
theorem abI {H H':Heap} {c:List DVal}:iM H H' (.tup c)=True:=rfl
theorem wK {H H':Heap} {i:Nat}:iM H H' (.alias (.slot i))=True:=rfl
theorem tO {H H':Heap} {i j o:Nat}:iM H H' (.elt (.slot i) j o)=True:=rfl
theorem ahi {n a b:Nat} (h:bu (decide (a < b)) false):(n+a < n+b)=True:=eq_true (by
 have:a < b:=by simpa using h.ne
 omega)
theorem alM {N:Nat} {o o':BObj} {os os':List (Option BObj)}:cutO N (some o::os) (some o'::os')=(o.fits o'∧o'.under N∧cutO N os os'):=rfl
theorem aiT {N:Nat} {o:Option BObj} {os os':List (Option BObj)}:cutO N (o::os) (none::os')=cutO N os os':=by cases o <;> rfl
theorem amZ {s:St} {H:Heap} {N:Nat} {l:List (Nat×SV)}:cutS s H N l []=True:=rfl
theorem ami {s:St} {H:Heap} {N i:Nat} {v:SV} {l sl:List (Nat×SV)}:cutS s H N l ((i,v)::sl)=(((s.get i).fits v∧v.rooted ⟨l,H⟩∧v.under N∧iM s.box H v)∧cutS s H N l sl):=rfl
theorem aka {k:Nat}:dj k []=true:=rfl
theorem aed {k:Nat} {d:DVal} {ds:List DVal}:dj k (d::ds)=(d.cells.length==k&&dj k ds):=rfl
theorem anb {n:Nat}:(n==n)=true:=by simp
theorem amt {P:Program} {e:TypeId} {xs ys:List DVal}:apOk P e xs ys=((xs.length+ys.length)*P.bytesOf e≤dn∧dj (P.cellsOf e) ys=true∧0 < P.bytesOf e∧0 < P.cellsOf e∧cL P e=true):=rfl
attribute [go_sem] aua aox uR tB ue tE tH va uz tC awS awn awz awk awM awI av8 awo awq yy awA aub aq0 join_some List.getElem?_cons_zero List.getElem?_cons_succ
 List.getElem?_toArray Option.join_some
 ahL sV abF abd wy xK yA akX vC sn aiE afy ajU amx ajq xP ajh xa aeL amr agO aaR ahs aht abC afn acj xJ xE af0 aiP vK zt yR aet vk vy afU aeK aj1 vQ aeS aeJ ahy abr abi xd wH alS ahi
 de ta aj5 aka aed anb amt
 eI eB eU eS eL awt aqg aiF auQ apE avs ajj ahU shL shR bAnd bOr bXor bNot iU iA getD_map akU aku asF aj8 ala aab zl
 List.take_length List.map_append List.map_cons List.map_nil Bool.true_and Bool.false_and Bool.and_true Bool.and_false Bool.true_or Bool.false_or Bool.or_true Bool.or_false Bool.not_true Bool.not_false cond_true cond_false Option.getD_some Option.isNone_some Option.isNone_none
 aoJ alM aiT amZ ami agk uU yH abZ abI wK tO mg aqR arI auF jZ pG adk yT.eq_1 yT.eq_2 qm.eq_1 pass
end Go.Val
namespace Go.Val
section
variable {C:Ctx} {m:Nat} {Q:Ex→St→Prop} {K:St→Prop} {s s1:St}
theorem w_nT (ht:St.To m s s1) (h:K s1):Ex.then (fun s=>∃ s1,St.To m s s1∧K s1) Q .normal s:=⟨s1,ht,h⟩
theorem w_K {σ ρ:Type} {D:ρ→Prop} {a:Code} (inv:σ→St) (kk:σ→Option ρ) (h2:∀ (x:σ) (s':St),Holds (kk x) D→St.To m s' (inv x)→Q .normal s')
  (h1:aK C (Runs C) m a (Ex.then (fun s'=>∃ x,Holds (kk x) D∧St.To m s' (inv x)) Q) s):aK C (Runs C) m a Q s:=
 dC (cG.Le.refl_runs C) a (fun e s' h=>by cases e with
  | normal=>obtain ⟨x,hx,ht⟩:=h;exact h2 x s' hx ht
  | _=>exact h) s h1
end
end Go.Val
namespace Go.Val
theorem amV {C:Ctx} {R:cG} {ops:Array Oper} {tab:List (Nat×Nat)} {K:St→Prop} {l rest pend pend':List Nat} {s s':St} (h:jZ C.P ops l s=some s') (hp:l.reverse++pend=pend') (hk:cz C R ops tab pend' rest K s'):cz C R ops tab pend (l++rest) K s:=
 xg h (hp ▸ hk)
end Go.Val
namespace Go.Val
theorem any_nil:dM []=false:=rfl
theorem any_cons {c:CV} {cs:List CV}:dM (c::cs)=(c.isRow||dM cs):=rfl
theorem asL {d:DVal}:(CV.val d).isRow=false:=rfl
theorem arE:CV.nil.isRow=false:=rfl
theorem arJ {k:TypeId} {xs:List DVal}:(CV.row k xs).isRow=true:=rfl
theorem asu {α:Type} {n:α}:(n≠n)=False:=by simp
theorem au0 {b:Bool}:(b==true)=b:=by cases b <;> rfl
theorem art {b:Bool}:(b==false)= !b:=by cases b <;> rfl
theorem anh:toDs []=some []:=rfl
theorem amO {d:DVal} {cs:List CV}:toDs (.val d::cs)=(toDs cs).map (List.cons d):=by
 simp only[toDs,CV.toD,Option.bind_some];cases toDs cs <;> rfl
theorem aiy {cs:List CV}:toDs (.nil::cs)=(toDs cs).map (List.cons (.sl [])):=by
 simp only[toDs,CV.toD,Option.bind_some];cases toDs cs <;> rfl
theorem amo {k:TypeId} {xs:List DVal} {cs:List CV}:toDs (.row k xs::cs)=(toDs cs).map (List.cons (.sl xs)):=by
 simp only[toDs,CV.toD,Option.bind_some];cases toDs cs <;> rfl
theorem zP {n:Nat}:(n+1≠0)=True:=by simp
theorem atV {n:Nat} (h:bu (decide (n≤16777216)) false):(n≤2^24)=True:=eq_true (by
 have:n≤16777216:=by simpa using h.ne
 omega)
theorem eD {n k:Nat} {xs:List DVal} (u:bv n xs):bv (n+k) xs=True:=eq_true (qT (Nat.le_add_right n k) u)
theorem ali {P:Program} {as bs:List DVal}:eF P as bs []=some true:=rfl
def eqF1 (P:Program) (f:Field) (t:Option TypeDesc) (a b:Option DVal):Option Bool:=
 match t,a,b with
 | some t,some a,some b=>dq t a b
 | _,_,_=>none
theorem pD {P:Program} {as bs:List DVal} {f:Field} {fs:List Field} {e r:Bool} (h1:f.name= "_" ∨isAg P f.type=true↔False) (h2:eqF1 P f (P.underlying f.type) as[f.offset]? bs[f.offset]? =some e) (h3:eF P as bs fs=some r):eF P as bs (f::fs)=some (e&&r):=by
 simp only[eF]
 rw[if_neg (fun h=>h1.1 h)]
 cases ht:P.underlying f.type with
 | none=>rw[ht]at h2;simp[eqF1]at h2
 | some t=>
  cases ha:as[f.offset]? with
  | none=>rw[ht,ha]at h2;simp[eqF1]at h2
  | some a=>
   cases hb:bs[f.offset]? with
   | none=>rw[ht,ha,hb]at h2;simp[eqF1]at h2
   | some b=>
    rw[ht,ha,hb]at h2
    simp only[eqF1]at h2
    simp only[Option.bind_some,h2,h3]
    cases e <;> rfl
theorem apw {P:Program} {t:TypeId} {fs:Array Field} {as bs:List DVal} {r:Bool} (hu:P.underlying t=some (.struct fs)) (hs:P.stoodInHeld t=false) (hg:P.eqGuardType P.depth t=false) (h:eF P as bs fs.toList=some r):eqD P t (.agg as) (.agg bs)=some r:=by
 unfold eqD
 rw[hu]
 simp only[Option.bind_some,hs,hg]
 simpa using h
theorem ale {P:Program} {t:TypeId} {as bs:List DVal} {r:Bool} (h:eqD P t (.agg as) (.agg bs)=some r):gR P .eql t (.agg as) (.agg bs)=some (.bool r):=by simp[gR,h]
theorem ah1 {P:Program} {t:TypeId} {as bs:List DVal} {r:Bool} (h:eqD P t (.agg as) (.agg bs)=some r):gR P .neq t (.agg as) (.agg bs)=some (.bool (!r)):=by simp[gR,h]
theorem uv {s t:Str}:(bs s==bs t)=(s==t):=by rw[apS];by_cases h:s=t <;> simp[h]
theorem as6 {n:Nat}:(n≤n)=True:=eq_true (Nat.le_refl n)
theorem xz {l i:Nat}:setCells l i []=[]:=rfl
theorem tT {l i:Nat} {c:CV} {cs:List CV}:setCells l i (c::cs)= .setCell l i c::setCells l (i+1) cs:=rfl
theorem arB {n:Nat} (h:bu (decide (n≤140737488355328)) false):(n≤dn)=True:=eq_true (by
 have:n≤140737488355328:=by simpa using h.ne
 unfold dn;omega)
theorem arH {v:SV}:packed [v]=some v:=rfl
theorem arW:packed []=some .undef:=rfl
theorem arV {a b:DVal}:packed [.cv (.val a),.cv (.val b)]=some (.tup [a,b]):=rfl
theorem asP {a b c:DVal}:packed [.cv (.val a),.cv (.val b),.cv (.val c)]=some (.tup [a,b,c]):=rfl
theorem asn {a b c d:DVal}:packed [.cv (.val a),.cv (.val b),.cv (.val c),.cv (.val d)]=some (.tup [a,b,c,d]):=rfl
theorem ai4:strOf []=some []:=rfl
theorem se {n:Int} {ds:List DVal}:strOf (.int .u8 n::ds)=(strOf ds).map (List.cons (u8 n)):=by
 simp only[strOf,u8];cases strOf ds <;> rfl
theorem als {xs:List UInt8} {ds:List DVal}:strOf (xs.map eU++ds)=(strOf ds).map (xs++ ·):=by
 induction xs with
 | nil=>simp
 | cons x xs ih=>
  simp only[List.map_cons,List.cons_append,eU]
  rw[se,show strOf (List.map eU xs++ds)=_ from ih]
  have:u8 (x.toNat:Int)=x:=by simp[u8]
  cases strOf ds <;> simp[this]
theorem avb {x:UInt8}:u8 (x.toNat:Int)=x:=by simp[u8]
theorem uH {n:Nat} {xs ys:List DVal}:bv n (xs++ys)=(bv n xs∧bv n ys):=by
 induction xs with
 | nil=>simp[bv]
 | cons x xs ih=>simp only[List.cons_append,bv,ih,and_assoc]
theorem aaO {b:Bool} {k:IntKind} {a:Int}:fh b k a []=some (.int k a):=rfl
theorem ym {k:IntKind} {a b:Int} {l:List (IntKind×Int)}:fh false k a ((k,b)::l)=fh false k (mn a b) l:=by simp[fh,mn]
theorem zc {k:IntKind} {a b:Int} {l:List (IntKind×Int)}:fh true k a ((k,b)::l)=fh true k (mx a b) l:=by simp[fh,mx]
theorem auz:(true=false)=False:=by simp
theorem aum:(false=true)=False:=by simp
theorem afj {n k:Nat} {d:DVal}:bv n (List.replicate k d)=(d.under n∨k=0):=by
 induction k with
 | zero=>simp[bv]
 | succ k ih=>
  simp only[List.replicate_succ,bv,ih]
  apply propext
  constructor
  ·intro h;exact .inl h.1
  ·intro h
   rcases h with h | h
   ·exact ⟨h,.inl h⟩
   ·omega
theorem asI {k:IntKind} {n:Int}:(DVal.int k n).one=true:=rfl
theorem anG {b:Bool}:(DVal.bool b).one=true:=rfl
theorem ar3 {b:ByteArray}:(DVal.str b).one=true:=rfl
theorem av4 {b:List DVal}:(DVal.sl b).one=true:=rfl
theorem as8 {b:Option (Nat×Nat)}:(DVal.ptr b).one=true:=rfl
theorem ash {b:Option Nat}:(DVal.map b).one=true:=rfl
theorem avB {f:FuncId} {a b:List DVal}:(DVal.fn f a b).one=true:=rfl
theorem afq {a cs:List DVal}:nG (.agg a) cs= .agg cs:=rfl
theorem afQ {k:IntKind} {n:Int} {c:DVal}:nG (.int k n) [c]=c:=rfl
theorem aaa {b:Bool} {c:DVal}:nG (.bool b) [c]=c:=rfl
theorem afB {b:ByteArray} {c:DVal}:nG (.str b) [c]=c:=rfl
theorem alh {b:List DVal} {c:DVal}:nG (.sl b) [c]=c:=rfl
theorem zY {α:Type} {cs:List α} {i:Nat}:setFrom cs i []=cs:=rfl
theorem xD {α:Type} {cs ns:List α} {i:Nat} {n:α}:setFrom cs i (n::ns)=setFrom (cs.set i n) (i+1) ns:=rfl
theorem avN {n:Int} (h:bu (decide (0≤n∧n < 256)) false):((u8 n).toNat:Int)=n:=by
 have:0≤n∧n < 256:=by simpa using h.ne
 simp only[u8,UInt8.toNat_ofNat']
 omega
theorem agI {n:Nat}:∀ {xs:List DVal},bv n xs↔∀ (i:Nat) (d:DVal),xs[i]? =some d→d.under n:=by
 intro xs
 constructor
 ·intro h i d hd;exact jQ h d (List.mem_of_getElem? hd)
 ·intro h;exact rb fun x hx=>by
   obtain ⟨i,hi⟩:=List.getElem?_of_mem hx
   exact h i x hi
theorem agh {α:Type} {e:α→DVal} {k n i:Nat} [Enc e k] {xs:List α} {d:DVal}:bv n ((List.map e xs).set i d)=(d.under n∨xs.length≤i):=by
 apply propext
 rw[agI]
 constructor
 ·intro h
  by_cases hi:i < xs.length
  ·exact .inl (h i d (by rw[List.getElem?_set];simp[hi]))
  ·exact .inr (by omega)
 ·intro h j c hc
  rw[List.getElem?_set]at hc
  split at hc
  ·split at hc
   ·simp only[Option.some.injEq]at hc;subst hc
    rcases h with h | h
    ·exact h
    ·rename_i h1 h2;simp at h2;omega
   ·cases hc
  ·rw[List.getElem?_map]at hc
   cases hx:xs[j]? with
   | none=>rw[hx]at hc;simp at hc
   | some x=>rw[hx]at hc;simp at hc;subst hc;exact Enc.under n x
theorem ap2 {i l j:Nat}:SV.unal (.slot i) (.alias (.cell l j))= .alias (.cell l j):=by simp[SV.unal,SV.drop]
theorem ast {i l j:Nat}:SV.unal (.cell l j) (.alias (.slot i))= .alias (.slot i):=by simp[SV.unal,SV.drop]
theorem aqV {l i j:Nat} (h:bu j i):SV.unal (.cell l i) (.alias (.cell l j))= .alias (.cell l j):=by simp[SV.unal,SV.drop,h.ne]
theorem am4 {i l j x y:Nat}:SV.unal (.slot i) (.elt (.cell l j) x y)= .elt (.cell l j) x y:=by simp[SV.unal,SV.drop]
theorem apb {i l j x y:Nat}:SV.unal (.cell l j) (.elt (.slot i) x y)= .elt (.slot i) x y:=by simp[SV.unal,SV.drop]
theorem ao8 {l i j x y:Nat} (h:bu j i):SV.unal (.cell l i) (.elt (.cell l j) x y)= .elt (.cell l j) x y:=by simp[SV.unal,SV.drop,h.ne]
theorem aoX {i l j:Nat} {d:DVal}:SV.refix (.slot i) d (.alias (.cell l j))= .alias (.cell l j):=by simp[SV.refix]
theorem an9 {i l j:Nat} {d:DVal}:SV.refix (.cell l j) d (.alias (.slot i))= .alias (.slot i):=by simp[SV.refix]
theorem aoZ {l i j:Nat} {d:DVal} (h:bu j i):SV.refix (.cell l i) d (.alias (.cell l j))= .alias (.cell l j):=by simp[SV.refix,h.ne]
theorem el {l n k:Nat} (h:l < n):(l < n+k)=True:=eq_true (by omega)
theorem ig {l n:Nat} (h:l < n):(l < n)=True:=eq_true h
theorem af8 {n:Nat}:sW n []=True:=rfl
theorem abx {n:Nat} {v:SV} {vs:List SV}:sW n (v::vs)=(v.under n∧sW n vs):=rfl
def encM {K V:Type} (e:K→DVal) (d:V→DVal) (es:List (K×V)):List (DVal×DVal):=es.map fun p=>(e p.1,d p.2)
theorem anS {K V:Type} {e:K→DVal} {d:V→DVal}:encM e d []=[]:=rfl
theorem anL {K V:Type} {e:K→DVal} {d:V→DVal} {es:List (K×V)}:(encM e d es).length=es.length:=by simp[encM]
theorem ahl {K V:Type} {e:K→DVal} {d:V→DVal} {k k' n:Nat} [Enc e k] [Enc d k'] {es:List (K×V)}:js n (encM e d es)=True:=ta
theorem zC {n:Nat}:js n []=True:=rfl
theorem aqU {V:Type} {d:V→DVal} {k:Str} {es:List (Str×V)}:dZ (.str (bs k)) (encM eS d es)=(aget k es).map d:=iU (e:=eS)
theorem aro {V:Type} {d:V→DVal} {k:Int} {es:List (Int×V)}:dZ (.int .i64 k) (encM eI d es)=(aget k es).map d:=iU (e:=eI)
theorem asx {k:Str} {v:Int} {es:List (Str×Int)}:mput (.str (bs k)) (.int .i64 v) (encM eS eI es)=encM eS eI (aput k v es):=iA (e:=eS) (d:=eI)
theorem ats {k:Int} {v:Int} {es:List (Int×Int)}:mput (.int .i64 k) (.int .i64 v) (encM eI eI es)=encM eI eI (aput k v es):=iA (e:=eI) (d:=eI)
theorem aqP {k:Int} {v:Bool} {es:List (Int×Bool)}:mput (.int .i64 k) (.bool v) (encM eI eB es)=encM eI eB (aput k v es):=iA (e:=eI) (d:=eB)
theorem asl {k:Str} {v:Bool} {es:List (Str×Bool)}:mput (.str (bs k)) (.bool v) (encM eS eB es)=encM eS eB (aput k v es):=iA (e:=eS) (d:=eB)
theorem akD {k:DVal}:dZ k []=none:=rfl
theorem avz {o:Option Int} {z:Int}:(o.map eI).getD (.int .i64 z)= .int .i64 (o.getD z):=by cases o <;> rfl
theorem auS {o:Option Bool} {z:Bool}:(o.map eB).getD (.bool z)= .bool (o.getD z):=by cases o <;> rfl
theorem at5 {α:Type} {e:α→DVal} {o:Option (List α)}:(o.map (eL e)).getD (.sl [])= .sl (List.map e (o.getD [])):=by cases o <;> rfl
theorem aiU {P:Program} {kt:TypeId} {b:ByteArray}:isKey P kt .string (.str b)=true:=rfl
theorem ahw {P:Program} {kt:TypeId} {b:Bool}:isKey P kt .bool (.bool b)=true:=rfl
theorem akT {P:Program} {kt:TypeId} {k:IntKind} {n:Int}:isKey P kt (.int k) (.int k n)=true:=by simp[isKey]
attribute [go_sem] anS anL ahl zC aqU aro asx ats aqP asl akD avz auS at5 aiU ahw akT Option.isSome_map Option.isSome_none Option.isSome_some Option.getD_none
theorem aqB {h:Heap} {l0:Nat} {o0:BObj} {os:List (Option BObj)} {k:Nat}:(Heap.on (Heap.upd h l0 o0) os).at_ (h.n+k)=(os[k]?).join:=aox (h:=(Heap.upd h l0 o0))
theorem aij {h:Heap} {l0:Nat} {o0:BObj} {a0:Option BObj} {os:List (Option BObj)} {o:BObj}:(Heap.on (Heap.upd h l0 o0) (a0::os)).upd (h.n+0) o=Heap.on (Heap.upd h l0 o0) (some o::os):=uR (h:=(Heap.upd h l0 o0))
theorem ai5 {h:Heap} {l0:Nat} {o0:BObj} {a0 a1:Option BObj} {os:List (Option BObj)} {o:BObj}:(Heap.on (Heap.upd h l0 o0) (a0::a1::os)).upd (h.n+1) o=Heap.on (Heap.upd h l0 o0) (a0::some o::os):=tB (h:=(Heap.upd h l0 o0))
theorem aim {h:Heap} {l0:Nat} {o0:BObj} {a0 a1 a2:Option BObj} {os:List (Option BObj)} {o:BObj}:(Heap.on (Heap.upd h l0 o0) (a0::a1::a2::os)).upd (h.n+2) o=Heap.on (Heap.upd h l0 o0) (a0::a1::some o::os):=ue (h:=(Heap.upd h l0 o0))
theorem ak6 {h:Heap} {l0:Nat} {o0:BObj} {a0 a1 a2 a3:Option BObj} {os:List (Option BObj)} {o:BObj}:(Heap.on (Heap.upd h l0 o0) (a0::a1::a2::a3::os)).upd (h.n+3) o=Heap.on (Heap.upd h l0 o0) (a0::a1::a2::some o::os):=tE (h:=(Heap.upd h l0 o0))
theorem ajv {h:Heap} {l0:Nat} {o0:BObj} {a0 a1 a2 a3 a4:Option BObj} {os:List (Option BObj)} {o:BObj}:(Heap.on (Heap.upd h l0 o0) (a0::a1::a2::a3::a4::os)).upd (h.n+4) o=Heap.on (Heap.upd h l0 o0) (a0::a1::a2::a3::some o::os):=tH (h:=(Heap.upd h l0 o0))
theorem akI {h:Heap} {l0:Nat} {o0:BObj} {a0 a1 a2 a3 a4 a5:Option BObj} {os:List (Option BObj)} {o:BObj}:(Heap.on (Heap.upd h l0 o0) (a0::a1::a2::a3::a4::a5::os)).upd (h.n+5) o=Heap.on (Heap.upd h l0 o0) (a0::a1::a2::a3::a4::some o::os):=va (h:=(Heap.upd h l0 o0))
theorem ajx {h:Heap} {l0:Nat} {o0:BObj} {a0 a1 a2 a3 a4 a5 a6:Option BObj} {os:List (Option BObj)} {o:BObj}:(Heap.on (Heap.upd h l0 o0) (a0::a1::a2::a3::a4::a5::a6::os)).upd (h.n+6) o=Heap.on (Heap.upd h l0 o0) (a0::a1::a2::a3::a4::a5::some o::os):=uz (h:=(Heap.upd h l0 o0))
theorem amh {h:Heap} {l0:Nat} {o0:BObj} {a0 a1 a2 a3 a4 a5 a6 a7:Option BObj} {os:List (Option BObj)} {o:BObj}:(Heap.on (Heap.upd h l0 o0) (a0::a1::a2::a3::a4::a5::a6::a7::os)).upd (h.n+7) o=Heap.on (Heap.upd h l0 o0) (a0::a1::a2::a3::a4::a5::a6::some o::os):=tC (h:=(Heap.upd h l0 o0))
theorem arl {h:Heap} {l0 l1:Nat} {o0 o1:BObj} {os:List (Option BObj)} {k:Nat}:(Heap.on (Heap.upd (Heap.upd h l0 o0) l1 o1) os).at_ (h.n+k)=(os[k]?).join:=aox (h:=(Heap.upd (Heap.upd h l0 o0) l1 o1))
theorem ajd {h:Heap} {l0 l1:Nat} {o0 o1:BObj} {a0:Option BObj} {os:List (Option BObj)} {o:BObj}:(Heap.on (Heap.upd (Heap.upd h l0 o0) l1 o1) (a0::os)).upd (h.n+0) o=Heap.on (Heap.upd (Heap.upd h l0 o0) l1 o1) (some o::os):=uR (h:=(Heap.upd (Heap.upd h l0 o0) l1 o1))
theorem ail {h:Heap} {l0 l1:Nat} {o0 o1:BObj} {a0 a1:Option BObj} {os:List (Option BObj)} {o:BObj}:(Heap.on (Heap.upd (Heap.upd h l0 o0) l1 o1) (a0::a1::os)).upd (h.n+1) o=Heap.on (Heap.upd (Heap.upd h l0 o0) l1 o1) (a0::some o::os):=tB (h:=(Heap.upd (Heap.upd h l0 o0) l1 o1))
theorem ajl {h:Heap} {l0 l1:Nat} {o0 o1:BObj} {a0 a1 a2:Option BObj} {os:List (Option BObj)} {o:BObj}:(Heap.on (Heap.upd (Heap.upd h l0 o0) l1 o1) (a0::a1::a2::os)).upd (h.n+2) o=Heap.on (Heap.upd (Heap.upd h l0 o0) l1 o1) (a0::a1::some o::os):=ue (h:=(Heap.upd (Heap.upd h l0 o0) l1 o1))
theorem aiH {h:Heap} {l0 l1:Nat} {o0 o1:BObj} {a0 a1 a2 a3:Option BObj} {os:List (Option BObj)} {o:BObj}:(Heap.on (Heap.upd (Heap.upd h l0 o0) l1 o1) (a0::a1::a2::a3::os)).upd (h.n+3) o=Heap.on (Heap.upd (Heap.upd h l0 o0) l1 o1) (a0::a1::a2::some o::os):=tE (h:=(Heap.upd (Heap.upd h l0 o0) l1 o1))
theorem ajE {h:Heap} {l0 l1:Nat} {o0 o1:BObj} {a0 a1 a2 a3 a4:Option BObj} {os:List (Option BObj)} {o:BObj}:(Heap.on (Heap.upd (Heap.upd h l0 o0) l1 o1) (a0::a1::a2::a3::a4::os)).upd (h.n+4) o=Heap.on (Heap.upd (Heap.upd h l0 o0) l1 o1) (a0::a1::a2::a3::some o::os):=tH (h:=(Heap.upd (Heap.upd h l0 o0) l1 o1))
theorem akh {h:Heap} {l0 l1:Nat} {o0 o1:BObj} {a0 a1 a2 a3 a4 a5:Option BObj} {os:List (Option BObj)} {o:BObj}:(Heap.on (Heap.upd (Heap.upd h l0 o0) l1 o1) (a0::a1::a2::a3::a4::a5::os)).upd (h.n+5) o=Heap.on (Heap.upd (Heap.upd h l0 o0) l1 o1) (a0::a1::a2::a3::a4::some o::os):=va (h:=(Heap.upd (Heap.upd h l0 o0) l1 o1))
theorem aiS {h:Heap} {l0 l1:Nat} {o0 o1:BObj} {a0 a1 a2 a3 a4 a5 a6:Option BObj} {os:List (Option BObj)} {o:BObj}:(Heap.on (Heap.upd (Heap.upd h l0 o0) l1 o1) (a0::a1::a2::a3::a4::a5::a6::os)).upd (h.n+6) o=Heap.on (Heap.upd (Heap.upd h l0 o0) l1 o1) (a0::a1::a2::a3::a4::a5::some o::os):=uz (h:=(Heap.upd (Heap.upd h l0 o0) l1 o1))
theorem ahS {h:Heap} {l0 l1:Nat} {o0 o1:BObj} {a0 a1 a2 a3 a4 a5 a6 a7:Option BObj} {os:List (Option BObj)} {o:BObj}:(Heap.on (Heap.upd (Heap.upd h l0 o0) l1 o1) (a0::a1::a2::a3::a4::a5::a6::a7::os)).upd (h.n+7) o=Heap.on (Heap.upd (Heap.upd h l0 o0) l1 o1) (a0::a1::a2::a3::a4::a5::a6::some o::os):=tC (h:=(Heap.upd (Heap.upd h l0 o0) l1 o1))
theorem aqN {h:Heap} {l0 l1 l2:Nat} {o0 o1 o2:BObj} {os:List (Option BObj)} {k:Nat}:(Heap.on (Heap.upd (Heap.upd (Heap.upd h l0 o0) l1 o1) l2 o2) os).at_ (h.n+k)=(os[k]?).join:=aox (h:=(Heap.upd (Heap.upd (Heap.upd h l0 o0) l1 o1) l2 o2))
theorem aiG {h:Heap} {l0 l1 l2:Nat} {o0 o1 o2:BObj} {a0:Option BObj} {os:List (Option BObj)} {o:BObj}:(Heap.on (Heap.upd (Heap.upd (Heap.upd h l0 o0) l1 o1) l2 o2) (a0::os)).upd (h.n+0) o=Heap.on (Heap.upd (Heap.upd (Heap.upd h l0 o0) l1 o1) l2 o2) (some o::os):=uR (h:=(Heap.upd (Heap.upd (Heap.upd h l0 o0) l1 o1) l2 o2))
theorem ak8 {h:Heap} {l0 l1 l2:Nat} {o0 o1 o2:BObj} {a0 a1:Option BObj} {os:List (Option BObj)} {o:BObj}:(Heap.on (Heap.upd (Heap.upd (Heap.upd h l0 o0) l1 o1) l2 o2) (a0::a1::os)).upd (h.n+1) o=Heap.on (Heap.upd (Heap.upd (Heap.upd h l0 o0) l1 o1) l2 o2) (a0::some o::os):=tB (h:=(Heap.upd (Heap.upd (Heap.upd h l0 o0) l1 o1) l2 o2))
theorem akv {h:Heap} {l0 l1 l2:Nat} {o0 o1 o2:BObj} {a0 a1 a2:Option BObj} {os:List (Option BObj)} {o:BObj}:(Heap.on (Heap.upd (Heap.upd (Heap.upd h l0 o0) l1 o1) l2 o2) (a0::a1::a2::os)).upd (h.n+2) o=Heap.on (Heap.upd (Heap.upd (Heap.upd h l0 o0) l1 o1) l2 o2) (a0::a1::some o::os):=ue (h:=(Heap.upd (Heap.upd (Heap.upd h l0 o0) l1 o1) l2 o2))
theorem aj4 {h:Heap} {l0 l1 l2:Nat} {o0 o1 o2:BObj} {a0 a1 a2 a3:Option BObj} {os:List (Option BObj)} {o:BObj}:(Heap.on (Heap.upd (Heap.upd (Heap.upd h l0 o0) l1 o1) l2 o2) (a0::a1::a2::a3::os)).upd (h.n+3) o=Heap.on (Heap.upd (Heap.upd (Heap.upd h l0 o0) l1 o1) l2 o2) (a0::a1::a2::some o::os):=tE (h:=(Heap.upd (Heap.upd (Heap.upd h l0 o0) l1 o1) l2 o2))
theorem akB {h:Heap} {l0 l1 l2:Nat} {o0 o1 o2:BObj} {a0 a1 a2 a3 a4:Option BObj} {os:List (Option BObj)} {o:BObj}:(Heap.on (Heap.upd (Heap.upd (Heap.upd h l0 o0) l1 o1) l2 o2) (a0::a1::a2::a3::a4::os)).upd (h.n+4) o=Heap.on (Heap.upd (Heap.upd (Heap.upd h l0 o0) l1 o1) l2 o2) (a0::a1::a2::a3::some o::os):=tH (h:=(Heap.upd (Heap.upd (Heap.upd h l0 o0) l1 o1) l2 o2))
theorem aih {h:Heap} {l0 l1 l2:Nat} {o0 o1 o2:BObj} {a0 a1 a2 a3 a4 a5:Option BObj} {os:List (Option BObj)} {o:BObj}:(Heap.on (Heap.upd (Heap.upd (Heap.upd h l0 o0) l1 o1) l2 o2) (a0::a1::a2::a3::a4::a5::os)).upd (h.n+5) o=Heap.on (Heap.upd (Heap.upd (Heap.upd h l0 o0) l1 o1) l2 o2) (a0::a1::a2::a3::a4::some o::os):=va (h:=(Heap.upd (Heap.upd (Heap.upd h l0 o0) l1 o1) l2 o2))
theorem akw {h:Heap} {l0 l1 l2:Nat} {o0 o1 o2:BObj} {a0 a1 a2 a3 a4 a5 a6:Option BObj} {os:List (Option BObj)} {o:BObj}:(Heap.on (Heap.upd (Heap.upd (Heap.upd h l0 o0) l1 o1) l2 o2) (a0::a1::a2::a3::a4::a5::a6::os)).upd (h.n+6) o=Heap.on (Heap.upd (Heap.upd (Heap.upd h l0 o0) l1 o1) l2 o2) (a0::a1::a2::a3::a4::a5::some o::os):=uz (h:=(Heap.upd (Heap.upd (Heap.upd h l0 o0) l1 o1) l2 o2))
theorem akx {h:Heap} {l0 l1 l2:Nat} {o0 o1 o2:BObj} {a0 a1 a2 a3 a4 a5 a6 a7:Option BObj} {os:List (Option BObj)} {o:BObj}:(Heap.on (Heap.upd (Heap.upd (Heap.upd h l0 o0) l1 o1) l2 o2) (a0::a1::a2::a3::a4::a5::a6::a7::os)).upd (h.n+7) o=Heap.on (Heap.upd (Heap.upd (Heap.upd h l0 o0) l1 o1) l2 o2) (a0::a1::a2::a3::a4::a5::a6::some o::os):=tC (h:=(Heap.upd (Heap.upd (Heap.upd h l0 o0) l1 o1) l2 o2))
attribute [go_sem] aqB aij ai5 aim ak6 ajv akI ajx amh arl ajd ail ajl aiH ajE akh aiS ahS aqN aiG ak8 akv aj4 akB aih akw akx
theorem am9:vals []=[]:=rfl
theorem ah8 {d:DVal} {ds:List DVal}:vals (d::ds)= .val d::vals ds:=rfl
attribute [go_sem] am9 ah8
attribute [go_sem] ap2 ast aqV am4 apb ao8 aoX an9 aoZ af8 abx
attribute [go_sem] agh afq afQ aaa afB alh zY xD avN List.map_set
attribute [go_sem] afj asI anG ar3 av4 as8 ash avB List.all_cons List.all_nil Bool.and_self
attribute [go_sem] uH aaO ym zc auz aum List.getD_cons_zero List.getD_cons_succ List.map_replicate
attribute [go_sem] as6 xz tT List.set_cons_zero List.set_cons_succ arB arW arH arV asP asn ai4 se als avb List.length_append List.length_map
attribute [go_sem] aiI anh amO aiy amo zP atV au0 art asu any_nil any_cons asL arE arJ List.drop_succ_cons
theorem rD {C:Ctx} {R:cG} {m:Nat} {Q:Ex→St→Prop} {s s1:St} {id:Nat} {ops:Array Oper} {d:Bool} (ht:St.To m s s1) (h:aK C R m (.region id ops d) Q s1):aK C R m (.region id ops d) Q s:=w_to ht h fun k=>To.trans ht k
theorem Holds.idxK {α β:Type} {xs:List α} {i:Nat} {k:α→Option β} {D:β→Prop} (h:Holds (xs[i]?.bind k) D):∃ x,xs[i]? =some x∧(i < xs.length)=True∧Holds (k x) D:=by
 obtain ⟨x,h1,h2⟩:=h.bind
 exact ⟨x,h1,eq_true (List.getElem?_eq_some_iff.1 h1).1,h2⟩
theorem ank {k:Str} {v:Int}:mput (.str (bs k)) (.int .i64 v) []=encM eS eI (aput k v []):=rfl
theorem am0 {k:Int} {v:Int}:mput (.int .i64 k) (.int .i64 v) []=encM eI eI (aput k v []):=rfl
theorem ao6 {k:Int} {v:Bool}:mput (.int .i64 k) (.bool v) []=encM eI eB (aput k v []):=rfl
theorem amM {k:Str} {v:Bool}:mput (.str (bs k)) (.bool v) []=encM eS eB (aput k v []):=rfl
attribute [go_sem] ank am0 ao6 amM
def ath:Option (Nat×List DVal)→Option DVal
 | some p=>some (.sl p.2)
 | none=>none
theorem ad8 {k:Nat} {xs:List DVal}:ath (some (k,xs))=some (.sl xs):=rfl
def aeN (s:St):SV→Option DVal
 | .cv (.val d)=>some d
 | .cv .nil=>some (.sl [])
 | .cv (.row _ xs)=>some (.sl xs)
 | .alias r=>ath (s.rowAt r)
 | _=>none
theorem air {s:St} {d:DVal}:aeN s (.cv (.val d))=some d:=rfl
theorem ajn {s:St}:aeN s (.cv .nil)=some (.sl []):=rfl
theorem ajC {s:St} {k:Nat} {xs:List DVal}:aeN s (.cv (.row k xs))=some (.sl xs):=rfl
theorem yk {s:St} {r:Root}:aeN s (.alias r)=ath (s.rowAt r):=rfl
theorem aiw {s:St} {x:Operand}:lv s x=aeN s (s.opv x):=by
 unfold lv
 cases s.opv x with
 | cv c=>cases c <;> rfl
 | alias r=>simp only[aeN];cases s.rowAt r <;> rfl
 | undef=>rfl
 | imm _=>rfl
 | elt _ _ _=>rfl
 | bld _=>rfl
 | tup _=>rfl
def avw:Option DVal→Option (List DVal)→Option (List DVal)
 | some d,some ds=>some (d::ds)
 | _,_=>none
theorem ae3 {d:DVal} {ds:List DVal}:avw (some d) (some ds)=some (d::ds):=rfl
theorem ahN {s:St}:kV s []=some []:=rfl
theorem agL {s:St} {x:Operand} {xs:List Operand}:kV s (x::xs)=avw (lv s x) (kV s xs):=by
 rw[kV]
 cases lv s x with
 | none=>rfl
 | some d=>cases kV s xs <;> rfl
theorem awb {t:TypeId}:decide (t=t)=true:=by simp
attribute [go_sem] ad8 air ajn ajC yk aiw ae3 ahN agL awb cvTD.eq_5 anl.eq_1 Bool.true_and
def aqk (x:Operand):SV→Option Root
 | .cv (.row _ _)=>some (.slot (jr x))
 | .alias r=>some r
 | _=>none
theorem akr {x:Operand} {k:Nat} {xs:List DVal}:aqk x (.cv (.row k xs))=some (.slot (jr x)):=rfl
theorem yF {x:Operand} {r:Root}:aqk x (.alias r)=some r:=rfl
theorem ajV {s:St} {x:Operand}:rootOf s x=aqk x (s.opv x):=by
 unfold rootOf
 cases s.opv x with
 | cv c=>cases c <;> rfl
 | _=>rfl
attribute [go_sem] akr yF ajV
theorem awh:(true==false)=false:=rfl
theorem awe:(false==true)=false:=rfl
theorem awx:(true==true)=true:=rfl
theorem awF:(false==false)=true:=rfl
attribute [go_sem] awh awe awx awF Bool.not_true Bool.not_false
theorem Runs.as {C:Ctx} {f:FuncId} {as bs:List SV} {h:Heap} {Q:List SV→Heap→Prop} (hr:Runs C f as h Q) (e:as=bs):Runs C f bs h Q:=e ▸ hr
end Go.Val
namespace Go.Val
open Go.RowKit (Below)
variable {P:Program} {w:World} {G:Gh}
theorem tF {α β:Type} {f:α→Option β}:∀ {l:List α} {r:List β},l.mapM f=some r→r.length=l.length∧∀ (i:Nat) (x:α),l[i]? =some x→∃ y,f x=some y∧r[i]? =some y
 | [],r,h=>by
  simp at h;subst h
  exact ⟨rfl,fun i x hx=>by simp at hx⟩
 | a::l,r,h=>by
  rw[List.mapM_cons]at h
  cases ha:f a with
  | none=>rw[ha]at h;simp at h
  | some b=>
   cases hl:l.mapM f with
   | none=>rw[ha,hl]at h;simp at h
   | some bs=>
    rw[ha,hl]at h
    simp at h
    subst h
    obtain ⟨h1,h2⟩:=tF hl
    refine ⟨by simp[h1],fun i x hx=>?_⟩
    cases i with
    | zero=>simp at hx;subst hx;exact ⟨b,ha,rfl⟩
    | succ i=>simp at hx;simpa using h2 i x hx
def ajc (P:Program):Nat→List Field→Nat→Bool
 | o,[],n=>o==n
 | o,f::fs,n=>f.offset==o&&ajc P (o+P.cellsOf f.type) fs n
def aoT (P:Program):Nat→TypeId→Bool
 | 0,_=>false
 | m+1,t=>match P.underlying t with
  | some .bool=>true
  | some (.int _)=>true
  | some .string=>true
  | some (.slice e)=>decide (0 < P.cellsOf e)&&aoT P m e
  | some (.struct fs)=>ajc P 0 fs.toList (P.cellsOf t)&&fs.toList.all fun f=>aoT P m f.type&&(isAg P f.type||P.cellsOf f.type==1)
  | _=>false
def isF (p:TypeId→List DVal→Prop):List Field→List DVal→Prop
 | [],ds=>ds=[]
 | f::fs,ds=>∃ a b,ds=a++b∧p f.type a∧isF p fs b
def isT (P:Program):Nat→TypeId→List DVal→Prop
 | 0,_,_=>False
 | m+1,t,ds=>match P.underlying t with
  | some .bool=>∃ b,ds=[.bool b]
  | some (.int k)=>∃ n,ds=[.int k n]∧(Lit.int k n).wf=true
  | some .string=>∃ s,ds=[.str s]∧s.size≤maxLen
  | some (.slice e)=>∃ xs,ds=[.sl xs]∧xs.length≤maxLen∧∀ x∈xs,isT P m e x.cells∧(isAg P e=true→∃ cs,x= .agg cs)∧(isAg P e=false→x.one=true)
  | some (.struct fs)=>isF (isT P m) fs.toList ds
  | _=>False
def imm? (G:Gh) (w:World):Prop:=∀ b,b < w.heap.size→G.g b= .imm
theorem wW {p:TypeId→List DVal→Prop} {cs:List Value}:∀ {fs:List Field} {o n:Nat},ajc P o fs n=true→n=cs.length→(∀ f∈fs,∃ ds,bD w G ds ((cs.drop f.offset).take (P.cellsOf f.type))∧p f.type ds∧ds.length=P.cellsOf f.type)→
  ∃ ds,bD w G ds (cs.drop o)∧isF p fs ds
 | [],o,n,ht,hn,_=>by
  simp only[ajc,beq_iff_eq]at ht
  refine ⟨[],?_,rfl⟩
  rw[List.drop_eq_nil_of_le (by omega)]
  exact .nil
 | f::fs,o,n,ht,hn,hp=>by
  simp only[ajc,Bool.and_eq_true,beq_iff_eq]at ht
  obtain ⟨a,h1,h2,h3⟩:=hp f (by simp)
  obtain ⟨b,g1,g2⟩:=wW ht.2 hn fun f' hf'=>hp f' (by simp[hf'])
  rw[ht.1]at h1
  refine ⟨a++b,?_,a,b,rfl,h2,g2⟩
  have:cs.drop o=(cs.drop o).take (P.cellsOf f.type)++cs.drop (o+P.cellsOf f.type):=by
   rw[← List.drop_drop,List.take_append_drop]
  rw[this]
  exact h1.append g1
theorem ad2 {a:Addr} {n:Nat} {vs:List Value} (h:w.cells? 0 a n=some vs):vs.length=n∧∀ (i:Nat) (v:Value),vs[i]? =some v→w.cell? (a.add i)=some v:=by
 unfold World.cells? at h
 rw[if_pos (Nat.zero_le _)]at h
 obtain ⟨h1,h2⟩:=tF h
 refine ⟨by simpa using h1,fun i v hv=>?_⟩
 have hi:i < n:=by have:=(List.getElem?_eq_some_iff.1 hv).1;simp at h1;omega
 obtain ⟨y,hy,hr⟩:=h2 i i (by simp[hi])
 rw[hv]at hr
 cases hr
 exact hy
theorem vG {p:DVal→Prop} {a:Addr} {k:Nat} (hk:0 < k):∀ (len:Nat),(∀ i,i < len→∃ vs x,w.cells? 0 (a.add (i*k)) k=some vs∧bD w G x.cells vs∧p x)→
  ∃ xs vs,xs.length=len∧(∀ x∈xs,p x∧x.cells.length=k)∧bD w G (aV xs) vs∧vs.length=len*k∧(∀ (i:Nat) (v:Value),vs[i]? =some v→w.cell? ((a.add (i/k*k)).add (i%k))=some v)
 | 0,_=>⟨[],[],rfl,by simp,.nil,by simp,by simp⟩
 | len+1,h=>by
  obtain ⟨xs,vs,h1,h2,h3,h4,h5⟩:=vG hk len fun i hi=>h i (by omega)
  obtain ⟨us,x,g1,g2,g3⟩:=h len (by omega)
  obtain ⟨g4,g5⟩:=ad2 g1
  refine ⟨xs++[x],vs++us,by simp[h1],fun y hy=>?_,?_,by simp[h4,g4,Nat.add_mul],fun i v hv=>?_⟩
  ·rcases List.mem_append.1 hy with hy | hy
   ·exact h2 y hy
   ·simp at hy;subst hy;exact ⟨g3,by have:=g2.length;omega⟩
  ·simp only[aV,List.flatMap_append,List.flatMap_cons,List.flatMap_nil,List.append_nil]
   exact h3.append g2
  ·by_cases hi:i < vs.length
   ·rw[List.getElem?_append_left hi]at hv;exact h5 i v hv
   ·rw[List.getElem?_append_right (by omega)]at hv
    have hlt:i - vs.length < us.length:=(List.getElem?_eq_some_iff.1 hv).1
    have e1:i/k=len:=by
     apply Nat.div_eq_of_lt_le
     ·omega
     ·rw[Nat.add_mul];omega
    have e2:i%k=i - vs.length:=by
     have:=Nat.div_add_mod i k
     rw[e1,Nat.mul_comm]at this;omega
    rw[e1,e2]
    exact g5 _ _ hv
theorem adN {H:Type} {enc:TypeId×Value→H} {spare:Nat→Bool} {held:Bool} (hi:imm? G w):∀ (m:Nat) {fuel:Nat} {t:TypeId} {cs:List Value} {d:DataW H} {ps:List MemPlace},
  aoT P m t=true→DataW.trod enc P w 0 spare held fuel t cs=some (d,ps)→∃ ds,bD w G ds cs∧isT P m t ds∧ds.length=cs.length∧(isAg P t=false→cs.length=1)∧(isAg P t=true→cs.length=P.cellsOf t)
 | 0,_,_,_,_,_,hf,_=>by cases hf
 | m+1,0,_,_,_,_,_,h=>by cases h
 | m+1,fuel+1,t,cs,d,ps,hf,h=>by
  have ih:=@adN H enc spare held hi m
  unfold aoT at hf
  unfold isT
  cases hu:P.underlying t with
  | none=>rw[hu]at hf;cases hf
  | some td=>
   rw[hu]at hf
   cases td
   case bool=>
    simp only[DataW.trod,hu]at h
    split at h
    all_goals first | (rename_i heq;cases heq;done) | skip
    ·cases h;exact ⟨[.bool _],.cons _ _ _ _ rfl (.bool _) .nil,⟨_,rfl⟩,rfl,fun _=>rfl,fun e=>by simp[isAg,hu]at e⟩
    ·cases h
   case int k=>
    simp only[DataW.trod,hu]at h
    split at h
    all_goals first | (rename_i heq;cases heq;done) | skip
    ·rename_i heq
     cases heq
     split at h
     ·rename_i hc
      cases h
      obtain ⟨rfl,hwf⟩:=hc
      exact ⟨[.int _ _],.cons _ _ _ _ rfl (.int _ _) .nil,⟨_,rfl,hwf⟩,rfl,fun _=>rfl,fun e=>by simp[isAg,hu]at e⟩
     ·cases h
    ·cases h
   case string=>
    simp only[DataW.trod,hu]at h
    split at h
    all_goals first | (rename_i heq;cases heq;done) | skip
    ·split at h
     ·rename_i hc
      cases h
      exact ⟨[.str _],.cons _ _ _ _ rfl (.str _) .nil,⟨_,rfl,hc⟩,rfl,fun _=>rfl,fun e=>by simp[isAg,hu]at e⟩
     ·cases h
    ·cases h
   case slice e=>
    simp only[Bool.and_eq_true,decide_eq_true_eq]at hf
    simp only[DataW.trod,hu]at h
    split at h
    all_goals first | (rename_i heq;cases heq;done) | skip
    ·cases h
     exact ⟨[.sl []],.cons _ _ _ _ rfl (.nilsl none 0) .nil,⟨[],rfl,by simp,by simp⟩,rfl,fun _=>rfl,fun e=>by simp[isAg,hu]at e⟩
    ·rename_i a len cap heq
     cases heq
     split at h
     ·rename_i hc
      simp only[Option.bind_eq_some_iff,Option.map_eq_some_iff]at h
      obtain ⟨elems,hel,rest,hrest,_⟩:=h
      obtain ⟨hl,hat⟩:=tF hel
      simp only[List.length_range]at hl
      obtain ⟨xs,vs,g1,g2,g3,g4,g5⟩:=vG (w:=w) (G:=G) (p:=fun x=>isT P m e x.cells∧(isAg P e=true→∃ cs,x= .agg cs)∧(isAg P e=false→x.one=true)) (a:=a) hf.1 len fun i hi=>by
       obtain ⟨y,hy,_⟩:=hat i i (by simp[hi])
       obtain ⟨vs,hvs,hr⟩:=Option.bind_eq_some_iff.1 hy
       obtain ⟨ds,k1,k2,k3,k4,k5⟩:=ih (d:=y.1) (ps:=y.2) hf.2 hr
       cases hag:isAg P e with
       | true=>
        refine ⟨vs,.agg ds,hvs,k1,k2,fun _=>⟨ds,rfl⟩,fun e=>by cases e⟩
       | false=>
        have h1:=k4 hag
        cases k1 with
        | nil=>simp at h1
        | cons d v ds' vs' q1 q2 q3=>
         have hv':vs'=[]:=by simpa using h1
         subst hv'
         cases q3
         have hcell:d.cells=[d]:=by cases d <;> first | rfl | (simp[DVal.one]at q1)
         exact ⟨[v],d,hvs,by rw[hcell];exact .cons _ _ _ _ q1 q2 .nil,by rw[hcell];exact k2,fun e=>by (cases e),fun _=>q1⟩
      refine ⟨[.sl xs],?_,⟨xs,rfl,by omega,fun x hx=>(g2 x hx).1⟩,rfl,fun _=>rfl,fun e=>by simp[isAg,hu]at e⟩
      refine .cons _ _ _ _ rfl ?_ .nil
      subst g1
      cases hx:xs with
      | nil=>exact .nilsl (some a) cap
      | cons x0 xs0=>
       rw[← hx]
       have hne:xs≠[]:=by rw[hx];simp
       have hlen:0 < xs.length:=by rw[hx];simp
       have hvl:0 < vs.length:=by rw[g4];exact Nat.mul_pos hlen hf.1
       have h0:=g5 0 _ (List.getElem?_eq_getElem hvl)
       simp only[Nat.zero_div,Nat.zero_mod,Nat.zero_mul]at h0
       have hspot:a.spot=none:=by simpa[Addr.add]using World.cell?_spot h0
       have hb:a.block < w.heap.size:=by have:=ux h0;simpa[gm]using this
       refine .sl xs a cap (P.cellsOf e) vs hne (by omega) (hi _ hb) hb hspot (fun x hx=>(g2 x hx).2) g3 fun i v hv=>?_
       have:=g5 i v hv
       rw[add_add a _ _ hspot]at this
       rwa[Nat.div_add_mod']at this
     ·cases h
    ·cases h
   case struct fs=>
    simp only[Bool.and_eq_true,List.all_eq_true]at hf
    simp only[DataW.trod,hu]at h
    split at h
    ·rename_i hlen
     simp only[Option.map_eq_some_iff]at h
     obtain ⟨xs,hxs,_⟩:=h
     obtain ⟨hl,hat⟩:=tF hxs
     obtain ⟨ds,k1,k2⟩:=wW (w:=w) (G:=G) (p:=isT P m) hf.1 hlen.symm fun f hff=>by
      obtain ⟨i,hi⟩:=List.getElem?_of_mem hff
      obtain ⟨y,hy,_⟩:=hat i f hi
      obtain ⟨ds,q1,q2,q3,q4,q5⟩:=ih (d:=y.1) (ps:=y.2) (hf.2 f hff).1 hy
      refine ⟨ds,q1,q2,?_⟩
      cases hag:isAg P f.type with
      | true=>rw[q3];exact q5 hag
      | false=>rw[q3,q4 hag];(have:=(hf.2 f hff).2;simp[hag]at this;exact this.symm)
     have k1':bD w G ds cs:=k1
     refine ⟨ds,k1',k2,k1'.length.symm,fun e=>by simp[isAg,hu]at e,fun _=>hlen⟩
    ·cases h
   all_goals cases hf
def gh0 (P:Program) (w:World):Gh:=⟨P,fun b=>if b < w.heap.size then .imm else .other,fun _=>0,0⟩
def aug:Heap:=⟨0,fun _=>none⟩
theorem ajG (P:Program) (w:World):imm? (gh0 P w) w:=fun b hb=>by simp[gh0,hb]
theorem alR {C:Ctx} (hX:eC C) (hm:C.P.follows .mixedOrders=true) {f:FuncId} {args:List SV} {vs:List Value} {w:World} {b:Bool} (hr:Runs C f args aug fun o h'=>o=[.cv (.val (.bool b))]∧h'=aug)
  (ha:cK w (gh0 C.P w) .slot 0 args vs):Calls C.P f vs.toArray w fun e w'=>e= .returned (.bool b)∧Below w.heap.size w w':=by
 refine Calls.mono ((ot hX hm hr).2 w (gh0 C.P w) vs rfl ha ⟨rfl,fun l o h=>by cases h⟩ (fun b hb=>by simp[gh0];omega)) fun e w' ⟨us,out,h',G',h1,h2,h3,h4,h5,h6⟩=>?_
 obtain ⟨rfl,rfl⟩:=h2
 cases h3 with
 | cons c v os vs g1 g2=>
  cases g2
  have g1':RelV w' G' (.bool b) v:=g1
  cases g1'
  exact ⟨h1,h6.os,h6.tape,h6.output,h6.size,fun k hk=>(h6.imm k (ajG _ _ k hk) hk).2⟩
theorem ai3 {α:Type} {e:α→DVal}:∀ {xs:List DVal},(∀ x∈xs,∃ y,x=e y)→∃ l:List α,xs=l.map e
 | [],_=>⟨[],rfl⟩
 | x::xs,h=>by
  obtain ⟨y,hy⟩:=h x (by simp)
  obtain ⟨l,hl⟩:=ai3 (xs:=xs) fun x hx=>h x (List.mem_cons_of_mem _ hx)
  exact ⟨y::l,by simp[hy,hl]⟩
theorem asR {m:Nat} {t:TypeId} {ds:List DVal} (hu:P.underlying t=some (.int .i64)) (h:isT P (m+1) t ds):∃ n:Int,ds=[eI n]∧ -9223372036854775808≤n∧n≤9223372036854775807:=by
 unfold isT at h;rw[hu]at h
 obtain ⟨n,h1,h2⟩:=h
 refine ⟨n,h1,?_⟩
 simp[Lit.wf,IntKind.min,IntKind.max,IntKind.signed,IntKind.bits]at h2
 omega
theorem ak1 {m:Nat} {t e:TypeId} {ds:List DVal} {α:Type} {en:α→DVal} (hu:P.underlying t=some (.slice e)) (h:isT P (m+1) t ds) (he:∀ x,isT P m e x.cells→(isAg P e=true→∃ cs,x= .agg cs)→(isAg P e=false→x.one=true)→∃ y,x=en y):
  ∃ l:List α,ds=[eL en l]∧l.length≤maxLen:=by
 unfold isT at h;rw[hu]at h
 obtain ⟨xs,h1,h2,h3⟩:=h
 obtain ⟨l,hl⟩:=ai3 fun x hx=>he x (h3 x hx).1 (h3 x hx).2.1 (h3 x hx).2.2
 exact ⟨l,by rw[h1,hl];rfl,by rw[hl]at h2;simpa using h2⟩
theorem avH {x d:DVal} (h:x.cells=[d]) (ho:x.one=true):x=d:=by
 cases x <;> first | (simpa[DVal.cells]using h) | (simp[DVal.one]at ho)
end Go.Val
namespace Go.Val
section
variable {C:Ctx} {R:cG} {m:Nat} {Q:Ex→St→Prop} {s:St}
theorem ah {id:Nat} {ops:Array Oper} {l:List Oper} {s':St} (hk:Q .normal s') (hl:ops.toList=l:=by rfl) (h:gH C.P ops l s=some s':=by simp (disch:=(apply bu.mk;decide)) only[go_sem,Nat.reduceAdd,Nat.reduceLT,Nat.reduceMul,Nat.reduceLeDiff,Int.reduceToNat,Int.reduceLT,Int.reduceLE, *];rfl):aK C R m (.region id ops false) Q s:=lP hl h hk
theorem au (k:Nat) {ops:Array Oper} {K:St→Prop} {l:List Oper} {s':St} {o:Oper} {os:List Oper} (hk:wpOps C R ops (o::os) K s') (hl:l.drop k=o::os:=by rfl) (h:gH C.P ops (l.take k) s=some s':=by simp (disch:=(apply bu.mk;decide)) only[go_sem,Nat.reduceAdd,Nat.reduceLT,Nat.reduceMul,Nat.reduceLeDiff,Int.reduceToNat,Int.reduceLT,Int.reduceLE, *];rfl):wpOps C R ops l K s:=aui k hl h hk
theorem bC {id:Nat} {ops:Array Oper} {l:List Oper} (h:wpOps C R ops l (Q .normal) s) (hl:ops.toList=l:=by rfl):aK C R m (.region id ops false) Q s:=av7 hl h
theorem af {ops:Array Oper} {K:St→Prop} {l:List Oper} {s':St} (hk:K s') (h:gH C.P ops l s=some s':=by simp (disch:=(apply bu.mk;decide)) only[go_sem,Nat.reduceAdd,Nat.reduceLT,Nat.reduceMul,Nat.reduceLeDiff,Int.reduceToNat,Int.reduceLT,Int.reduceLE, *];rfl):wpOps C R ops l K s:=alW h hk
theorem il {ops:Array Oper} {os:List Oper} {K:St→Prop} {o:Oper} (hk:wpOps C R ops os K (s.put o.dst .undef)) (h0:guardOf ops s o=some false:=by simp (disch:=(apply bu.mk;decide)) only[go_sem,Nat.reduceAdd,Nat.reduceLT,Nat.reduceMul,Nat.reduceLeDiff,Int.reduceToNat,Int.reduceLT,Int.reduceLE, *]):wpOps C R ops (o::os) K s:=aws h0 hk
theorem lG (t:Bool) {c:Operand} {a b:Code} (h1:t=true→aK C R m a Q s) (h2:t=false→aK C R m b Q s) (hc:s.opv c= .cv (.val (.bool t)):=by simp (disch:=(apply bu.mk;decide)) only[go_sem,Nat.reduceAdd,Nat.reduceLT,Nat.reduceMul,Nat.reduceLeDiff,Int.reduceToNat,Int.reduceLT,Int.reduceLE, *]):aK C R m (.cond c a b) Q s:=avC hc h1 h2
theorem ar {c:Operand} {x y:Code} {t:Bool} {α:Type} {A B:Option α} {D:α→Prop} (hr:Holds (if t=true then A else B) D) (h1:t=true→Holds A D→aK C R m x Q s) (h2:t=false→Holds B D→aK C R m y Q s) (hc:s.opv c= .cv (.val (.bool t)):=by simp (disch:=(apply bu.mk;decide)) only[go_sem,Nat.reduceAdd,Nat.reduceLT,Nat.reduceMul,Nat.reduceLeDiff,Int.reduceToNat,Int.reduceLT,Int.reduceLE, *]):aK C R m (.cond c x y) Q s:=atm hc hr h1 h2
theorem ai {h:Heap} {os os':List (Option BObj)} {sl:List (Nat×SV)} (hwf:h.WF) (hm:m≤h.n:=by exact Nat.le_refl _) (hb:s.box=h.on os:=by first | rfl | (simp (disch:=(apply bu.mk;decide)) only[go_sem,Nat.reduceAdd,Nat.reduceLT,Nat.reduceMul,Nat.reduceLeDiff,Int.reduceToNat,Int.reduceLT,Int.reduceLE, *];rfl))
  (hc:cutO (h.on os').n os os'∧cutS s (h.on os') (h.on os').n sl sl:=by simp (disch:=(apply bu.mk;decide)) only[go_sem,Nat.reduceAdd,Nat.reduceLT,Nat.reduceMul,Nat.reduceLeDiff,Int.reduceToNat,Int.reduceLT,Int.reduceLE, *]):St.To m s ⟨sl,h.on os'⟩:=To.cut hwf hm hb hc
theorem aY {s1:St} {f:FuncId} {fn:Func} {P:List SV→Heap→Prop} {out:List SV} {h':Heap} (ht:St.To m s s1) (hq:P out h') (hres:results C f s1 fn.results.toList=some (out,h'):=by simp (disch:=(apply bu.mk;decide)) only[go_sem,Nat.reduceAdd,Nat.reduceLT,Nat.reduceMul,Nat.reduceLeDiff,Int.reduceToNat,Int.reduceLT,Int.reduceLE,dH,ej.eq_2,cR, *]):atEnd C m f fn P .ret s:=vD ht hres hq
theorem aue {s1:St} {f:FuncId} {fn:Func} {P:List SV→Heap→Prop} {out:List SV} {h':Heap} (ht:St.To m s s1) (hq:P out h') (hres:results C f s1 fn.results.toList=some (out,h'):=by simp (disch:=(apply bu.mk;decide)) only[go_sem,Nat.reduceAdd,Nat.reduceLT,Nat.reduceMul,Nat.reduceLeDiff,Int.reduceToNat,Int.reduceLT,Int.reduceLE,dH,ej.eq_2,cR, *]):atEnd C m f fn P .normal s:=au2 ht hres hq
end
section
variable {C:Ctx} {s:St}
theorem be {ops:Array Oper} {os:List Oper} {K:St→Prop} {dst:Option Tmp} {ty:TypeId} {pos:String} {after:Array Edge} {f:Operand} {args:Array Operand} {ts:Array TypeId} {gd:Option (Nat×Bool)}
  {g:FuncId} {fs cs:List DVal} {as:List SV} {es:List Eff} {s1:St} {out:List SV} {hp:Heap}
  (h4:Runs C g (sval fs++as++sval cs) s1.box fun o h'=>o=out∧h'=hp) (h5:(packed out).isSome=true) (hk:wpOps C (Runs C) ops os K (St.put ⟨cJ SV.uncell s1.slots,hp⟩ dst ((packed out).getD .undef)))
  (h0:guardOf ops s ⟨dst,.call ⟨.value f,args,ts⟩,ty,pos,after,gd⟩=some true:=by first | rfl | (simp (disch:=(apply bu.mk;decide)) only[go_sem,Nat.reduceAdd,Nat.reduceLT,Nat.reduceMul,Nat.reduceLeDiff,Int.reduceToNat,Int.reduceLT,Int.reduceLE, *])) (h1:callee s f=some (g,fs,cs):=by simp (disch:=(apply bu.mk;decide)) only[go_sem,Nat.reduceAdd,Nat.reduceLT,Nat.reduceMul,Nat.reduceLeDiff,Int.reduceToNat,Int.reduceLT,Int.reduceLE,Option.getD_some, *];rfl) (h2:gy C g s fs.length args.toList=some (as,es):=by simp (disch:=(apply bu.mk;decide)) only[go_sem,Nat.reduceAdd,Nat.reduceLT,Nat.reduceMul,Nat.reduceLeDiff,Int.reduceToNat,Int.reduceLT,Int.reduceLE,Option.getD_some, *];rfl) (h3:s.effs es=s1:=by simp (disch:=(apply bu.mk;decide)) only[go_sem,Nat.reduceAdd,Nat.reduceLT,Nat.reduceMul,Nat.reduceLeDiff,Int.reduceToNat,Int.reduceLT,Int.reduceLE,Option.getD_some, *];rfl):
  wpOps C (Runs C) ops (⟨dst,.call ⟨.value f,args,ts⟩,ty,pos,after,gd⟩::os) K s:=apZ h0 h1 h2 h3 h4 h5 hk
end
theorem locF {h:Heap} {l:Nat} (hl:l < h.n):(∀ os,(h.on os).at_ l=h.at_ l)∧(∀ k,(l < h.n+k)=True)∧(l < h.n)=True:=⟨fun os=>dS hl,fun k=>el hl,eq_true hl⟩
theorem adr {C:Ctx} {s:St} {R:cG} {ops:Array Oper} {os:List Oper} {K:St→Prop} {dst:Option Tmp} {ty ty' t e:TypeId} {pos:String} {after:Array Edge} {x:Operand} {gd:Option (Nat×Bool)} {xs:List DVal}
  (h0:guardOf ops s ⟨dst,.binOp .eql t x (.const (.slice none 0 0)) ty',ty,pos,after,gd⟩=some true) (hu:C.P.underlying t=some (.slice e)) (hx:optVal s x=some (.sl xs))
  (hk:∀ b,(xs≠[]→b=false)→wpOps C R ops os K (s.put dst (.cv (.val (.bool b))))):
  wpOps C R ops (⟨dst,.binOp .eql t x (.const (.slice none 0 0)) ty',ty,pos,after,gd⟩::os) K s:=
 ⟨true,h0,fun _=>.inl ⟨t,x,ty',xs,e,rfl,hu,hx,hk⟩,fun e=>by cases e⟩
end Go.Val
namespace Go.Val
def eK (k:IntKind) (n:Int):DVal:=.int k n
instance {k:IntKind}:Enc (eK k) 1:=⟨fun _=>rfl,fun n x=>by simp only[eK,DVal.under]⟩
instance {k:IntKind}:Key (eK k):=⟨fun a b=>by
 simp only[gF,eK,decide_true,Bool.true_and]
 by_cases h:a=b
 ·subst h;simp
 ·simp[h]⟩
def eA {α:Type} {n:Nat} (e:α→DVal) (v:Vector α n):DVal:=.agg (v.toList.map e)
def bQ {α:Type} {n:Nat} (e:α→DVal) (v:Vector α n):List CV:=(v.toList.map e).map CV.val
variable {α:Type} {n:Nat} {e:α→DVal} {v:Vector α n} {cs:List CV}
instance {k:Nat} [Enc e k]:Enc (eA (n:=n) e) n:=⟨fun x=>by simp[eA,DVal.cells],fun m x=>by simp only[eA,DVal.under];rw[de];trivial⟩
theorem fG:(bQ e v).length=n:=by simp[bQ]
theorem ad1:(bQ e v++cs).length=n+cs.length:=by simp[bQ]
theorem aff:(v.toList.map e).map CV.val=bQ e v:=rfl
theorem akH:vals (v.toList.map e)=bQ e v:=rfl
theorem vH:∀ (l:List DVal),toDs (l.map CV.val)=some l
 | []=>rfl
 | d::l=>by simp[toDs,CV.toD,vH l]
theorem ahx:toDs (bQ e v)=some (v.toList.map e):=vH _
theorem jl:∀ (l:List DVal) (cs:List CV),dM (l.map CV.val++cs)=dM cs
 | [],_=>rfl
 | d::l,cs=>by
  have:=jl l cs
  simp only[List.map_cons,List.cons_append,dM,this]
  rfl
theorem nv:dM (bQ e v++cs)=dM cs:=jl _ _
theorem vg:dM (bQ e v)=false:=by
 have:=nv (e:=e) (v:=v) (cs:=[])
 rw[List.append_nil]at this
 exact this
theorem xV {k:Nat}:dM ((bQ e v).drop k)=false:=by
 unfold bQ
 rw[← List.map_drop]
 have:=jl ((v.toList.map e).drop k) []
 rw[List.append_nil]at this
 rw[this];rfl
theorem tj:(bQ e v).take n=bQ e v:=List.take_of_length_le (by rw[fG];exact Nat.le_refl _)
theorem zM:(bQ e v++cs).take n=bQ e v:=by rw[List.take_append_of_le_length (by rw[fG];exact Nat.le_refl _),tj]
theorem yO:(bQ e v++cs).drop n=cs:=by
 have h:=List.drop_left (l₁:=bQ e v) (l₂:=cs)
 rw[fG]at h;exact h
theorem tf:(bQ e v++cs)[n]? =cs[0]? :=by
 rw[List.getElem?_append_right (by rw[fG];exact Nat.le_refl _),fG,Nat.sub_self]
theorem aaZ {d:CV}:(bQ e v++cs).getD n d=cs.getD 0 d:=by simp only[List.getD_eq_getElem?_getD,tf]
theorem agE {c:CV}:(bQ e v++cs).set n c=bQ e v++cs.set 0 c:=by
 rw[List.set_append_right _ _ (by rw[fG];exact Nat.le_refl _),fG,Nat.sub_self]
def vset (v:Vector α n) (i:Int) (x:α):Vector α n:=v.setIfInBounds i.toNat x
theorem vw {i:Int} {x:α}:(vset v i x).toList=v.toList.set i.toNat x:=by simp[vset]
theorem rq {i:Int} {x:α}:(bQ e v).set i.toNat (.val (e x))=bQ e (vset v i x):=by
 unfold bQ
 rw[vw,List.map_set,List.map_set]
theorem ahg {i:Int} {x:α} (h:i.toNat < n):(bQ e v++cs).set i.toNat (.val (e x))=bQ e (vset v i x)++cs:=by
 rw[List.set_append_left _ _ (by rw[fG];exact h),rq]
theorem vO {i:Int} {x:α} (h:v.toList[i.toNat]? =some x):(bQ e v)[i.toNat]? =some (.val (e x)):=by
 unfold bQ;rw[List.getElem?_map,List.getElem?_map,h];rfl
theorem sZ {i:Int} {x:α} (h:v.toList[i.toNat]? =some x):(bQ e v++cs)[i.toNat]? =some (.val (e x)):=by
 have h1:=vO (e:=e) h
 rw[List.getElem?_append_left (by have:=(List.getElem?_eq_some_iff.1 h1).1;exact this)];exact h1
theorem afD {i:Int} {x:α} {d:CV} (h:v.toList[i.toNat]? =some x):(bQ e v).getD i.toNat d= .val (e x):=by rw[List.getD_eq_getElem?_getD,vO h];rfl
theorem aaV {i:Int} {x:α} {d:CV} (h:v.toList[i.toNat]? =some x):(bQ e v++cs).getD i.toNat d= .val (e x):=by rw[List.getD_eq_getElem?_getD,sZ h];rfl
theorem as5 {n:Int}:eU (u8 (IntKind.u8.wrap n))= .int .u8 (IntKind.u8.wrap n):=by unfold eU;rw[ahU]
theorem pg {m:Nat}:∀ (l:List DVal) (cs:List CV),bv m l→(eR m (l.map CV.val++cs)=eR m cs)
 | [],_,_=>rfl
 | d::l,cs,h=>by
  have h1:d.under m∧bv m l:=h
  have:=pg l cs h1.2
  show (((CV.val d).under m)∧eR m (l.map CV.val++cs))=_
  rw[this]
  exact propext ⟨fun x=>x.2,fun x=>⟨h1.1,x⟩⟩
theorem mf {m k:Nat} [Enc e k]:eR m (bQ e v++cs)=eR m cs:=pg _ _ (by rw[de];trivial)
theorem uB {m k:Nat} [Enc e k]:eR m (bQ e v)=True:=by
 have:=mf (e:=e) (v:=v) (cs:=[]) (m:=m)
 rw[List.append_nil]at this
 rw[this];rfl
theorem aqA {m:Nat}:(m+1 < 1)=False:=eq_false (by omega)
theorem sm:∀ (l:List DVal) (cs:List CV),toDs (l.map CV.val++cs)=(toDs cs).map fun ds=>l++ds
 | [],cs=>by simp
 | d::l,cs=>by
  have:=sm l cs
  simp only[List.map_cons,List.cons_append,toDs,CV.toD,this]
  cases toDs cs <;> rfl
theorem aav:toDs (bQ e v++cs)=(toDs cs).map fun ds=>v.toList.map e++ds:=sm _ _
theorem qV:∀ (l:List DVal) (cs cs':List CV),CV.fitsL (l.map CV.val++cs) (l.map CV.val++cs')=CV.fitsL cs cs'
 | [],_,_=>rfl
 | d::l,cs,cs'=>by
  have:=qV l cs cs'
  simp only[List.map_cons,List.cons_append,sn,this,sV,true_and]
theorem oZ {cs':List CV}:CV.fitsL (bQ e v++cs) (bQ e v++cs')=CV.fitsL cs cs':=qV _ _ _
theorem ach:CV.fitsL (bQ e v) (bQ e v)=True:=by
 have:=oZ (e:=e) (v:=v) (cs:=[]) (cs':=[])
 rw[List.append_nil]at this
 rw[this];simp only[vC]
theorem xq {m:Nat} {v:Vector α (m+1)}:dM ((bQ e v++cs).drop 1)=dM cs:=by
 have hl:(bQ e v).length=m+1:=fG
 rw[List.drop_append_of_le_length (by omega)]
 unfold bQ
 rw[← List.map_drop]
 exact jl _ _
theorem nJ {i:Nat} {x:α} (h:v.toList[i]? =some x):i < n:=by have:=(List.getElem?_eq_some_iff.1 h).1;simpa using this
theorem anJ {i:Nat} {x:α} (h:v.toList[i]? =some x):(v.toList.map e).drop i=e x::(v.toList.map e).drop (i+1):=by
 have h1:(v.toList.map e)[i]? =some (e x):=by rw[List.getElem?_map,h];rfl
 obtain ⟨hlt,hg⟩:=List.getElem?_eq_some_iff.1 h1
 rw[List.drop_eq_getElem_cons hlt,hg]
theorem nS {K:Type} [DecidableEq K] {e:K→DVal} [Key e] (hi:∀ a,∃ k m,e a= .int k m):∀ {l m:List K},iE (l.map e) (m.map e)=decide (l=m)
 | [],[]=>rfl
 | [],b::m=>by simp[iE]
 | a::l,[]=>by
  obtain ⟨k,x,hx⟩:=hi a
  simp[iE,hx]
 | a::l,b::m=>by
  obtain ⟨k,x,hx⟩:=hi a
  obtain ⟨k',y,hy⟩:=hi b
  have h:=Key.eq (e:=e) a b
  rw[hx,hy]at h
  simp only[gF]at h
  simp only[List.map_cons,hx,hy,iE,nS hi (l:=l) (m:=m)]
  have h':(decide (k=k')&&x==y)=decide (a=b):=h
  rw[h']
  simp only[List.cons.injEq,Bool.decide_and]
theorem at1 (a:UInt8):∃ k m,eU a= .int k m:=⟨_,_,rfl⟩
theorem avA (a:Int):∃ k m,eI a= .int k m:=⟨_,_,rfl⟩
instance:Key eU:=⟨fun a b=>by
 simp only[gF,eU,decide_true,Bool.true_and]
 by_cases h:a=b
 ·subst h;simp
 ·have:¬ a.toNat=b.toNat:=fun e=>h (UInt8.toNat_inj.1 e)
  simp[h];omega⟩
instance:Key (eA (n:=n) eU):=⟨fun a b=>by
 simp only[gF,eA]
 rw[nS at1]
 exact decide_eq_decide.2 Vector.toList_inj⟩
instance:Key (eA (n:=n) eI):=⟨fun a b=>by
 simp only[gF,eA]
 rw[nS avA]
 exact decide_eq_decide.2 Vector.toList_inj⟩
theorem adG:∀ (l:List UInt8),kQ .u8 (l.map eU)=true
 | []=>rfl
 | a::l=>by simp[kQ,eU,adG l]
theorem aoB {P:Program} {kt t:TypeId} {v:Vector UInt8 n} (h:P.underlying t=some (.int .u8)) (hc:P.cellsOf t=1):isKey P kt (.array n t) (.agg (v.toList.map eU))=true:=by
 simp only[isKey,acD,h,hc,adG];simp
theorem apX {V:Type} {d:V→DVal} {q:IntKind} {k:Int} {es:List (Int×V)}:dZ (.int q k) (encM (eK q) d es)=(aget k es).map d:=iU (e:=eK q)
theorem aqm {q:IntKind} {k:Int} {v:Int} {es:List (Int×Int)}:mput (.int q k) (.int .i64 v) (encM (eK q) eI es)=encM (eK q) eI (aput k v es):=iA (e:=eK q) (d:=eI)
theorem ano {V:Type} {d:V→DVal} {k:Vector UInt8 n} {es:List (Vector UInt8 n×V)}:dZ (.agg (k.toList.map eU)) (encM (eA eU) d es)=(aget k es).map d:=iU (e:=eA eU)
theorem aon {k:Vector UInt8 n} {v:Int} {es:List (Vector UInt8 n×Int)}:mput (.agg (k.toList.map eU)) (.int .i64 v) (encM (eA eU) eI es)=encM (eA eU) eI (aput k v es):=iA (e:=eA eU) (d:=eI)
theorem aoj {V:Type} {d:V→DVal} {k:Vector Int n} {es:List (Vector Int n×V)}:dZ (.agg (k.toList.map eI)) (encM (eA eI) d es)=(aget k es).map d:=iU (e:=eA eI)
theorem aoa {k:Vector Int n} {v:Int} {es:List (Vector Int n×Int)}:mput (.agg (k.toList.map eI)) (.int .i64 v) (encM (eA eI) eI es)=encM (eA eI) eI (aput k v es):=iA (e:=eA eI) (d:=eI)
attribute [go_sem] xq aav oZ ach aqA mf uB Vector.length_toList xV eK eA fG ad1 aff akH ahx vg nv tj zM yO tf aaZ agE rq apX aqm ano aon aoj aoa
end Go.Val
namespace Go.Val
mutual
def DVal.beq:DVal→DVal→Bool
 | .int k n,.int k' n'=>decide (k=k')&&decide (n=n')
 | .bool b,.bool b'=>decide (b=b')
 | .str s,.str s'=>decide (s.data.toList=s'.data.toList)
 | .sl xs,.sl ys=>DVal.beqL xs ys
 | .agg xs,.agg ys=>DVal.beqL xs ys
 | .ptr a,.ptr b=>decide (a=b)
 | .map a,.map b=>decide (a=b)
 | .fn f as bs,.fn g cs ds=>decide (f=g)&&DVal.beqL as cs&&DVal.beqL bs ds
 | .nilfn,.nilfn=>true
 | _,_=>false
def DVal.beqL:List DVal→List DVal→Bool
 | [],[]=>true
 | x::xs,y::ys=>DVal.beq x y&&DVal.beqL xs ys
 | _,_=>false
end
mutual
theorem DVal.beq_eq:∀ (a b:DVal),DVal.beq a b=true→a=b
 | .int k n,b,h=>by
  cases b <;> simp only[DVal.beq,Bool.and_eq_true,decide_eq_true_eq,Bool.false_eq_true]at h
  rw[h.1,h.2]
 | .bool x,b,h=>by
  cases b <;> simp only[DVal.beq,decide_eq_true_eq,Bool.false_eq_true]at h
  rw[h]
 | .str s,b,h=>by
  cases b <;> simp only[DVal.beq,decide_eq_true_eq,Bool.false_eq_true]at h
  rename_i s'
  congr 1
  cases s;cases s'
  simp only at h
  congr 1
  exact Array.ext' h
 | .sl xs,b,h=>by
  cases b <;> simp only[DVal.beq,Bool.false_eq_true]at h
  rw[DVal.beqL_eq _ _ h]
 | .agg xs,b,h=>by
  cases b <;> simp only[DVal.beq,Bool.false_eq_true]at h
  rw[DVal.beqL_eq _ _ h]
 | .ptr a,b,h=>by
  cases b <;> simp only[DVal.beq,decide_eq_true_eq,Bool.false_eq_true]at h
  rw[h]
 | .map a,b,h=>by
  cases b <;> simp only[DVal.beq,decide_eq_true_eq,Bool.false_eq_true]at h
  rw[h]
 | .fn f as bs,b,h=>by
  cases b <;> simp only[DVal.beq,Bool.and_eq_true,decide_eq_true_eq,Bool.false_eq_true]at h
  rw[h.1.1,DVal.beqL_eq _ _ h.1.2,DVal.beqL_eq _ _ h.2]
 | .nilfn,b,h=>by
  cases b <;> simp only[DVal.beq,Bool.false_eq_true]at h
  rfl
theorem DVal.beqL_eq:∀ (a b:List DVal),DVal.beqL a b=true→a=b
 | [],b,h=>by
  cases b <;> simp only[DVal.beqL,Bool.false_eq_true]at h
  rfl
 | x::xs,b,h=>by
  cases b <;> simp only[DVal.beqL,Bool.and_eq_true,Bool.false_eq_true]at h
  rw[DVal.beq_eq _ _ h.1,DVal.beqL_eq _ _ h.2]
end
def CV.beq:CV→CV→Bool
 | .val a,.val b=>DVal.beq a b
 | .nil,.nil=>true
 | .row k xs,.row k' ys=>decide (k=k')&&DVal.beqL xs ys
 | .dead,.dead=>true
 | _,_=>false
theorem CV.beq_eq (a b:CV) (h:CV.beq a b=true):a=b:=by
 cases a <;> cases b <;> simp only[CV.beq,Bool.and_eq_true,decide_eq_true_eq,Bool.false_eq_true]at h
 ·rw[DVal.beq_eq _ _ h]
 ·rfl
 ·rw[h.1,DVal.beqL_eq _ _ h.2]
 ·rfl
def CV.beqL:List CV→List CV→Bool
 | [],[]=>true
 | x::xs,y::ys=>CV.beq x y&&CV.beqL xs ys
 | _,_=>false
theorem CV.beqL_eq:∀ (a b:List CV),CV.beqL a b=true→a=b
 | [],b,h=>by
  cases b <;> simp only[CV.beqL,Bool.false_eq_true]at h
  rfl
 | x::xs,b,h=>by
  cases b <;> simp only[CV.beqL,Bool.and_eq_true,Bool.false_eq_true]at h
  rw[CV.beq_eq _ _ h.1,CV.beqL_eq _ _ h.2]
def SV.beq:SV→SV→Bool
 | .cv a,.cv b=>CV.beq a b
 | .undef,.undef=>true
 | .alias r,.alias r'=>decide (r=r')
 | .imm xs,.imm ys=>DVal.beqL xs ys
 | .elt r i o,.elt r' i' o'=>decide (r=r')&&decide (i=i')&&decide (o=o')
 | .bld xs,.bld ys=>CV.beqL xs ys
 | .tup xs,.tup ys=>DVal.beqL xs ys
 | _,_=>false
theorem SV.beq_eq (a b:SV) (h:SV.beq a b=true):a=b:=by
 cases a <;> cases b <;> simp only[SV.beq,Bool.and_eq_true,decide_eq_true_eq,Bool.false_eq_true]at h
 ·rw[CV.beq_eq _ _ h]
 ·rfl
 ·rw[h]
 ·rw[DVal.beqL_eq _ _ h]
 ·rw[h.1.1,h.1.2,h.2]
 ·rw[CV.beqL_eq _ _ h]
 ·rw[DVal.beqL_eq _ _ h]
structure Ev where
 C:Ctx
 hand:FuncId→List SV→Option (List SV)
 plan:FuncId→Nat→Option (List Nat)
 fix:FuncId→Nat→St→List Root
 ext:FuncId→List DVal→TypeId→List DVal→Option (List DVal)
 isExt:FuncId→Bool
structure EvOk (E:Ev):Prop where
 hand:∀ f a o h,E.hand f a=some o→E.C.hand f a h o h
 ext:∀ g ds k zs ys,E.ext g ds k zs=some ys→E.C.ext g ds k zs=some ys
abbrev pc:=FuncId→List SV→Heap→Option (List SV×Heap)
def ap9 (E:Ev) (s:St) (dst:Option Nat) (g:FuncId):List Operand→Option St
 | []=>none
 | x::xs=>(rootOf s x).bind fun r=>(s.rowAt r).bind fun p=>(optVals s xs).bind fun ds=>
   if ds.all DVal.one then (E.ext g ds p.1 p.2).bind fun ys=>some ((s.eff (.setRow r p.1 ys)).put dst .undef)else none
def apm (E:Ev) (call:pc) (s:St) (dst:Option Nat) (f:Operand) (args:List Operand):Option St:=
 (callee s f).bind fun c=>
  if E.isExt c.1&&c.2.1.isEmpty&&c.2.2.isEmpty then ap9 E s dst c.1 args else
  (gy E.C c.1 s c.2.1.length args).bind fun r=>
   (match E.hand c.1 (sval c.2.1++r.1++sval c.2.2)with
    | some out=>some (out,(s.effs r.2).box)
    | none=>call c.1 (sval c.2.1++r.1++sval c.2.2) (s.effs r.2).box).bind fun q=>
     (packed q.1).bind fun v=>some (St.put ⟨cJ SV.uncell (s.effs r.2).slots,q.2⟩ dst v)
def avo (P:Program) (s:St) (o:Oper):Option St:=
 match o.op with
 | .binOp .eql t x (.const (.slice none 0 0)) _=>match P.underlying t,optVal s x with
  | some (.slice _),some (.sl (_::_))=>some (s.put o.dst (.cv (.val (.bool false))))
  | _,_=>none
 | _=>none
def adA (E:Ev) (call:pc) (s:St) (o:Oper):Option St:=
 match o.op with
 | .call { callee:=.value f,args,.. }=>apm E call s o.dst f args.toList
 | _=>match aop E.C.P s o with
  | some r=>some ((s.effs r.2).put o.dst r.1)
  | none=>avo E.C.P s o
def aif (E:Ev) (call:pc) (ops:Array Oper):List Oper→St→Option St
 | [],s=>some s
 | o::os,s=>match guardOf ops s o with
  | none=>none
  | some true=>(adA E call s o).bind (aif E call ops os)
  | some false=>aif E call ops os (s.put o.dst .undef)
def vc (P:Program) (ops:Array Oper) (s:St) (i:Nat):Bool:=
 match ops[i]? with
 | none=>false
 | some o=>match o.dst with
  | none=>false
  | some d=>match guardOf ops s o with
   | none=>false
   | some true=>match aop P s o with
    | some (v,[])=>SV.beq v (s.get d)
    | _=>false
   | some false=>SV.beq (s.get d) .undef
def oY (E:Ev) (call:pc) (ops:Array Oper) (tab:List (Nat×Nat)):List Nat→List Nat→St→Option St
 | [],pend,s=>if pend.all (vc E.C.P ops s)then some s else none
 | i::rest,pend,s=>match ops[i]? with
  | none=>none
  | some o=>match guardOf ops s o with
   | none=>none
   | some b=>
    match pass o with
    | true=>match b with
     | true=>match aop E.C.P s o with
      | some (v,[])=>oY E call ops tab rest (i::pend) (s.put o.dst v)
      | _=>none
     | false=>oY E call ops tab rest (i::pend) (s.put o.dst .undef)
    | false=>if pend.all (vc E.C.P ops s)then match b with
      | true=>(adA E call s o).bind (oY E call ops tab rest (pend.filter fun p=>!(dy tab i).testBit p))
      | false=>oY E call ops tab rest (pend.filter fun p=>!(dy tab i).testBit p) (s.put o.dst .undef)
     else none
def uh (s:St):SV→Bool
 | .alias (.slot i)=>cY (s.get i)
 | .elt (.slot i) _ _=>cY (s.get i)
 | _=>true
def oE (s:St):List (Nat×SV)→Nat→List (Nat×SV)
 | [],_=>[]
 | (i,v)::l,seen=>if seen.testBit i then oE s l seen else if uh s v then (i,v)::oE s l (seen ||| (1 <<< i))else (i,.cv .dead)::oE s l (seen ||| (1 <<< i))
def trim (s:St):St:=⟨oE s s.slots 0,s.box⟩
def acQ (body:St→Option (Ex×St)):Nat→St→Option (Ex×St)
 | 0,_=>none
 | n+1,s=>match body (trim s)with
  | some (.normal,s')=>acQ body n s'
  | r=>r
def apF (s:St) (r:Root):St:=match s.rowAt r with
 | some (k,xs)=>s.eff (.fix r (.sl xs))
 | none=>s
def fixL (s:St):List Root→St
 | []=>s
 | r::rs=>fixL (apF s r) rs
def ah7 (E:Ev) (f id:Nat) (ops:Array Oper):List Nat:=match E.plan f id with
 | some p=>p
 | none=>List.range ops.size
def fw (E:Ev) (call:pc) (f:FuncId) (n:Nat):Code→St→Option (Ex×St)
 | .skip,s=>some (.normal,s)
 | .region id ops false,s=>(aif E call ops ops.toList (fixL s (E.fix f id s))).bind fun s'=>some (.normal,s')
 | .region id ops true,s=>if rk ops (ah7 E f id ops)then (oY E call ops (dh ops (ah7 E f id ops) []) (ah7 E f id ops) [] (fixL s (E.fix f id s))).bind fun s'=>some (.normal,s')else none
 | .seq a b,s=>match fw E call f n a s with
  | some (.normal,s')=>fw E call f n b s'
  | r=>r
 | .cond c a b,s=>match s.opv c with
  | .cv (.val (.bool true))=>fw E call f n a s
  | .cv (.val (.bool false))=>fw E call f n b s
  | _=>none
 | .block id c,s=>match fw E call f n c s with
  | some (.exit i,s')=>if i=id then some (.normal,s')else some (.exit i,s')
  | r=>r
 | .loop c,s=>acQ (fw E call f n c) n s
 | .exit id,s=>some (.exit id,s)
 | .ret,s=>some (.ret,s)
 | _,_=>none
def al9 (P:Program) (f:FuncId):Option (Func×Code):=
 match P.funcs[f]? with
 | none=>none
 | some fn=>match fn.body with
  | none=>none
  | some code=>if within fn.ntmps code&& !(fn.name== "runtime.NumGoroutine")then some (fn,code)else none
def uS (E:Ev) (n:Nat):Nat→pc
 | 0,_,_,_=>none
 | k+1,f,args,h=>match al9 E.C.P f with
  | none=>none
  | some (fn,code)=>if args.length≤fn.ntmps then match fw E (uS E n k) f n code ⟨entry 0 args,h⟩ with
    | some (.exit _,_)=>none
    | some (_,s)=>results E.C f s fn.results.toList
    | none=>none
   else none
section
variable {E:Ev} {call:pc}
def wZ (E:Ev) (call:pc):Prop:=∀ f a h o h',call f a h=some (o,h')→Runs E.C f a h fun o1 h1=>o1=o∧h1=h'
theorem vW (hE:EvOk E) (hc:wZ E call) {s s':St} {o:Oper} (h:adA E call s o=some s') {K:St→Prop} (hK:K s'):ji E.C (Runs E.C) s o K:=by
 unfold adA at h
 unfold ji
 split at h
 ·rename_i f args _ heq
  simp only[heq]
  unfold apm at h
  simp only[Option.bind_eq_some_iff]at h
  obtain ⟨⟨g,fs,cs⟩,hcal,h⟩:=h
  simp only at h
  split at h
  ·rename_i hx
   simp only[Bool.and_eq_true,List.isEmpty_iff]at hx
   obtain ⟨⟨_,rfl⟩,rfl⟩:=hx
   left;right
   cases hargs:args.toList with
   | nil=>rw[hargs]at h;simp[ap9]at h
   | cons x xs=>
    rw[hargs]at h
    simp only[ap9,Option.bind_eq_some_iff]at h
    obtain ⟨r,h1,p,h2,ds,h3,h⟩:=h
    split at h
    ·rename_i hall
     simp only[Option.bind_eq_some_iff,Option.some.injEq]at h
     obtain ⟨ys,h4,rfl⟩:=h
     exact ⟨g,x,xs,r,p.1,p.2,ds,ys,hcal,rfl,h1,h2,h3,hall,hE.ext _ _ _ _ _ h4,hK⟩
    ·cases h
  ·right
   simp only[Option.bind_eq_some_iff,Option.some.injEq]at h
   obtain ⟨r,h1,⟨out,h'⟩,h2,v,h3,rfl⟩:=h
   refine ⟨g,fs,cs,r.1,r.2,hcal,h1,fun _=>?_⟩
   cases hh:E.hand g (sval fs++r.1++sval cs)with
   | some out'=>
    rw[hh]at h2
    simp only[Option.some.injEq,Prod.mk.injEq]at h2
    obtain ⟨rfl,rfl⟩:=h2
    exact Runs.hand (hE.hand _ _ _ _ hh) ⟨v,h3,hK⟩
   | none=>
    rw[hh]at h2
    refine (hc _ _ _ _ _ h2).mono fun o1 h1 ⟨e1,e2⟩=>?_
    subst e1 e2
    exact ⟨v,h3,hK⟩
 ·rename_i hne
  split
  ·rename_i f args _ heq
   exact absurd heq (hne _ _ _)
  ·split at h
   ·rename_i r hr
    obtain rfl:=Option.some.inj h
    exact .inr ⟨r.1,r.2,hr,hK⟩
   ·left
    unfold avo at h
    split at h
    ·rename_i t x ty hop
     split at h
     ·rename_i e y ys hu hx
      obtain rfl:=Option.some.inj h
      exact ⟨t,x,ty,y::ys,e,hop,hu,hx,fun b hb=>by rw[hb (by simp)];exact hK⟩
     ·cases h
    ·cases h
theorem uI (hE:EvOk E) (hc:wZ E call) {ops:Array Oper}:∀ (l:List Oper) {s s':St},aif E call ops l s=some s'→∀ {K:St→Prop},K s'→wpOps E.C (Runs E.C) ops l K s
 | [],s,s',h,K,hK=>by obtain rfl:=Option.some.inj h;exact hK
 | o::os,s,s',h,K,hK=>by
  simp only[aif]at h
  split at h
  ·cases h
  ·rename_i hg
   simp only[Option.bind_eq_some_iff]at h
   obtain ⟨s1,h1,h2⟩:=h
   exact ⟨true,hg,fun _=>vW hE hc h1 (uI hE hc os h2 hK),fun e=>by cases e⟩
  ·rename_i hg
   exact ⟨false,hg,(fun e=>by cases e),fun _=>uI hE hc os h hK⟩
theorem aid {P:Program} {ops:Array Oper} {s:St} {i:Nat} (h:vc P ops s i=true):nY P ops s i:=by
 unfold vc at h
 split at h
 ·cases h
 ·rename_i o ho
  split at h
  ·cases h
  ·rename_i d hd
   split at h
   ·cases h
   ·rename_i hg
    split at h
    ·rename_i v hv
     exact ⟨o,d,ho,hd,true,hg,fun _=>by rw[hv,SV.beq_eq _ _ h],fun e=>by cases e⟩
    ·cases h
   ·rename_i hg
    exact ⟨o,d,ho,hd,false,hg,(fun e=>by cases e),fun _=>SV.beq_eq _ _ h⟩
theorem xR {P:Program} {ops:Array Oper} {s:St} {pend:List Nat} (h:pend.all (vc P ops s)=true):∀ p∈pend,nY P ops s p:=fun p hp=>aid (List.all_eq_true.1 h p hp)
theorem lh (hE:EvOk E) (hc:wZ E call) {ops:Array Oper} {tab:List (Nat×Nat)}:∀ (l:List Nat) {pend:List Nat} {s s':St},oY E call ops tab l pend s=some s'→∀ {K:St→Prop},K s'→cz E.C (Runs E.C) ops tab pend l K s
 | [],pend,s,s',h,K,hK=>by
  simp only[oY]at h
  split at h
  ·rename_i ha
   obtain rfl:=Option.some.inj h
   exact ⟨xR ha,hK⟩
  ·cases h
 | i::rest,pend,s,s',h,K,hK=>by
  simp only[oY]at h
  simp only[cz]
  split at h
  ·cases h
  ·rename_i o ho
   refine ⟨o,ho,?_⟩
   split at h
   ·cases h
   ·rename_i b hg
    cases hp:pass o with
    | true=>
     rw[hp]at h
     cases b with
     | true=>
      simp only at h
      split at h
      ·rename_i v hv
       exact ⟨true,hg,fun _=>⟨v,hv,lh hE hc rest h hK⟩,fun e=>by cases e⟩
      ·cases h
     | false=>exact ⟨false,hg,(fun e=>by cases e),fun _=>lh hE hc rest h hK⟩
    | false=>
     rw[hp]at h
     simp only at h
     split at h
     ·rename_i ha
      refine ⟨xR ha,?_⟩
      cases b with
      | true=>
       simp only[Option.bind_eq_some_iff]at h
       obtain ⟨s1,h1,h2⟩:=h
       exact ⟨true,hg,fun _=>vW hE hc h1 (lh hE hc rest h2 hK),fun e=>by cases e⟩
      | false=>exact ⟨false,hg,(fun e=>by cases e),fun _=>lh hE hc rest h hK⟩
     ·cases h
theorem apr {seen i j:Nat}:(seen ||| (1 <<< i)).testBit j=(seen.testBit j||decide (i=j)):=by
 rw[Nat.testBit_or,Nat.one_shiftLeft]
 by_cases h:i=j
 ·subst h;simp[Nat.testBit_two_pow_self]
 ·rw[Nat.testBit_two_pow_of_ne h];simp[h]
theorem adj {s:St}:∀ (l:List (Nat×SV)) (seen:Nat),∀ p∈oE s l seen,seen.testBit p.1=false∧(p.2= .cv .dead∨p.2=look l p.1∧uh s p.2=true)
 | [],_,p,hp=>by simp[oE]at hp
 | (i,v)::l,seen,p,hp=>by
  simp only[oE]at hp
  have tail:∀ seen':Nat,p∈oE s l seen'→(seen'.testBit p.1=false→i≠p.1∧seen.testBit p.1=false)→seen.testBit p.1=false∧(p.2= .cv .dead∨p.2=look ((i,v)::l) p.1∧uh s p.2=true):=fun seen' hm hi=>by
   obtain ⟨h1,h2⟩:=adj l seen' p hm
   obtain ⟨h3,h4⟩:=hi h1
   refine ⟨h4,h2.imp id fun h=>⟨?_,h.2⟩⟩
   simp only[look]
   rw[if_neg h3];exact h.1
  have cons:∀ h:(seen ||| (1 <<< i)).testBit p.1=false,i≠p.1∧seen.testBit p.1=false:=fun h=>by
   rw[apr,Bool.or_eq_false_iff]at h
   exact ⟨by simpa using h.2,h.1⟩
  split at hp
  ·rename_i hs
   refine tail seen hp fun h=>⟨fun e=>?_,h⟩
   rw[← e,hs]at h;cases h
  ·rename_i hs
   split at hp
   ·rename_i hr
    rcases List.mem_cons.1 hp with rfl | hp
    ·exact ⟨by simpa using hs,.inr ⟨by simp[look],hr⟩⟩
    ·exact tail _ hp cons
   ·rcases List.mem_cons.1 hp with rfl | hp
    ·exact ⟨by simpa using hs,.inl rfl⟩
    ·exact tail _ hp cons
theorem agz {s:St} {v:SV} (h:cY v=true):uh s v=true:=by
 cases v with
 | cv c=>rfl
 | alias r=>cases h
 | elt r i o=>cases h
 | _=>rfl
theorem pS {s:St} {j:Nat}:∀ (l:List (Nat×SV)) (seen:Nat),cY (look l j)=true→seen.testBit j=false→look (oE s l seen) j=look l j
 | [],_,h,_=>by simp[look,cY]at h
 | (i,v)::l,seen,h,hs=>by
  simp only[look]at h ⊢
  simp only[oE]
  by_cases e:i=j
  ·subst e
   rw[if_pos rfl]at h ⊢
   rw[hs,if_neg (by simp),if_pos (agz h)]
   simp[look]
  ·rw[if_neg e]at h ⊢
   split
   ·exact pS l seen h hs
   ·have hs2:(seen ||| (1 <<< i)).testBit j=false:=by rw[apr,hs];simp[e]
    split
    ·simp only[look];rw[if_neg e];exact pS l _ h hs2
    ·simp only[look];rw[if_neg e];exact pS l _ h hs2
theorem ame {m:Nat} (s:St):St.To m s (trim s):=by
 refine St.To.weak s (trim s) (oE s s.slots 0) (fun p hp=>?_) (.refl _)
 obtain ⟨_,h⟩:=adj s.slots 0 p hp
 rcases h with h | ⟨h,hr⟩
 ·rw[h]
  exact ⟨by cases s.get p.1 <;> simp[SV.fits],by trivial⟩
 ·refine ⟨?_,?_⟩
  ·have e:s.get p.1=p.2:=h.symm
   rw[e];exact rC _
  ·have hrow:∀ i,cY (s.get i)=true→cY (St.get ⟨oE s s.slots 0,s.box⟩ i)=true:=fun i hi=>by
    show cY (look (oE s s.slots 0) i)=true
    rw[pS s.slots 0 hi (by simp)];exact hi
   generalize p.2=v at hr
   cases v with
   | alias r=>cases r with
    | slot i=>exact hrow i hr
    | cell l i=>trivial
   | elt r i o=>cases r with
    | slot i=>exact hrow i hr
    | cell l i=>trivial
   | _=>trivial
theorem tv {m:Nat}:∀ (rs:List Root) (s:St),St.To m s (fixL s rs)
 | [],s=>.refl s
 | r::rs,s=>by
  simp only[fixL,apF]
  split
  ·rename_i k xs h
   exact .fix s _ r k xs h (tv rs _)
  ·exact tv rs s
theorem xF {m:Nat} {c:Code} {b:St→Option (Ex×St)} (hb:∀ s ex s',b s=some (ex,s')→∀ Q:Ex→St→Prop,Q ex s'→aK E.C (Runs E.C) m c Q s):∀ (n:Nat) (s:St) (ex:Ex) (s':St),acQ b n s=some (ex,s')→∀ Q:Ex→St→Prop,Q ex s'→kM m (aK E.C (Runs E.C) m c) Q s
 | 0,s,ex,s',h,Q,hQ=>by cases h
 | n+1,s,ex,s',h,Q,hQ=>by
  simp only[acQ]at h
  split at h
  ·rename_i s1 h1
   exact kM.step (trim s) (ame s) (hb _ _ _ h1 _ (xF hb n s1 ex s' h Q hQ))
  ·rename_i hne
   refine kM.step (trim s) (ame s) (hb _ _ _ h _ ?_)
   cases ex with
   | normal=>exact absurd h (hne s')
   | exit i=>exact hQ
   | ret=>exact hQ
theorem gh (hE:EvOk E) (hc:wZ E call) {f n m:Nat}:∀ (c:Code) (s:St) (ex:Ex) (s':St),fw E call f n c s=some (ex,s')→∀ Q:Ex→St→Prop,Q ex s'→aK E.C (Runs E.C) m c Q s
 | .skip,s,ex,s',h,Q,hQ=>by
  simp only[fw,Option.some.injEq,Prod.mk.injEq]at h
  obtain ⟨rfl,rfl⟩:=h;exact hQ
 | .region id ops false,s,ex,s',h,Q,hQ=>by
  simp only[fw,Option.bind_eq_some_iff,Option.some.injEq,Prod.mk.injEq]at h
  obtain ⟨s1,h1,rfl,rfl⟩:=h
  exact ⟨_,tv _ s,uI hE hc _ h1 hQ⟩
 | .region id ops true,s,ex,s',h,Q,hQ=>by
  simp only[fw]at h
  split at h
  ·rename_i hp
   simp only[Option.bind_eq_some_iff,Option.some.injEq,Prod.mk.injEq]at h
   obtain ⟨s1,h1,rfl,rfl⟩:=h
   exact ⟨_,_,tv _ s,.inl ⟨hp,lh hE hc _ h1 hQ⟩⟩
  ·cases h
 | .seq a b,s,ex,s',h,Q,hQ=>by
  simp only[fw]at h
  split at h
  ·rename_i s1 h1
   exact gh hE hc a s _ _ h1 _ ⟨s1,.refl s1,gh hE hc b s1 ex s' h Q hQ⟩
  ·rename_i hne
   refine gh hE hc a s ex s' h _ ?_
   cases ex with
   | normal=>exact absurd h (hne s')
   | exit i=>exact hQ
   | ret=>exact hQ
 | .cond c a b,s,ex,s',h,Q,hQ=>by
  simp only[fw]at h
  split at h
  ·rename_i ho
   exact ⟨true,ho,fun _=>gh hE hc a s ex s' h Q hQ,fun e=>by cases e⟩
  ·rename_i ho
   exact ⟨false,ho,(fun e=>by cases e),fun _=>gh hE hc b s ex s' h Q hQ⟩
  ·cases h
 | .block id c,s,ex,s',h,Q,hQ=>by
  simp only[fw]at h
  split at h
  ·rename_i i s1 h1
   refine gh hE hc c s _ _ h1 _ ?_
   simp only[Ex.inBlock]
   split at h
   ·rename_i hi
    simp only[Option.some.injEq,Prod.mk.injEq]at h
    obtain ⟨rfl,rfl⟩:=h
    rw[if_pos hi];exact hQ
   ·rename_i hi
    simp only[Option.some.injEq,Prod.mk.injEq]at h
    obtain ⟨rfl,rfl⟩:=h
    rw[if_neg hi];exact hQ
  ·rename_i hne
   refine gh hE hc c s ex s' h _ ?_
   cases ex with
   | exit i=>exact absurd h (hne i s')
   | normal=>exact hQ
   | ret=>exact hQ
 | .loop c,s,ex,s',h,Q,hQ=>by
  simp only[fw]at h
  exact xF (fun s ex s' h Q hQ=>gh hE hc c s ex s' h Q hQ) n s ex s' h Q hQ
 | .exit id,s,ex,s',h,Q,hQ=>by
  simp only[fw,Option.some.injEq,Prod.mk.injEq]at h
  obtain ⟨rfl,rfl⟩:=h;exact hQ
 | .ret,s,ex,s',h,Q,hQ=>by
  simp only[fw,Option.some.injEq,Prod.mk.injEq]at h
  obtain ⟨rfl,rfl⟩:=h;exact hQ
 | .scope ..,s,ex,s',h,Q,hQ=>by simp[fw]at h
 | .label ..,s,ex,s',h,Q,hQ=>by simp[fw]at h
 | .goto ..,s,ex,s',h,Q,hQ=>by simp[fw]at h
 | .refuse ..,s,ex,s',h,Q,hQ=>by simp[fw]at h
 | .rangeFunc ..,s,ex,s',h,Q,hQ=>by simp[fw]at h
theorem ajz {P:Program} {f:FuncId} {fn:Func} {code:Code} (h:al9 P f=some (fn,code)):P.funcs[f]? =some fn∧fn.body=some code∧within fn.ntmps code=true∧(fn.name== "runtime.NumGoroutine")=false:=by
 unfold al9 at h
 split at h
 ·cases h
 ·rename_i fn' h1
  split at h
  ·cases h
  ·rename_i code' h2
   split at h
   ·rename_i h3
    simp only[Option.some.injEq,Prod.mk.injEq]at h
    obtain ⟨rfl,rfl⟩:=h
    rw[Bool.and_eq_true,Bool.not_eq_true']at h3
    exact ⟨h1,h2,h3.1,h3.2⟩
   ·cases h
theorem adn (hE:EvOk E) {n:Nat}:∀ k,wZ E (uS E n k)
 | 0=>fun f a h o h' he=>by cases he
 | k+1=>fun f a h o h' he=>by
  simp only[uS]at he
  split at he
  ·cases he
  ·rename_i fn code hco
   obtain ⟨h1,h2,h3,h4⟩:=ajz hco
   split at he
   ·rename_i hlen
    refine Runs.intro fn code h1 h2 hlen h3 h4 fun _ _=>?_
    split at he
    ·cases he
    ·rename_i ex s hne hev
     refine gh hE (adn hE k) code _ ex s hev _ ?_
     cases ex with
     | exit i=>exact absurd rfl (hne i)
     | normal=>exact ⟨s,.refl s,o,h',he,h',.inl rfl,rfl,rfl⟩
     | ret=>exact ⟨s,.refl s,o,h',he,h',.inl rfl,rfl,rfl⟩
    ·cases he
   ·cases he
end
def Gh.none (G:Gh):Gh:=⟨G.P,fun b=>match G.g b with | .imm=>.imm | _=>.other,G.ι,0⟩
theorem acP (G:Gh) (b:Nat):(G.none.g b= .imm∧G.g b= .imm)∨G.none.g b= .other:=by
 simp only[Gh.none]
 cases h:G.g b <;> simp
theorem sh {n:Nat}:∀ {xs ys:List DVal},bv n xs→bv n ys→bv n (xs++ys)
 | [],_,_,h=>h
 | x::xs,_,h1,h2=>⟨h1.1,sh h1.2 h2⟩
theorem wj {n:Nat} {d:DVal} (h:d.under n):bv n d.cells:=by
 cases d <;> first | exact h | exact ⟨h,trivial⟩
theorem wM {n:Nat}:∀ {xs:List DVal},bv n xs→bv n (aV xs)
 | [],_=>trivial
 | x::xs,h=>by
  show bv n (x.cells++aV xs)
  exact sh (wj h.1) (wM h.2)
structure Flat (w:World) (G:Gh) (w':World) (G':Gh):Prop where
 g:∀ b,G.g b= .imm→b < w.heap.size→G'.g b= .imm∧w'.heap[b]? =w.heap[b]?
 size:w.heap.size≤w'.heap.size
mutual
theorem RelV.flat {w w':World} {G G':Gh} (M:Flat w G w' G'):∀ {d:DVal} {v:Value},RelV w G d v→d.under 0→RelV w' G' d v
 | _,_,.int k n,_=>.int k n
 | _,_,.bool b,_=>.bool b
 | _,_,.str s,_=>.str s
 | _,_,.agg cs vs h,hu=>.agg cs vs (bD.flat M h hu)
 | _,_,.nilptr,_=>.nilptr
 | _,_,.ptr l off h,hu=>absurd hu (Nat.not_lt_zero _)
 | _,_,.nilmap,_=>.nilmap
 | _,_,.map l h,hu=>absurd hu (Nat.not_lt_zero _)
 | _,_,.nilfn,_=>.nilfn
 | _,_,.fn f as bs us vs h1 h2,hu=>.fn f as bs us vs (bD.flat M h1 hu.1) (bD.flat M h2 hu.2)
 | _,_,.nilsl a cap,_=>.nilsl a cap
 | _,_,.sl xs ad cap k vs hne hcap hg hb hs hk hr hc,hu=>.sl xs ad cap k vs hne hcap (M.g _ hg hb).1 (Nat.lt_of_lt_of_le hb M.size) hs hk (bD.flat M hr (wM hu)) (hc.mono fun h=>(M.g _ hg h).2)
theorem bD.flat {w w':World} {G G':Gh} (M:Flat w G w' G'):∀ {ds:List DVal} {vs:List Value},bD w G ds vs→bv 0 ds→bD w' G' ds vs
 | _,_,.nil,_=>.nil
 | _,_,.cons d v ds vs h1 h2 h3,hu=>.cons d v ds vs h1 (RelV.flat M h2 hu.1) (bD.flat M h3 hu.2)
end
def ui:SV→Prop
 | .cv (.val d)=>d.under 0
 | _=>False
theorem cS.flat {w w':World} {G G':Gh} (M:Flat w G w' G'):∀ {os:List SV} {vs:List Value},cS w G os vs→(∀ o∈os,ui o)→cS w' G' os vs
 | _,_,.nil,_=>.nil
 | _,_,.cons c v os vs h1 h2,hu=>by
  have hc:=hu (.cv c) (by simp)
  refine .cons c v os vs ?_ (cS.flat M h2 (fun o ho=>hu o (List.mem_cons_of_mem _ ho)))
  cases c with
  | val d=>exact RelV.flat M h1 hc
  | nil=>exact hc.elim
  | row k xs=>exact hc.elim
  | dead=>exact hc.elim
theorem cK.flat {w w':World} {G G':Gh} (M:Flat w G w' G') {t:Nat→Tag}:∀ {i:Nat} {as:List SV} {vs:List Value},cK w G t i as vs→(∀ o∈as,ui o)→cK w' G' t i as vs
 | _,_,_,.nil i,_=>.nil i
 | _,_,_,.cons i c v as vs h1 h2,hu=>by
  have hc:=hu (.cv c) (by simp)
  refine .cons i c v as vs ?_ (cK.flat M h2 (fun o ho=>hu o (List.mem_cons_of_mem _ ho)))
  cases c with
  | val d=>exact RelV.flat M h1 hc
  | nil=>exact hc.elim
  | row k xs=>exact hc.elim
  | dead=>exact hc.elim
theorem wA {P:Program} {f:FuncId} {args out:List SV} {Q:List SV→Heap→Prop} (h0:dY P f args ⟨0,fun _=>.none⟩ Q) (hQ:∀ o h,Q o h→o=out) (ha:∀ o∈args,ui o) (ho:∀ o∈out,ui o) (h:Heap):dY P f args h fun o h'=>o=out∧h'=h:=by
 obtain ⟨hent,hrun⟩:=h0
 refine ⟨hent,fun w G vs hP hargs hh hf=>?_⟩
 have F0:Flat w G w G.none:=⟨fun b hb _=>⟨by simp only[Gh.none,hb],rfl⟩,Nat.le_refl _⟩
 refine (hrun w G.none vs hP (cK.flat F0 hargs ha) ⟨rfl,fun l o e=>by cases e⟩ (fun b hb=>by simp only[Gh.none,hf b hb])).mono fun e w' ⟨us,o,h1,G1,he,hq,hro,hrh,hfr,hk⟩=>?_
 obtain rfl:=hQ _ _ hq
 have hheap:∀ b,b < w.heap.size→w'.heap[b]? =w.heap[b]? :=fun b hb=>by
  rcases acP G b with ⟨e,_⟩ | e
  ·exact (hk.imm b e hb).2
  ·exact (hk.other b e hb).2
 have hgr:gE w G w' ⟨G.P,fun b=>if b < w.heap.size then G.g b else match G1.g b with | .imm=>.imm | _=>.other,G.ι,G.n⟩:={
  os:=hk.os
  tape:=hk.tape
  output:=hk.output
  size:=hk.size
  heap:=hheap
  g:=fun b hb=>by simp only;rw[if_pos hb]
  fresh:=fun b hb=>by
   simp only
   rw[if_neg (by have:=hk.size;omega),hfr b hb]
  n:=Nat.le_refl _
  ι:=fun _ _=>rfl
  P:=rfl }
 have F1:Flat w' G1 w' ⟨G.P,fun b=>if b < w.heap.size then G.g b else match G1.g b with | .imm=>.imm | _=>.other,G.ι,G.n⟩:=⟨fun b hb hl=>⟨by
  simp only
  by_cases hlt:b < w.heap.size
  ·rw[if_pos hlt]
   rcases acP G b with ⟨_,e⟩ | e
   ·exact e
   ·have:=(hk.other b e hlt).1
    rw[hb]at this;cases this
  ·rw[if_neg hlt,hb],rfl⟩,Nat.le_refl _⟩
 exact ⟨us,_,h,_,he,⟨rfl,rfl⟩,cS.flat F1 hro ho,hgr.heapH rfl hh,hgr.fresh,hgr.kept⟩
end Go.Val
namespace Go.Val
variable {C:Ctx} {s:St}
theorem an2 {h:Heap} {la lb:Nat} {o o':BObj} (hn:la≠lb) (ha:h.at_ lb=some o):(h.upd la o').upd lb o=h.upd la o':=by rw[← nQ hn,ef ha]
theorem updF {h:Heap} {l:Nat} {o:BObj} (hl:l < h.n) (ha:h.at_ l=some o):(∀ os o',(h.on os).upd l o'=(h.upd l o').on os)∧(∀ os l' o',((h.upd l' o').on os).at_ l=(h.upd l' o').at_ l)∧(∀ os l' o o',((h.upd l' o').on os).upd l o=((h.upd l' o').upd l o).on os)∧h.upd l o=h∧
  (∀ os l' l2 o o2,(((h.upd l' o).upd l2 o2).on os).at_ l=((h.upd l' o).upd l2 o2).at_ l)∧∀ os l' l2 o o' o2,(((h.upd l' o').upd l2 o2).on os).upd l o=(((h.upd l' o').upd l2 o2).upd l o).on os:=
 ⟨fun _ _=>eZ hl,fun _ _ _=>iR hl,fun _ _ _ _=>fL hl,ef ha,fun _ _ _ _ _=>mw hl,fun _ _ _ _ _ _=>kE hl⟩
theorem updP {la lb:Nat} (hn:la≠lb):(∀ (h:Heap) (o:BObj),(h.upd lb o).at_ la=h.at_ la)∧(∀ (h:Heap) (o:BObj),(h.upd la o).at_ lb=h.at_ lb)∧∀ (h:Heap) (o o':BObj),(h.upd lb o).upd la o'=(h.upd la o').upd lb o:=
 ⟨fun _ _=>oO hn,fun _ _=>oO (Ne.symm hn),fun _ _ _=>nQ hn⟩
theorem avR {h:Heap} {la lb:Nat} {o:BObj} (hn:la≠lb) (ha:h.at_ lb=some o):∀ o',(h.upd la o').upd lb o=h.upd la o':=fun _=>an2 hn ha
theorem cC {p:Prop} (h:p:=by simp (disch:=(apply bu.mk;decide)) only[go_sem,Nat.reduceAdd,Nat.reduceLT,Nat.reduceMul,Nat.reduceLeDiff,Int.reduceToNat,Int.reduceLT,Int.reduceLE, *]):p:=h
theorem A_ne {a b:Nat} (h:a≠b:=by first | omega | assumption | exact Ne.symm (by assumption)):a≠b:=h
theorem A_wf {h:Heap} {l:Nat} {o:BObj} (hwf:h.WF) (hl:l < h.n) (ho:o.under h.n:=by simp (disch:=(apply bu.mk;decide)) only[go_sem,Nat.reduceAdd,Nat.reduceLT,Nat.reduceMul,Nat.reduceLeDiff,Int.reduceToNat,Int.reduceLT,Int.reduceLE, *]):(h.upd l o).WF:=WF.upd hwf hl ho
section
variable {R:cG} {ops:Array Oper} {tab:List (Nat×Nat)} {K:St→Prop} {pend rest:List Nat} {s':St} {i:Nat}
theorem cP (pend':List Nat) (hk:cz C R ops tab pend' rest K s') (hp:ops[i]?.map pass=some false:=by rfl) (hh:mg C.P ops s pend:=by simp (disch:=(apply bu.mk;decide)) only[go_sem,Nat.reduceAdd,Nat.reduceLT,Nat.reduceMul,Nat.reduceLeDiff,Int.reduceToNat,Int.reduceLT,Int.reduceLE, *]) (h:aiI C.P ops s ops[i]? =some s':=by simp (disch:=(apply bu.mk;decide)) only[go_sem,Nat.reduceAdd,Nat.reduceLT,Nat.reduceMul,Nat.reduceLeDiff,Int.reduceToNat,Int.reduceLT,Int.reduceLE, *];rfl) (hf:(pend.filter fun p=>!(dy tab i).testBit p)=pend':=by rfl):cz C R ops tab pend (i::rest) K s:=p_op hp hh h hf hk
theorem bA (l pend':List Nat) (hk:cz C R ops tab pend' rest K s') (h:jZ C.P ops l s=some s':=by simp (disch:=(apply bu.mk;decide)) only[go_sem,Nat.reduceAdd,Nat.reduceLT,Nat.reduceMul,Nat.reduceLeDiff,Int.reduceToNat,Int.reduceLT,Int.reduceLE, *];rfl) (hp:l.reverse++pend=pend':=by rfl):cz C R ops tab pend (l++rest) K s:=amV h hp hk
theorem cW (hk:K s) (hh:mg C.P ops s pend:=by simp (disch:=(apply bu.mk;decide)) only[go_sem,Nat.reduceAdd,Nat.reduceLT,Nat.reduceMul,Nat.reduceLeDiff,Int.reduceToNat,Int.reduceLT,Int.reduceLE, *]):cz C R ops tab pend [] K s:=anz hh hk
theorem cZ (pend':List Nat) {dst:Option Tmp} {ty:TypeId} {pos:String} {after:Array Edge} {f:Operand} {args:Array Operand} {ts:Array TypeId} {gd:Option (Nat×Bool)}
  {g:FuncId} {fs cs:List DVal} {as:List SV} {es:List Eff} {s1:St} {out:List SV} {hp:Heap}
  (h4:Runs C g (sval fs++as++sval cs) s1.box fun o h'=>o=out∧h'=hp) (h5:(packed out).isSome=true) (hk:cz C (Runs C) ops tab pend' rest K (St.put ⟨cJ SV.uncell s1.slots,hp⟩ dst ((packed out).getD .undef)))
  (ho:ops[i]? =some ⟨dst,.call ⟨.value f,args,ts⟩,ty,pos,after,gd⟩:=by rfl) (hh:mg C.P ops s pend:=by simp (disch:=(apply bu.mk;decide)) only[go_sem,Nat.reduceAdd,Nat.reduceLT,Nat.reduceMul,Nat.reduceLeDiff,Int.reduceToNat,Int.reduceLT,Int.reduceLE,Option.getD_some, *]) (h0:guardOf ops s ⟨dst,.call ⟨.value f,args,ts⟩,ty,pos,after,gd⟩=some true:=by first | rfl | (simp (disch:=(apply bu.mk;decide)) only[go_sem,Nat.reduceAdd,Nat.reduceLT,Nat.reduceMul,Nat.reduceLeDiff,Int.reduceToNat,Int.reduceLT,Int.reduceLE,Option.getD_some, *]))
  (h1:callee s f=some (g,fs,cs):=by simp (disch:=(apply bu.mk;decide)) only[go_sem,Nat.reduceAdd,Nat.reduceLT,Nat.reduceMul,Nat.reduceLeDiff,Int.reduceToNat,Int.reduceLT,Int.reduceLE,Option.getD_some, *];rfl) (h2:gy C g s fs.length args.toList=some (as,es):=by simp (disch:=(apply bu.mk;decide)) only[go_sem,Nat.reduceAdd,Nat.reduceLT,Nat.reduceMul,Nat.reduceLeDiff,Int.reduceToNat,Int.reduceLT,Int.reduceLE,Option.getD_some, *];rfl) (h3:s.effs es=s1:=by simp (disch:=(apply bu.mk;decide)) only[go_sem,Nat.reduceAdd,Nat.reduceLT,Nat.reduceMul,Nat.reduceLeDiff,Int.reduceToNat,Int.reduceLT,Int.reduceLE,Option.getD_some, *];rfl) (hf:(pend.filter fun p=>!(dy tab i).testBit p)=pend':=by rfl):
  cz C (Runs C) ops tab pend (i::rest) K s:=auG ho hh h0 h1 h2 h3 hf h4 h5 hk
end
end Go.Val
namespace Go.Val
def meEs (l:Nat) (kt:TypeId) (k z:DVal):Option (List (DVal×DVal))→Option Out
 | some en=>some (.tup [(dZ k en).getD z,.int .i64 (rp k en)],[.setMap l kt (mput k ((dZ k en).getD z) en)])
 | none=>none
def meD (s:St) (kt:TypeId) (k z:DVal):DVal→Option Out
 | .map (some l)=>meEs l kt k z (mapAt s kt (.map (some l)))
 | _=>none
def meK (P:Program) (s:St) (kt:TypeId):Option DVal→Option DVal→Option TypeDesc→Option DVal→Option Out
 | some d,some k,some td,some z=>if isKey P kt td k=true then meD s kt k z d else none
 | _,_,_,_=>none
def meTD (P:Program) (s:St) (x k:Operand):Option TypeDesc→Option Out
 | some (.map kt e)=>meK P s kt (optVal s x) (optVal s k) (P.underlying kt) (jq P e)
 | _=>none
def esAt (l:Nat) (v:DVal) (es:List Eff) (n:Int):Option BObj→Option Out
 | some (.map kt en)=>if n.toNat < en.length∧0≤n then some (.undef,es++[.setMap l kt (en.set n.toNat ((en.getD n.toNat default).1,v))])else none
 | _=>none
def esD (s:St):Option DVal→Option (IntKind×Int)→Option (DVal×List Eff)→Option Out
 | some (.map (some l)),some (_,n),some (v,es)=>esAt l v es n (s.box.at_ l)
 | _,_,_=>none
section
variable {P:Program} {s:St}
theorem vb {t:TypeId} {x y:Operand}:mapEntryOp P s t x y=meTD P s x y (P.underlying t):=by
 unfold mapEntryOp
 cases P.underlying t with
 | none=>rfl
 | some td=>
  cases td
  case map kt e=>
   simp only[meTD]
   cases optVal s x with
   | none=>rfl
   | some d=>
    cases optVal s y with
    | none=>rfl
    | some k=>
     cases P.underlying kt with
     | none=>rfl
     | some td=>
      cases jq P e with
      | none=>rfl
      | some z=>
       simp only[Option.bind_some,meK]
       split
       ·cases d with
        | map r=>
         cases r with
         | none=>rfl
         | some l=>simp only[meD];cases mapAt s kt (.map (some l)) <;> rfl
        | _=>rfl
       ·rfl
  all_goals rfl
theorem rG {x n y:Operand}:entryStoreOp P s x n y=esD s (optVal s x) (s.asInt n) (s.asVal y):=by
 unfold entryStoreOp
 cases optVal s x with
 | none=>rfl
 | some d=>
  cases s.asInt n with
  | none=>cases d <;> first | rfl | (rename_i r;cases r <;> rfl)
  | some m=>
   cases s.asVal y with
   | none=>cases d <;> first | rfl | (rename_i r;cases r <;> rfl)
   | some v=>
    cases d with
    | map r=>
     cases r with
     | none=>rfl
     | some l=>
      simp only[Option.bind_some,esD]
      cases s.box.at_ l with
      | none=>rfl
      | some o=>cases o <;> rfl
    | _=>rfl
end
section
variable {P:Program} {s:St} {dst:Option Tmp} {ty:TypeId} {pos:String} {after:Array Edge} {g:Option (Nat×Bool)}
theorem agf {t:TypeId} {x k:Operand}:aop P s ⟨dst,.mapEntry t x k,ty,pos,after,g⟩=meTD P s x k (P.underlying t):=vb
theorem xp {t:TypeId} {x n v:Operand}:aop P s ⟨dst,.entryStore t x n v,ty,pos,after,g⟩=esD s (optVal s x) (s.asInt n) (s.asVal v):=rG (P:=P)
end
def aidx {K V:Type} [DecidableEq K] (k:K):List (K×V)→Nat
 | []=>0
 | (k',_)::es=>if k=k' then 0 else aidx k es+1
theorem amm {V:Type} {d:V→DVal} {k:Int}:∀ {es:List (Int×V)},rp (.int .i64 k) (encM eI d es)=aidx k es
 | []=>rfl
 | (k',v)::es=>by
  have ih:=amm (d:=d) (k:=k) (es:=es)
  show (if gF (.int .i64 k) (eI k')=true then 0 else rp (.int .i64 k) (encM eI d es)+1)=_
  rw[ih]
  simp[aidx,gF,eI]
theorem wg {k v w:Int}:∀ {es:List (Int×Int)},∃ e,(encM eI eI (aput k w es))[aidx k es]? =some e∧(encM eI eI (aput k w es)).set (aidx k es) (e.1,.int .i64 v)=encM eI eI (aput k v es)
 | []=>⟨(.int .i64 k,.int .i64 w),rfl,rfl⟩
 | (k',u)::es=>by
  by_cases h:k=k'
  ·subst h
   exact ⟨(.int .i64 k,.int .i64 w),by simp[aput,aidx,encM,eI],by simp[aput,aidx,encM,eI]⟩
  ·obtain ⟨e,h1,h2⟩:=wg (k:=k) (v:=v) (w:=w) (es:=es)
   refine ⟨e,?_,?_⟩
   ·simp only[aput,aidx,if_neg h,encM,List.map_cons,List.getElem?_cons_succ];exact h1
   ·simp only[aput,aidx,if_neg h,encM,List.map_cons,List.set_cons_succ];exact congrArg _ h2
theorem awJ {l:Nat} {kt:TypeId} {k v w:Int} {es:List (Int×Int)} {e0:List Eff}:esAt l (.int .i64 v) e0 ((aidx k es:Nat):Int) (some (.map kt (encM eI eI (aput k w es))))=some (.undef,e0++[.setMap l kt (encM eI eI (aput k v es))]):=by
 obtain ⟨e,h1,h2⟩:=wg (k:=k) (v:=v) (w:=w) (es:=es)
 simp only[esAt,Int.toNat_natCast]
 rw[if_pos ⟨(List.getElem?_eq_some_iff.1 h1).1,by omega⟩,List.getD_eq_getElem?_getD,h1,Option.getD_some,h2]
attribute [go_sem] decide_false agf xp meTD.eq_1 meK.eq_1 meD.eq_1 meEs.eq_1 esD.eq_1 amm awJ
theorem apx {C:Ctx} {s:St} {ops:Array Oper} {tab:List (Nat×Nat)} {K:St→Prop} {pend rest pend':List Nat} {i:Nat} {dst:Option Tmp} {ty:TypeId} {pos:String} {after:Array Edge} {f:Operand} {args:Array Operand} {ts:Array TypeId} {gd:Option (Nat×Bool)}
  {g:FuncId} {fs cs ds:List DVal} {out:List SV} (ho:ops[i]? =some ⟨dst,.call ⟨.value f,args,ts⟩,ty,pos,after,gd⟩) (hh:mg C.P ops s pend) (h0:guardOf ops s ⟨dst,.call ⟨.value f,args,ts⟩,ty,pos,after,gd⟩=some true)
  (h1:callee s f=some (g,fs,cs)) (h2:kV s args.toList=some ds) (hf:(pend.filter fun p=>!(dy tab i).testBit p)=pend') (hb:args.toList.all (ro s)=true)
  (h4:Runs C g (sval fs++sval ds++sval cs) s.box.shut fun o h'=>o=out∧h'=s.box.shut) (h5:(packed out).isSome=true) (hk:cz C (Runs C) ops tab pend' rest K (s.put dst ((packed out).getD .undef))):
  cz C (Runs C) ops tab pend (i::rest) K s:=by
 subst hf
 simp only[cz]
 refine ⟨_,ho,?_⟩
 simp only[pass]
 refine ⟨jW hh,true,h0,fun _=>.inl (.inl (.inl ⟨g,fs,cs,ds,false,h1,h2,fun _=>hb,h4.mono fun o h' ⟨e1,e2⟩=>?_⟩)),fun e=>by cases e⟩
 subst e1
 cases hpk:packed o with
 | none=>rw[hpk]at h5;cases h5
 | some v=>exact ⟨v,rfl,⟨(fun e=>by cases e),fun _=>e2⟩,by rw[hpk]at hk;exact hk⟩
def arZ:SV→Bool
 | .cv (.val _)=>true
 | .cv .nil=>true
 | _=>false
theorem aj9 {s:St} {x:Operand}:ro s x=arZ (s.opv x):=by
 unfold ro
 cases s.opv x with
 | cv c=>cases c <;> rfl
 | _=>rfl
theorem ajk {d:DVal}:arZ (.cv (.val d))=true:=rfl
theorem ajf:arZ (.cv .nil)=true:=rfl
attribute [go_sem] aj9 ajk ajf
theorem ud {n a b i j:Nat} (h:bu a b):Root.cell (n+b) j≠Root.cell (n+a) i:=by
 intro e
 simp only[Root.cell.injEq]at e
 exact h.ne (by omega)
theorem aqh {n a b i j:Nat} (h:bu a b):SV.unal (.cell (n+a) i) (.alias (.cell (n+b) j))= .alias (.cell (n+b) j):=by
 simp only[SV.unal,SV.drop];rw[if_neg (fun e=>ud (n:=n) (i:=i) (j:=j) h (by simpa using e))]
theorem am8 {n a b i j x y:Nat} (h:bu a b):SV.unal (.cell (n+a) i) (.elt (.cell (n+b) j) x y)= .elt (.cell (n+b) j) x y:=by
 simp only[SV.unal,SV.drop];rw[if_neg (fun e=>ud (n:=n) (i:=i) (j:=j) h (by simpa using e))]
theorem am5 {n a b i j:Nat} {d:DVal} (h:bu a b):SV.refix (.cell (n+a) i) d (.alias (.cell (n+b) j))= .alias (.cell (n+b) j):=by
 simp only[SV.refix];rw[if_neg (fun e=>ud (n:=n) (i:=i) (j:=j) h (by simpa using e))]
theorem ai2 {n a b i j x y:Nat} {d:DVal} (h:bu a b):SV.refix (.cell (n+a) i) d (.elt (.cell (n+b) j) x y)= .elt (.cell (n+b) j) x y:=by
 simp only[SV.refix];rw[if_neg (fun e=>ud (n:=n) (i:=i) (j:=j) h (by simpa using e))]
attribute [go_sem] aqh am8 am5 ai2
theorem asr {h:Heap} {a b c d e f g i j:Option BObj} {os:List (Option BObj)} {o:BObj}:(h.on (a::b::c::d::e::f::g::i::j::os)).upd (h.n+8) o=h.on (a::b::c::d::e::f::g::i::some o::os):=gI (by simp)
theorem aqZ {h:Heap} {a b c d e f g i j k:Option BObj} {os:List (Option BObj)} {o:BObj}:(h.on (a::b::c::d::e::f::g::i::j::k::os)).upd (h.n+9) o=h.on (a::b::c::d::e::f::g::i::j::some o::os):=gI (by simp)
theorem aoW {h:Heap} {a b c d e f g i j k l:Option BObj} {os:List (Option BObj)} {o:BObj}:(h.on (a::b::c::d::e::f::g::i::j::k::l::os)).upd (h.n+10) o=h.on (a::b::c::d::e::f::g::i::j::k::some o::os):=gI (by simp)
theorem aoO {h:Heap} {a b c d e f g i j k l m:Option BObj} {os:List (Option BObj)} {o:BObj}:(h.on (a::b::c::d::e::f::g::i::j::k::l::m::os)).upd (h.n+11) o=h.on (a::b::c::d::e::f::g::i::j::k::l::some o::os):=gI (by simp)
attribute [go_sem] asr aqZ aoW aoO
theorem awG {h:Heap} {a b c d e f g i j:Option BObj}:(h.on [a,b,c,d,e,f,g,i,j]).n=h.n+9:=rfl
theorem at6 {h:Heap} {a b c d e f g i j k:Option BObj}:(h.on [a,b,c,d,e,f,g,i,j,k]).n=h.n+10:=rfl
theorem auE {h:Heap} {a b c d e f g i j k l:Option BObj}:(h.on [a,b,c,d,e,f,g,i,j,k,l]).n=h.n+11:=rfl
theorem auY {h:Heap} {a b c d e f g i j k l m:Option BObj}:(h.on [a,b,c,d,e,f,g,i,j,k,l,m]).n=h.n+12:=rfl
attribute [go_sem] awG at6 auE auY
theorem aok {α:Type} {x:α} {a b:List α}:List.append (x::a) b=x::List.append a b:=rfl
theorem asy {α:Type} {b:List α}:List.append [] b=b:=rfl
attribute [go_sem] aok asy
theorem atS {h:Heap} {a0 a1 a2 a3 a4 a5 a6 a7 a8 a9 a10 a11 a12:Option BObj}:(h.on [a0,a1,a2,a3,a4,a5,a6,a7,a8,a9,a10,a11,a12]).n=h.n+13:=rfl
theorem au1 {h:Heap} {a0 a1 a2 a3 a4 a5 a6 a7 a8 a9 a10 a11 a12 a13:Option BObj}:(h.on [a0,a1,a2,a3,a4,a5,a6,a7,a8,a9,a10,a11,a12,a13]).n=h.n+14:=rfl
theorem at2 {h:Heap} {a0 a1 a2 a3 a4 a5 a6 a7 a8 a9 a10 a11 a12 a13 a14:Option BObj}:(h.on [a0,a1,a2,a3,a4,a5,a6,a7,a8,a9,a10,a11,a12,a13,a14]).n=h.n+15:=rfl
theorem avl {h:Heap} {a0 a1 a2 a3 a4 a5 a6 a7 a8 a9 a10 a11 a12 a13 a14 a15:Option BObj}:(h.on [a0,a1,a2,a3,a4,a5,a6,a7,a8,a9,a10,a11,a12,a13,a14,a15]).n=h.n+16:=rfl
theorem at7 {h:Heap} {a0 a1 a2 a3 a4 a5 a6 a7 a8 a9 a10 a11 a12 a13 a14 a15 a16:Option BObj}:(h.on [a0,a1,a2,a3,a4,a5,a6,a7,a8,a9,a10,a11,a12,a13,a14,a15,a16]).n=h.n+17:=rfl
theorem avd {h:Heap} {a0 a1 a2 a3 a4 a5 a6 a7 a8 a9 a10 a11 a12 a13 a14 a15 a16 a17:Option BObj}:(h.on [a0,a1,a2,a3,a4,a5,a6,a7,a8,a9,a10,a11,a12,a13,a14,a15,a16,a17]).n=h.n+18:=rfl
theorem ams {h:Heap} {a0 a1 a2 a3 a4 a5 a6 a7 a8 a9 a10 a11 a12:Option BObj} {os:List (Option BObj)} {o:BObj}:(h.on (a0::a1::a2::a3::a4::a5::a6::a7::a8::a9::a10::a11::a12::os)).upd (h.n+12) o=h.on (a0::a1::a2::a3::a4::a5::a6::a7::a8::a9::a10::a11::some o::os):=gI (by simp)
theorem amC {h:Heap} {a0 a1 a2 a3 a4 a5 a6 a7 a8 a9 a10 a11 a12 a13:Option BObj} {os:List (Option BObj)} {o:BObj}:(h.on (a0::a1::a2::a3::a4::a5::a6::a7::a8::a9::a10::a11::a12::a13::os)).upd (h.n+13) o=h.on (a0::a1::a2::a3::a4::a5::a6::a7::a8::a9::a10::a11::a12::some o::os):=gI (by simp)
theorem aof {h:Heap} {a0 a1 a2 a3 a4 a5 a6 a7 a8 a9 a10 a11 a12 a13 a14:Option BObj} {os:List (Option BObj)} {o:BObj}:(h.on (a0::a1::a2::a3::a4::a5::a6::a7::a8::a9::a10::a11::a12::a13::a14::os)).upd (h.n+14) o=h.on (a0::a1::a2::a3::a4::a5::a6::a7::a8::a9::a10::a11::a12::a13::some o::os):=gI (by simp)
theorem an0 {h:Heap} {a0 a1 a2 a3 a4 a5 a6 a7 a8 a9 a10 a11 a12 a13 a14 a15:Option BObj} {os:List (Option BObj)} {o:BObj}:(h.on (a0::a1::a2::a3::a4::a5::a6::a7::a8::a9::a10::a11::a12::a13::a14::a15::os)).upd (h.n+15) o=h.on (a0::a1::a2::a3::a4::a5::a6::a7::a8::a9::a10::a11::a12::a13::a14::some o::os):=gI (by simp)
theorem aoK {h:Heap} {a0 a1 a2 a3 a4 a5 a6 a7 a8 a9 a10 a11 a12 a13 a14 a15 a16:Option BObj} {os:List (Option BObj)} {o:BObj}:(h.on (a0::a1::a2::a3::a4::a5::a6::a7::a8::a9::a10::a11::a12::a13::a14::a15::a16::os)).upd (h.n+16) o=h.on (a0::a1::a2::a3::a4::a5::a6::a7::a8::a9::a10::a11::a12::a13::a14::a15::some o::os):=gI (by simp)
theorem aoU {h:Heap} {a0 a1 a2 a3 a4 a5 a6 a7 a8 a9 a10 a11 a12 a13 a14 a15 a16 a17:Option BObj} {os:List (Option BObj)} {o:BObj}:(h.on (a0::a1::a2::a3::a4::a5::a6::a7::a8::a9::a10::a11::a12::a13::a14::a15::a16::a17::os)).upd (h.n+17) o=h.on (a0::a1::a2::a3::a4::a5::a6::a7::a8::a9::a10::a11::a12::a13::a14::a15::a16::some o::os):=gI (by simp)
attribute [go_sem] atS au1 at2 avl at7 avd ams amC aof an0 aoK aoU
theorem oB {C:Ctx} {m:Nat} {Q:Ex→St→Prop} {s:St} {c:Code} (h:aK C (Runs C) m c (Ex.then (aK C (Runs C) m (.loop c) Q) Q) s):aK C (Runs C) m (.loop c) Q s:=kM.step s (.refl s) h
end Go.Val
namespace Go.Val
section
variable {C:Ctx} {R:cG} {m:Nat} {Q:Ex→St→Prop} {s:St}
theorem A_s {id:Nat} {ops:Array Oper} {l:List Oper} {s':St} {b:Code} (hk:aK C R m b Q s') (hl:ops.toList=l:=by rfl) (h:gH C.P ops l s=some s':=by simp (disch:=(apply bu.mk;decide)) only[go_sem,Nat.reduceAdd,Nat.reduceLT,Nat.reduceMul,Nat.reduceLeDiff,Int.reduceToNat,Int.reduceLT,Int.reduceLE, *];rfl):aK C R m (.seq (.region id ops false) b) Q s:=an (lP hl h (w_n hk))
end
theorem bf {C:Ctx} {f:FuncId} {args:List SV} {h:Heap} {Q:List SV→Heap→Prop} {fn:Func} {code:Code} (hf:C.P.funcs[f]? =some fn)
  (hw:h.WF→(∀ v∈args,v.under h.n)→aK C (Runs C) h.n code (atEnd C h.n f fn Q) ⟨entry 0 args,h.on []⟩) (hb:fn.body=some code:=by rfl) (hl:Nat.ble args.length fn.ntmps=true:=by rfl) (hin:within fn.ntmps code=true:=by rfl) (hname:(fn.name== "runtime.NumGoroutine")=false:=by rfl):Runs C f args h Q:=
 Runs.start fn code hf hb (Nat.le_of_ble_eq_true hl) hin hname hw
theorem A_hr {p:Prop} (h:p:=by simp (disch:=(apply bu.mk;decide)) only[go_sem,Nat.reduceAdd,Nat.reduceLT,Nat.reduceMul,Nat.reduceLeDiff,Int.reduceToNat,Int.reduceLT,Int.reduceLE, *];rfl):p:=h
theorem Holds.one {α:Type} {x:Option α} {a:α} (e:x=some a):∃ D:α→Prop,(∀ z,D z→z=a)∧Holds x D:=⟨fun z=>z=a,fun _ h=>h,Holds.intro e rfl⟩
end Go.Val

/- A value semantics of the model's programs, sound against it, and functions read off the given program with the proofs that it runs so; no condition. -/
import Derived.Test.YtmfelmglmhjggaaGreatOwnB
import GoSem.ClaimChange
set_option linter.all false
set_option linter.unnecessarySimpa false
set_option linter.unusedVariables false
set_option linter.unusedSimpArgs false
namespace Go.Val
variable {P:Program} {s:St} {x y:Operand}
def aeO:Option (List ao)→Bool→Option Out
 | some ds,false=>some (.cv (.val (.agg ds)),[])
 | some _,true=>none
 | none,_=>none
def aiu (l off:Nat):Option CV→Option Out
 | some (.val d)=>some (.cv (.val d),[])
 | some .nil=>some (.cv .nil,[])
 | some (.row _ _)=>some (.alias (.cell l off),[])
 | some .dead=>none
 | none=>none
def aj9 (n:Nat) (cs:List CV):Option Out:=if cs.length < n then none else aeO (gU (cs.take n)) (ep (cs.take n))
def loadCells (l off n:Nat) (cs:List CV):Bool→Option Out
 | true=>aj9 n (cs.drop off)
 | false=>if n≠1 then none else aiu l off cs[off]?
def loadAt (P:Program) (t:TypeId) (l off:Nat):Option bI→Option Out
 | some (.cells cs)=>loadCells l off (P.cellsOf t) cs (dU P t)
 | some (.map _ _)=>none
 | none=>none
def od (P:Program) (t:TypeId) (cs:List ao):Option Out:=if cs.length < P.cellsOf t then none else aoh (fF P t (cs.take (P.cellsOf t)))
def ae8 (P:Program) (t:TypeId) (off:Nat):Option ao→Option Out
 | some e=>od P t (e.cells.drop off)
 | none=>none
def vG (P:Program) (t:TypeId) (i off:Nat):Option (TypeId×List ao)→Option Out
 | some (_,xs)=>ae8 P t off xs[i]?
 | none=>none
def zU {α:Type} (f:Nat→Nat→Option α):ao→Option α
 | .ptr (some (l,off))=>f l off
 | .ptr none=>none
 | .int _ _=>none
 | .bool _=>none
 | .str _=>none
 | .sl _=>none
 | .agg _=>none
 | .map _=>none
 | .fn _ _ _=>none
 | .nilfn=>none
def abT (P:Program) (s:St) (t:TypeId) (l off:Nat):Option Out:=loadAt P t l off (s.box.at_ l)
def jN (P:Program) (s:St) (t:TypeId):SV→Option Out
 | .cv (.val d)=>zU (abT P s t) d
 | .imm cs=>od P t cs
 | .elt r i off=>vG P t i off (s.rowAt r)
 | .cv .nil=>none
 | .cv (.row _ _)=>none
 | .cv .dead=>none
 | .alias _=>none
 | .bld _=>none
 | .tup _=>none
 | .undef=>none
def yo (P:Program) (s:St) (t:TypeId) (v:SV):Option TypeDesc→Option Out
 | some _=>if P.cellsOf t=0 then none else jN P s t v
 | none=>none
theorem df {t:TypeId}:loadOp P s t x=yo P s t (s.opv x) (P.underlying t):=by
 unfold loadOp
 cases hu:P.underlying t with
 | none=>rw[if_pos (.inr rfl)];rfl
 | some td=>
  simp only[yo,Option.isNone_some,Bool.false_eq_true,or_false]
  split
  ·rfl
  ·cases s.opv x with
   | cv c=>
    cases c with
    | val d=>
     cases d with
     | ptr a=>
      cases a with
      | none=>rfl
      | some a=>
       obtain ⟨l,off⟩:=a
       simp only[jN,zU,abT]
       cases s.box.at_ l with
       | none=>rfl
       | some o=>
        cases o with
        | map _ _=>rfl
        | cells cs=>
         simp only[loadAt,ano]
         cases dU P t with
         | true=>
          simp only[if_true,loadCells,aj9]
          split
          ·rfl
          ·cases gU ((cs.drop off).take (P.cellsOf t))with
           | none=>rfl
           | some ds=>
            simp only[oB]
            cases ep ((cs.drop off).take (P.cellsOf t)) <;> rfl
         | false=>
          simp only[Bool.false_eq_true,if_false,loadCells]
          split
          ·rfl
          ·cases cs[off]? with
           | none=>rfl
           | some c=>cases c <;> rfl
     | _=>rfl
    | _=>rfl
   | imm cs=>
    simp only[jN,od]
    split
    ·rfl
    ·cases fF P t (cs.take (P.cellsOf t)) <;> rfl
   | elt r i off=>
    simp only[jN]
    cases s.rowAt r with
    | none=>rfl
    | some p=>
     obtain ⟨k,xs⟩:=p
     simp only[oB,vG]
     cases xs[i]? with
     | none=>rfl
     | some e=>
      simp only[oB,ae8,od]
      split
      ·rfl
      ·cases fF P t ((e.cells.drop off).take (P.cellsOf t)) <;> rfl
   | _=>rfl
def at6 (n:Nat):Option ao→Option Out
 | some d=>if d.cells.length=n then some (.imm d.cells,[])else none
 | none=>none
def ajw (e:TypeId) (r:ec) (i:Nat):Option (TypeId×List ao)→Option Out
 | some (k,xs)=>if i < xs.length∧k=e then some (.elt r i 0,[])else none
 | none=>none
def mz (n i:Nat):ao→Option Out
 | .sl xs=>at6 n xs[i]?
 | .ptr _=>none
 | .int _ _=>none
 | .bool _=>none
 | .str _=>none
 | .agg _=>none
 | .map _=>none
 | .fn _ _ _=>none
 | .nilfn=>none
def pr (s:St) (e:TypeId) (n:Nat) (x:Operand) (i:Nat):SV→Option Out
 | .cv (.val d)=>mz n i d
 | .cv (.row k xs)=>if i < xs.length∧k=e then some (.elt (.slot (kg x)) i 0,[])else none
 | .alias r=>ajw e r i (s.rowAt r)
 | .cv .nil=>none
 | .cv .dead=>none
 | .imm _=>none
 | .elt _ _ _=>none
 | .bld _=>none
 | .tup _=>none
 | .undef=>none
def arX (l off:Nat):Option Out:=some (.cv (.val (.ptr (some (l,off)))),[])
def ayc (n l off:Nat):Option Out:=arX l (off+n)
def aix (n:Nat):SV→Option Out
 | .cv (.val d)=>zU (ayc n) d
 | .imm cs=>some (.imm (cs.drop n),[])
 | .elt r j off=>some (.elt r j (off+n),[])
 | .cv .nil=>none
 | .cv (.row _ _)=>none
 | .cv .dead=>none
 | .alias _=>none
 | .bld _=>none
 | .tup _=>none
 | .undef=>none
def al3 (P:Program) (s:St) (x:Operand) (i:Nat):Option TypeDesc→Option Out
 | some (.slice e)=>if P.cellsOf e=0 then none else pr s e (P.cellsOf e) x i (s.opv x)
 | some (.array n e)=>if P.cellsOf e=0∨¬ i < n then none else aix (i*P.cellsOf e) (s.opv x)
 | _=>none
def yI (P:Program) (s:St) (x:Operand) (t:TypeId):Option (IntKind×Int)→Option Out
 | some (_,i)=>if i < 0 then none else al3 P s x i.toNat (P.underlying t)
 | none=>none
theorem akG {n:Nat} {sv:SV}:aix n sv=(match sv with
  | .cv (.val (.ptr (some (l,off))))=>some (.cv (.val (.ptr (some (l,off+n)))),[])
  | .imm cs=>some (.imm (cs.drop n),[])
  | .elt r j off=>some (.elt r j (off+n),[])
  | _=>none):=by
 cases sv with
 | cv c=>
  cases c with
  | val d=>
   cases d with
   | ptr a=>cases a <;> rfl
   | _=>rfl
  | _=>rfl
 | _=>rfl
theorem tI {t:TypeId}:indexAddrOp P s t x y=yI P s x t (s.asInt y):=by
 unfold indexAddrOp
 cases s.asInt y with
 | none=>rfl
 | some p=>
  obtain ⟨k,i⟩:=p
  simp only[oB,yI]
  split
  ·rfl
  ·cases P.underlying t with
   | none=>rfl
   | some td=>
    cases td
    case slice e=>
     simp only[al3]
     split
     ·rfl
     ·cases s.opv x with
      | cv c=>
       cases c with
       | val d=>
        cases d with
        | sl xs=>simp only[pr,mz];cases xs[i.toNat]? <;> rfl
        | _=>rfl
       | _=>rfl
      | alias r=>simp only[pr];cases s.rowAt r <;> rfl
      | _=>rfl
    case array n e=>
     simp only[al3,akG]
     rfl
    all_goals rfl
def ayO (P:Program) (sv:SV):Option Field→Option Out
 | some fd=>if P.cellsOf fd.type=0 then none else aix fd.offset sv
 | none=>none
def ayL (P:Program) (sv:SV) (f:Nat):Option TypeDesc→Option Out
 | some (.struct fs)=>ayO P sv fs[f]?
 | _=>none
theorem tB {t:TypeId} {f:Nat}:fieldAddrOp P s t x f=ayL P (s.opv x) f (P.underlying t):=by
 unfold fieldAddrOp
 cases P.underlying t with
 | none=>rfl
 | some td=>
  cases td
  case struct fs=>
   simp only[ayL]
   cases fs[f]? with
   | none=>rfl
   | some fd=>
    simp only[oB,ayO,akG]
    rfl
  all_goals rfl
def aoj:ao→Option Out
 | .str b=>ret (.int .i64 b.size)
 | .sl _=>none
 | .ptr _=>none
 | .int _ _=>none
 | .bool _=>none
 | .agg _=>none
 | .map _=>none
 | .fn _ _ _=>none
 | .nilfn=>none
def abu:Option ao→Option Out
 | some d=>aoj d
 | none=>none
def aaO:Option (List ao)→Option Out
 | some xs=>ret (.int .i64 xs.length)
 | none=>none
def aeG:Option bI→Option Out
 | some (.map _ es)=>ret (.int .i64 es.length)
 | some (.cells _)=>none
 | none=>none
def iZ (s:St):ao→Option Out
 | .map none=>ret (.int .i64 0)
 | .map (some l)=>aeG (s.box.at_ l)
 | .str _=>none
 | .sl _=>none
 | .ptr _=>none
 | .int _ _=>none
 | .bool _=>none
 | .agg _=>none
 | .fn _ _ _=>none
 | .nilfn=>none
def vu (s:St):Option ao→Option Out
 | some d=>iZ s d
 | none=>none
def xk (s:St) (x:Operand):Option TypeDesc→Option Out
 | some .string=>abu (optVal s x)
 | some (.slice _)=>aaO (s.list (s.opv x))
 | some (.map _ _)=>vu s (optVal s x)
 | _=>none
theorem aoF {t:TypeId}:lenOp P s t x=xk s x (P.underlying t):=by
 unfold lenOp
 cases P.underlying t with
 | none=>rfl
 | some td=>
  cases td
  case string=>
   simp only[xk]
   cases optVal s x with
   | none=>rfl
   | some d=>cases d <;> rfl
  case slice e=>simp only[xk];cases s.list (s.opv x) <;> rfl
  case map k e=>
   simp only[xk]
   cases optVal s x with
   | none=>rfl
   | some d=>
    cases d
    case map r=>
     cases r with
     | none=>rfl
     | some l=>
      simp only[oB,vu,iZ]
      cases s.box.at_ l with
      | none=>rfl
      | some o=>cases o <;> rfl
    all_goals rfl
  all_goals rfl
section
variable {dst:Option Tmp} {ty:TypeId} {pos:String} {after:Array Edge} {g:Option (Nat×Bool)}
theorem axO {t:TypeId} {x:Operand}:aop P s ⟨dst,.load t x,ty,pos,after,g⟩=yo P s t (s.opv x) (P.underlying t):=df
theorem acq {t:TypeId} {x y:Operand}:aop P s ⟨dst,.indexAddr t x y,ty,pos,after,g⟩=yI P s x t (s.asInt y):=tI
theorem adF {t:TypeId} {x:Operand} {f:Nat}:aop P s ⟨dst,.fieldAddr t x f,ty,pos,after,g⟩=ayL P (s.opv x) f (P.underlying t):=tB
theorem azc {x:Operand} {t:TypeId}:aop P s ⟨dst,.call ⟨.builtin .len,#[x],#[t]⟩,ty,pos,after,g⟩=xk s x (P.underlying t):=aoF
end
variable {P:Program} {s:St} {x y:Operand}
def amQ {α:Type} (f:List ao→Option α):ao→Option α
 | .agg cs=>f cs
 | .ptr _=>none
 | .int _ _=>none
 | .bool _=>none
 | .str _=>none
 | .sl _=>none
 | .map _=>none
 | .fn _ _ _=>none
 | .nilfn=>none
def aiw {α:Type} (f:List ao→Option α):Option ao→Option α
 | some d=>amQ f d
 | none=>none
def an7 {α:Type} (f:ByteArray→Option α):ao→Option α
 | .str b=>f b
 | .agg _=>none
 | .ptr _=>none
 | .int _ _=>none
 | .bool _=>none
 | .sl _=>none
 | .map _=>none
 | .fn _ _ _=>none
 | .nilfn=>none
def aq4 {α:Type} (f:ByteArray→Option α):Option ao→Option α
 | some d=>an7 f d
 | none=>none
theorem aggO'_eq {α:Type} {f:List ao→Option α} {d:Option ao}:(d.bind fun d=>match d with | .agg cs=>f cs | _=>none)=aiw f d:=by
 cases d with
 | none=>rfl
 | some d=>cases d <;> rfl
theorem aty {α:Type} {f:ByteArray→Option α} {d:Option ao}:(d.bind fun d=>match d with | .str b=>f b | _=>none)=aq4 f d:=by
 cases d with
 | none=>rfl
 | some d=>cases d <;> rfl
def acg (P:Program) (fd:Field) (cs:List ao):Option Out:=if fd.offset+P.cellsOf fd.type≤cs.length∧P.cellsOf fd.type≠0 then aoh (fF P fd.type ((cs.drop fd.offset).take (P.cellsOf fd.type)))else none
def fdO (P:Program) (d:Option ao):Option Field→Option Out
 | some fd=>aiw (acg P fd) d
 | none=>none
def fTD (P:Program) (d:Option ao) (f:Nat):Option TypeDesc→Option Out
 | some (.struct fs)=>fdO P d fs[f]?
 | _=>none
theorem sF {d:Option ao}:d.bind ret=aoh d:=by cases d <;> rfl
theorem agt {t:TypeId} {f:Nat}:fieldOp P s t x f=fTD P (optVal s x) f (P.underlying t):=by
 unfold fieldOp
 cases P.underlying t with
 | none=>rfl
 | some td=>
  cases td
  case struct fs=>
   simp only[fTD]
   cases fs[f]? with
   | none=>rfl
   | some fd=>
    simp only[oB,fdO]
    rw[← aggO'_eq]
    congr 1
    funext d
    cases d
    case agg cs=>simp only[acg,sF]
    all_goals rfl
  all_goals rfl
def ata:Option UInt8→Option Out
 | some c=>ret (.int .u8 c.toNat)
 | none=>none
def au0 (i:Nat) (b:ByteArray):Option Out:=ata b.data.toList[i]?
def azi (P:Program) (n:Nat) (e:TypeId) (i:Nat) (cs:List ao):Option Out:=if i < n∧i*P.cellsOf e+P.cellsOf e≤cs.length then aoh (fF P e ((cs.drop (i*P.cellsOf e)).take (P.cellsOf e)))else none
def aw4 (P:Program) (i:Nat) (d:Option ao):Option TypeDesc→Option Out
 | some .string=>aq4 (au0 i) d
 | some (.array n e)=>aiw (azi P n e i) d
 | _=>none
def ali (P:Program) (t:TypeId) (d:Option ao):Option (IntKind×Int)→Option Out
 | some (_,i)=>if i < 0 then none else aw4 P i.toNat d (P.underlying t)
 | none=>none
theorem agA {t:TypeId}:indexOp P s t x y=ali P t (optVal s x) (s.asInt y):=by
 unfold indexOp
 cases s.asInt y with
 | none=>rfl
 | some p=>
  obtain ⟨k,i⟩:=p
  simp only[oB,ali]
  split
  ·rfl
  ·cases hu:P.underlying t with
   | none=>cases optVal s x <;> rfl
   | some td=>
    cases optVal s x with
    | none=>cases td <;> rfl
    | some d=>
     simp only[oB]
     cases td
     case string=>
      cases d
      case str b=>
       simp only[aw4,aq4,an7,au0]
       cases b.data.toList[i.toNat]? <;> rfl
      all_goals rfl
     case array n e=>
      cases d
      case agg cs=>simp only[aw4,aiw,amQ,azi,sF]
      all_goals rfl
     all_goals (cases d <;> rfl)
def au3 (len:Nat):Option (IntKind×Int)→Option Nat
 | some (_,i)=>if 0≤i∧i≤(len:Int)then some i.toNat else none
 | none=>none
theorem xu {len d:Nat}:boundOf s len d none=some d:=rfl
theorem xi {len d:Nat}:boundOf s len d (some x)=au3 len (s.asInt x):=by
 simp only[boundOf]
 cases s.asInt x <;> rfl
def an2 (b:ByteArray) (h:Nat):Option Nat→Option Out
 | some l=>ret (.str (b.extract l h))
 | none=>none
def vB (s:St) (lo:Option Operand) (b:ByteArray):Option Nat→Option Out
 | some h=>an2 b h (boundOf s h 0 lo)
 | none=>none
def at2 (s:St) (lo hi:Option Operand) (b:ByteArray):Option Out:=vB s lo b (boundOf s b.size b.size hi)
def asE (n:Nat) (xs:List ao) (es:List Eff) (h:Nat):Option Nat→Option Out
 | some l=>if n=0∨dD n xs=false then none else some (.cv (.val (.sl ((xs.take h).drop l))),es)
 | none=>none
def afr (s:St) (lo:Option Operand) (n:Nat) (xs:List ao) (es:List Eff):Option Nat→Option Out
 | some h=>asE n xs es h (boundOf s h 0 lo)
 | none=>none
def asa (s:St) (lo hi:Option Operand) (n:Nat) (es:List Eff) (xs:List ao):Option Out:=afr s lo n xs es (boundOf s xs.length xs.length hi)
def slV (s:St) (lo hi:Option Operand) (n:Nat):Option (ao×List Eff)→Option Out
 | some (.sl xs,es)=>asa s lo hi n es xs
 | _=>none
def axx (n:Nat) (hi:Option Operand):Option (List ao)→Option (IntKind×Int)→Option Nat→Option Nat→Option Out
 | some _,some m,some h,some l=>if m.2=0∧h=0∧l=0∧hi.isSome∧n≠0 then some (.cv .nil,[])else none
 | _,_,_,_=>none
def arR (P:Program) (s:St) (x:Operand) (lo hi:Option Operand):Option TypeDesc→Option Operand→Option Out
 | some .string,none=>aq4 (at2 s lo hi) (optVal s x)
 | some (.slice e),none=>slV s lo hi (P.cellsOf e) (s.asVal x)
 | some (.slice e),some m=>axx (P.cellsOf e) hi (s.list (s.opv x)) (s.asInt m) (boundOf s 0 0 hi) (boundOf s 0 0 lo)
 | _,_=>none
theorem afU {t:TypeId} {lo hi mx:Option Operand}:sliceOp P s t x lo hi mx=arR P s x lo hi (P.underlying t) mx:=by
 unfold sliceOp
 cases P.underlying t with
 | none=>rfl
 | some td=>
  cases td
  case string=>
   cases mx with
   | some m=>rfl
   | none=>
    simp only[arR]
    rw[← aty]
    congr 1;funext d
    cases d
    case str b=>
     simp only[at2]
     cases boundOf s b.size b.size hi with
     | none=>rfl
     | some h=>
      simp only[oB,vB]
      cases boundOf s h 0 lo <;> rfl
    all_goals rfl
  case slice e=>
   cases mx with
   | none=>
    simp only[arR]
    cases s.asVal x with
    | none=>rfl
    | some p=>
     obtain ⟨d,es⟩:=p
     cases d
     case sl xs=>
      simp only[oB,slV,asa]
      cases boundOf s xs.length xs.length hi with
      | none=>rfl
      | some h=>
       simp only[oB,afr]
       cases boundOf s h 0 lo <;> rfl
     all_goals rfl
   | some m=>
    simp only[arR]
    cases s.list (s.opv x)with
    | none=>rfl
    | some xs=>
     cases s.asInt m with
     | none=>rfl
     | some m=>
      cases boundOf s 0 0 hi with
      | none=>rfl
      | some h=>cases boundOf s 0 0 lo <;> rfl
  all_goals (cases mx <;> rfl)
variable {P:Program} {s:St} {x y:Operand}
def axW (b:ByteArray):Option (List ao):=some (jq b)
def akw (i:Int):Option ao→Option (List ao)
 | some z=>if 0≤i then some (List.replicate i.toNat z)else none
 | none=>none
def auF (z:Option ao):Option (IntKind×Int)→Option (List ao)
 | some (_,i)=>akw i z
 | none=>none
def xZ (P:Program) (s:St) (e:TypeId) (y:Operand):Option TypeDesc→Option (List ao)
 | some (.slice _)=>s.list (s.opv y)
 | some .string=>aq4 axW (optVal s y)
 | some (.int _)=>auF (kl P e) (s.asInt y)
 | _=>none
def ayK (P:Program) (e:TypeId) (xs ys:List ao):Prop:=(xs.length+ys.length)*P.bytesOf e≤dC∧dD (P.cellsOf e) ys=true∧0 < P.bytesOf e∧0 < P.cellsOf e∧cY P e=true
instance (P:Program) (e:TypeId) (xs ys:List ao):Decidable (ayK P e xs ys):=by unfold ayK;infer_instance
def aqy (P:Program) (e:TypeId):Option (List ao×List Eff)→Option (List ao)→Option Out
 | some (xs,es),some ys=>if ayK P e xs ys then some (.cv (.row e (xs++ys)),es)else none
 | some _,none=>none
 | none,_=>none
def ayJ (P:Program) (s:St) (ty:TypeId) (x y:Operand):Option TypeDesc→Option Out
 | some (.slice e)=>aqy P e (s.asRow e x) (xZ P s e y (P.underlying ty))
 | _=>none
theorem acQ {t ty:TypeId}:appendOp P s t ty x y=ayJ P s ty x y (P.underlying t):=by
 unfold appendOp
 cases P.underlying t with
 | none=>rfl
 | some td=>
  cases td
  case slice e=>
   simp only[ayJ]
   have hsrc:(match P.underlying ty with
     | some (.slice _)=>s.list (s.opv y)
     | some .string=>(optVal s y).bind fun d=>match d with
       | .str b=>some (jq b)
       | _=>none
     | some (.int _)=>(s.asInt y).bind fun p=>(kl P e).bind fun z=>if 0≤p.2 then some (List.replicate p.2.toNat z)else none
     | _=>none)=xZ P s e y (P.underlying ty):=by
    cases P.underlying ty with
    | none=>rfl
    | some td=>
     cases td
     case string=>
      simp only[xZ]
      cases optVal s y with
      | none=>rfl
      | some d=>cases d <;> rfl
     case int k=>
      simp only[xZ]
      cases s.asInt y with
      | none=>rfl
      | some p=>cases kl P e <;> rfl
     all_goals rfl
   cases s.asRow e x with
   | none=>rfl
   | some r=>
    refine Eq.trans (congrArg (fun src:Option (List ao)=>src.bind fun ys=>if (r.1.length+ys.length)*P.bytesOf e≤dC∧dD (P.cellsOf e) ys∧0 < P.bytesOf e∧0 < P.cellsOf e∧cY P e then some ((SV.cv (.row e (r.1++ys))),r.2)else none) hsrc) ?_
    cases xZ P s e y (P.underlying ty) <;> rfl
  all_goals rfl
def awM (P:Program) (e:TypeId):Option (IntKind×Int)→Option (IntKind×Int)→Option ao→Option Out
 | some (_,a),some (_,b),some z=>if 0≤a∧a=b∧a.toNat*P.bytesOf e≤dC∧0 < P.bytesOf e∧z.cells.length=P.cellsOf e then some (.cv (.row e (List.replicate a.toNat z)),[])else none
 | _,_,_=>none
def ayG (P:Program) (s:St) (n m:Operand):Option TypeDesc→Option Out
 | some (.slice e)=>awM P e (s.asInt n) (s.asInt m) (kl P e)
 | _=>none
theorem tJ {t:TypeId}:makeSliceOp P s t x y=ayG P s x y (P.underlying t):=by
 unfold makeSliceOp
 cases P.underlying t with
 | none=>rfl
 | some td=>
  cases td
  case slice e=>
   simp only[ayG]
   cases s.asInt x with
   | none=>rfl
   | some a=>
    cases s.asInt y with
    | none=>rfl
    | some b=>cases kl P e <;> rfl
  all_goals rfl
def atr (k:IntKind):Option (IntKind×Int)→Option Out
 | some (_,i)=>ret (.int k (k.wrap i))
 | none=>none
def awy (b:ByteArray):Option Out:=ret (.str b)
def amN (b:ByteArray):Option Out:=ret (.sl (jq b))
def ajS:Option (List UInt8)→Option Out
 | some b=>ret (.str ⟨b.toArray⟩)
 | none=>none
def aee:Option (List ao)→Option Out
 | some ds=>ajS (strOf ds)
 | none=>none
def amP (P:Program) (s:St) (x:Operand) (q:Bool):Option TypeDesc→Option TypeDesc→Option Out
 | some (.int _),some (.int k)=>atr k (s.asInt x)
 | some .string,some .string=>aq4 awy (optVal s x)
 | some (.slice e),some .string=>if aog P e then aee (s.list (s.opv x))else none
 | some .string,some (.slice e)=>if aog P e then aq4 amN (optVal s x)else none
 | some (.slice _),some (.slice e)=>if (q&&aog P e)=true then ap3 x (s.opv x)else none
 | _,_=>none
theorem wY {t t':TypeId}:convertOp P s t t' x=amP P s x (decide (t=t')) (P.underlying t) (P.underlying t'):=by
 unfold convertOp
 cases P.underlying t with
 | none=>rfl
 | some td=>
  cases P.underlying t' with
  | none=>cases td <;> rfl
  | some td'=>
   cases td
   case int k=>
    cases td'
    case int k'=>simp only[amP];cases s.asInt x <;> rfl
    all_goals rfl
   case string=>
    cases td'
    case string=>
     simp only[amP]
     cases optVal s x with
     | none=>rfl
     | some d=>cases d <;> rfl
    case slice e=>
     simp only[amP]
     split
     ·cases optVal s x with
      | none=>rfl
      | some d=>cases d <;> rfl
     ·rfl
    all_goals rfl
   case slice e=>
    cases td'
    case string=>
     simp only[amP]
     split
     ·cases s.list (s.opv x)with
      | none=>rfl
      | some ds=>simp only[oB,aee];cases strOf ds <;> rfl
     ·rfl
    all_goals rfl
   all_goals (cases td' <;> rfl)
def aof (i:Nat):SV→Option Out
 | .tup ds=>aoh ds[i]?
 | .cv _=>none
 | .alias _=>none
 | .imm _=>none
 | .elt _ _ _=>none
 | .bld _=>none
 | .undef=>none
theorem xT {i:Nat}:extractOp s x i=aof i (s.opv x):=by
 unfold extractOp
 cases s.opv x with
 | tup ds=>simp only[aof,sF]
 | _=>rfl
def aeu (kt:TypeId):Option bI→Option (List (ao×ao))
 | some (.map kt' es)=>if kt'=kt then some es else none
 | some (.cells _)=>none
 | none=>none
def ajl (s:St) (kt:TypeId):ao→Option (List (ao×ao))
 | .map none=>some []
 | .map (some l)=>aeu kt (s.box.at_ l)
 | .agg _=>none
 | .ptr _=>none
 | .int _ _=>none
 | .bool _=>none
 | .str _=>none
 | .sl _=>none
 | .fn _ _ _=>none
 | .nilfn=>none
theorem aqB {kt:TypeId} {d:ao}:mapAt s kt d=ajl s kt d:=by
 unfold mapAt
 cases d with
 | map r=>
  cases r with
  | none=>rfl
  | some l=>
   simp only[ajl]
   cases s.box.at_ l with
   | none=>rfl
   | some o=>cases o <;> rfl
 | _=>rfl
def asR (k z:ao) (ok:Bool):Option (List (ao×ao))→Option Out
 | some es=>if ok=true then some (.tup [(eH k es).getD z,.bool (eH k es).isSome],[])else some (.cv (.val ((eH k es).getD z)),[])
 | none=>none
def lkK (P:Program) (s:St) (kt:TypeId) (ok:Bool):Option ao→Option ao→Option TypeDesc→Option ao→Option Out
 | some d,some k,some td,some z=>if isKey P kt td k=true then asR k z ok (mapAt s kt d)else none
 | _,_,_,_=>none
def ayH (P:Program) (s:St) (x k:Operand) (ok:Bool):Option TypeDesc→Option Out
 | some (.map kt e)=>lkK P s kt ok (optVal s x) (optVal s k) (P.underlying kt) (kl P e)
 | _=>none
theorem adw {t:TypeId} {ok:Bool}:lookupOp P s t x y ok=ayH P s x y ok (P.underlying t):=by
 unfold lookupOp
 cases P.underlying t with
 | none=>rfl
 | some td=>
  cases td
  case map kt e=>
   simp only[ayH]
   cases optVal s x with
   | none=>rfl
   | some d=>
    cases optVal s y with
    | none=>rfl
    | some k=>
     cases P.underlying kt with
     | none=>rfl
     | some td=>
      cases kl P e with
      | none=>rfl
      | some z=>
       simp only[oB,lkK]
       split
       ·cases mapAt s kt d <;> rfl
       ·rfl
  all_goals rfl
variable {P:Program} {s:St} {x y:Operand}
def asd (l:Nat) (kt:TypeId) (k v:ao) (es:List Eff):Option (List (ao×ao))→Option Out
 | some en=>some (.undef,es++[.setMap l kt (nf k v en)])
 | none=>none
def muD (s:St) (kt:TypeId) (k v:ao) (es:List Eff):ao→Option Out
 | .map (some l)=>asd l kt k v es (mapAt s kt (.map (some l)))
 | .map none=>none
 | .agg _=>none
 | .ptr _=>none
 | .int _ _=>none
 | .bool _=>none
 | .str _=>none
 | .sl _=>none
 | .fn _ _ _=>none
 | .nilfn=>none
def muK (P:Program) (s:St) (kt:TypeId):Option ao→Option ao→Option TypeDesc→Option (ao×List Eff)→Option Out
 | some d,some k,some td,some (v,es)=>if isKey P kt td k=true then muD s kt k v es d else none
 | _,_,_,_=>none
def av6 (P:Program) (s:St) (x k v:Operand):Option TypeDesc→Option Out
 | some (.map kt _)=>muK P s kt (optVal s x) (optVal s k) (P.underlying kt) (s.asVal v)
 | _=>none
theorem nr {t:TypeId} {z:Operand}:mapUpdateOp P s t x y z=av6 P s x y z (P.underlying t):=by
 unfold mapUpdateOp
 cases P.underlying t with
 | none=>rfl
 | some td=>
  cases td
  case map kt e=>
   simp only[av6]
   cases optVal s x with
   | none=>rfl
   | some d=>
    cases optVal s y with
    | none=>rfl
    | some k=>
     cases P.underlying kt with
     | none=>rfl
     | some td=>
      cases s.asVal z with
      | none=>rfl
      | some v=>
       simp only[oB,muK]
       split
       ·cases d with
        | map r=>
         cases r with
         | none=>rfl
         | some l=>simp only[muD];cases mapAt s kt (.map (some l)) <;> rfl
        | _=>rfl
       ·rfl
  all_goals rfl
def alD (n:Nat) (z:List CV):Option (List ao)→Option Out
 | some _=>if z.length=0 then none else some (.cv (.val (.ptr (some (n,0)))),[.new (.cells z)])
 | none=>none
def alO (n:Nat):Option (List CV)→Option Out
 | some z=>alD n z (gU z)
 | none=>none
def bxO (n k:Nat):Option (List CV×List Eff)→Option Out
 | some (cs,es)=>if cs.length=k∧ep (cs.drop 1)=false then some (.cv (.val (.ptr (some (n,0)))),es++[.new (.cells cs)])else none
 | none=>none
def azg:Option (List CV×List Eff)→Option Out
 | some (cs,es)=>some (.bld cs,es)
 | none=>none
def nK (P:Program) (s:St) (t:TypeId) (ps:List (Nat×Operand)) (z:List CV):Bool→Option (List ao)→Option Out
 | true,some _=>azg (buildCells P s t z ps)
 | true,none=>none
 | false,_=>none
def bdO (P:Program) (s:St) (t:TypeId) (ps:List (Nat×Operand)):Option (List CV)→Option Out
 | some z=>nK P s t ps z (cr P t) (gU z)
 | none=>none
def alJ (es:List Eff):Option (List CV×List Eff)→Option (List CV×List Eff)
 | some (cs,es')=>some (cs,es++es')
 | none=>none
def aeJ (P:Program) (s:St) (t:TypeId) (ps:List (Nat×Operand)) (cs:List CV) (off n:Nat):Option (List CV×List Eff)→Option (List CV×List Eff)
 | some (c,es)=>if c.length=n∧off+n≤cs.length then alJ es (buildCells P (s.effs es) t (setFrom cs off c) ps)else none
 | none=>none
def wu (P:Program) (s:St) (t:TypeId) (x:Operand) (ps:List (Nat×Operand)) (cs:List CV):Option (Nat×Nat)→Option (List CV×List Eff)
 | some (off,n)=>aeJ P s t ps cs off n (partCells s x)
 | none=>none
theorem tw {t:TypeId} {cs:List CV}:buildCells P s t cs []=some (cs,[]):=rfl
theorem sK {t:TypeId} {cs:List CV} {i:Nat} {ps:List (Nat×Operand)}:buildCells P s t cs ((i,x)::ps)=wu P s t x ps cs (place P t i):=by
 simp only[buildCells]
 cases place P t i with
 | none=>rfl
 | some p=>
  obtain ⟨off,n⟩:=p
  simp only[oB,wu]
  cases partCells s x with
  | none=>rfl
  | some c=>
   obtain ⟨c,es⟩:=c
   simp only[oB,aeJ]
   split
   ·cases buildCells P (s.effs es) t (setFrom cs off c) ps <;> rfl
   ·rfl
def alK (d:ao) (es:List Eff):Option (List ao×List Eff)→Option (List ao×List Eff)
 | some (ds,es')=>some (d::ds,es++es')
 | none=>none
def ae6 (P:Program) (s:St) (k j:Nat) (ps:List (Nat×Operand)):Option (ao×List Eff)→Option (List ao×List Eff)
 | some (d,es)=>if d.cells.length=k then alK d es (buildElems P (s.effs es) k (j+1) ps)else none
 | none=>none
theorem tH {k j:Nat}:buildElems P s k j []=some ([],[]):=rfl
theorem rL {k j i:Nat} {ps:List (Nat×Operand)}:buildElems P s k j ((i,x)::ps)=if i=j then ae6 P s k j ps (s.asVal x)else none:=by
 simp only[buildElems]
 split
 ·cases s.asVal x with
  | none=>rfl
  | some d=>
   obtain ⟨d,es⟩:=d
   simp only[oB,ae6]
   split
   ·cases buildElems P (s.effs es) k (j+1) ps <;> rfl
   ·rfl
 ·rfl
def asg (P:Program) (e:TypeId) (n:Nat):Option (List ao×List Eff)→Option Out
 | some (ds,es)=>if ds.length=n∧n*P.cellsOf e≤2^24∧P.cellsOf e≠0∧eD P e=true then some (.cv (.row e ds),es)else none
 | none=>none
def azB (P:Program) (s:St) (n:Nat) (ps:List (Nat×Operand)):Option TypeDesc→Option Out
 | some (.slice e)=>asg P e n (buildElems P s (P.cellsOf e) 0 ps)
 | _=>none
def au5 (n:Nat) (kt:TypeId):Option TypeDesc→Option Out
 | some _=>some (.cv (.val (.map (some n))),[.new (.map kt [])])
 | none=>none
def ay4 (P:Program) (n:Nat):Option TypeDesc→Option Out
 | some (.map kt _)=>au5 n kt (P.underlying kt)
 | _=>none
def arh (f:FuncId):Option (List ao)→Option (List ao)→Option Out
 | some a,some b=>if a.all ao.one&&b.all ao.one then ret (.fn f a b)else none
 | some _,none=>none
 | none,_=>none
def alr (d:ao):Option (List ao)→Option (List ao)
 | some ds=>some (d::ds)
 | none=>none
def aeD (s:St) (xs:List Operand):Option ao→Option (List ao)
 | some d=>alr d (optVals s xs)
 | none=>none
theorem aa8:optVals s []=some []:=rfl
theorem xG {xs:List Operand}:optVals s (x::xs)=aeD s xs (optVal s x):=by
 simp only[optVals]
 cases optVal s x with
 | none=>rfl
 | some d=>simp only[oB,aeD];cases optVals s xs <;> rfl
def ac0 (l off n m:Nat):Option (List CV×List Eff)→Option Out
 | some (c,es)=>if c.length=n∧off+n≤m then some (.undef,es++setCells l off c)else none
 | none=>none
def am5 (l off n:Nat) (c:Option (List CV×List Eff)):Option bI→Option Out
 | some (.cells cs)=>ac0 l off n cs.length c
 | some (.map _ _)=>none
 | none=>none
def asl (s:St) (n:Nat) (c:Option (List CV×List Eff)) (l off:Nat):Option Out:=am5 l off n c (s.box.at_ l)
def ahw (r:ec) (k:TypeId) (xs:List ao) (i off n:Nat) (e:ao):Option (ao×List Eff)→Option Out
 | some (d,[])=>if d.cells.length=n∧off+n≤e.cells.length then some (.undef,[.setRow r k (xs.set i (oG e (setFrom e.cells off d.cells)))])else none
 | some (_,_::_)=>none
 | none=>none
def ayP (r:ec) (k:TypeId) (xs:List ao) (i off n:Nat) (v:Option (ao×List Eff)):Option ao→Option Out
 | some e=>ahw r k xs i off n e v
 | none=>none
def aqN (r:ec) (i off n:Nat) (v:Option (ao×List Eff)):Option (TypeId×List ao)→Option Out
 | some (k,xs)=>ayP r k xs i off n v xs[i]?
 | none=>none
def aeQ (s:St) (n:Nat) (y:Operand):SV→Option Out
 | .cv (.val d)=>zU (asl s n (s.asCells y)) d
 | .elt r i off=>aqN r i off n (s.asVal y) (s.rowAt r)
 | .imm _=>none
 | .cv .nil=>none
 | .cv (.row _ _)=>none
 | .cv .dead=>none
 | .alias _=>none
 | .bld _=>none
 | .tup _=>none
 | .undef=>none
theorem ags {t:TypeId}:storeOp P s t x y=if P.cellsOf t=0 then none else aeQ s (P.cellsOf t) y (s.opv x):=by
 unfold storeOp
 split
 ·rfl
 ·cases s.opv x with
  | cv c=>
   cases c with
   | val d=>
    cases d with
    | ptr a=>
     cases a with
     | none=>rfl
     | some a=>
      obtain ⟨l,off⟩:=a
      simp only[aeQ,zU,asl]
      cases s.box.at_ l with
      | none=>rfl
      | some o=>
       cases o with
       | map _ _=>rfl
       | cells cs=>simp only[am5];cases s.asCells y <;> rfl
    | _=>rfl
   | _=>rfl
  | elt r i off=>
   simp only[aeQ]
   cases s.rowAt r with
   | none=>rfl
   | some p=>
    obtain ⟨k,xs⟩:=p
    simp only[oB,aqN]
    cases xs[i]? with
    | none=>rfl
    | some e=>
     simp only[oB,ayP]
     cases s.asVal y with
     | none=>rfl
     | some d=>
      obtain ⟨d,es⟩:=d
      cases es with
      | nil=>simp only[oB,ahw,List.isEmpty_nil,true_and]
      | cons _ _=>simp[ahw]
  | _=>rfl
variable {P:Program} {s:St} {dst:Option Tmp} {ty:TypeId} {pos:String} {after:Array Edge} {g:Option (Nat×Bool)}
def mnO (mx:Bool):Option (List (IntKind×Int))→Option Out
 | some ((k,a)::l)=>aoh (fD mx k a l)
 | some []=>none
 | none=>none
def ak1 (p:IntKind×Int):Option (List (IntKind×Int))→Option (List (IntKind×Int))
 | some l=>some (p::l)
 | none=>none
def aeL (s:St) (xs:List Operand):Option (IntKind×Int)→Option (List (IntKind×Int))
 | some p=>ak1 p (asInts s xs)
 | none=>none
theorem ahP:asInts s []=some []:=rfl
theorem aaf {x:Operand} {xs:List Operand}:asInts s (x::xs)=aeL s xs (s.asInt x):=by
 simp only[asInts]
 cases s.asInt x with
 | none=>rfl
 | some d=>simp only[oB,aeL];cases asInts s xs <;> rfl
theorem akH {t t':TypeId} {x:Operand}:aop P s ⟨dst,.convert t t' x,ty,pos,after,g⟩=amP P s x (decide (t=t')) (P.underlying t) (P.underlying t'):=wY
theorem alu {x:Operand} {i:Nat}:aop P s ⟨dst,.extract x i,ty,pos,after,g⟩=aof i (s.opv x):=xT
theorem avi {t:TypeId} {x:Operand} {f:Nat}:aop P s ⟨dst,.field t x f,ty,pos,after,g⟩=fTD P (optVal s x) f (P.underlying t):=agt
theorem au6 {t:TypeId} {x y:Operand}:aop P s ⟨dst,.index t x y,ty,pos,after,g⟩=ali P t (optVal s x) (s.asInt y):=agA
theorem asj {t:TypeId} {x:Operand} {lo hi mx:Option Operand}:aop P s ⟨dst,.slice t x lo hi mx,ty,pos,after,g⟩=arR P s x lo hi (P.underlying t) mx:=afU
theorem atZ {t:TypeId} {x y:Operand}:aop P s ⟨dst,.store t x y,ty,pos,after,g⟩=if P.cellsOf t=0 then none else aeQ s (P.cellsOf t) y (s.opv x):=ags
theorem auq {t:TypeId}:aop P s ⟨dst,.alloc t,ty,pos,after,g⟩=alO s.box.n (bn P t):=by
 show ((bn P t).bind fun z=>if z.length=0∨(gU z).isNone then none else some ((SV.cv (.val (.ptr (some (s.box.n,0))))),[Eff.new (.cells z)]))=_
 cases bn P t with
 | none=>rfl
 | some z=>
  simp only[oB,alO]
  cases gU z with
  | none=>simp[alD]
  | some d=>simp[alD]
theorem azd {t:TypeId} {x:Operand}:aop P s ⟨dst,.box t x,ty,pos,after,g⟩=bxO s.box.n (P.cellsOf t) (s.asCells x):=by
 show ((s.asCells x).bind fun c=>if c.1.length=P.cellsOf t∧ep (c.1.drop 1)=false then some ((SV.cv (.val (.ptr (some (s.box.n,0))))),c.2++[Eff.new (.cells c.1)])else none)=_
 cases s.asCells x <;> rfl
theorem auG {t:TypeId} {ps:Array (Nat×Operand)}:aop P s ⟨dst,.build t ps,ty,pos,after,g⟩=bdO P s t ps.toList (bn P t):=by
 show ((bn P t).bind fun z=>if cr P t∧(gU z).isSome then (buildCells P s t z ps.toList).bind fun r=>some ((SV.bld r.1),r.2)else none)=_
 cases bn P t with
 | none=>rfl
 | some z=>
  simp only[oB,bdO]
  cases cr P t with
  | false=>cases gU z <;> simp[nK]
  | true=>
   cases gU z with
   | none=>simp[nK]
   | some d=>simp only[Option.isSome_some,and_self,if_true,nK];cases buildCells P s t z ps.toList <;> rfl
theorem zi {t:TypeId} {n:Nat} {ps:Array (Nat×Operand)}:aop P s ⟨dst,.buildSlice t n ps,ty,pos,after,g⟩=azB P s n ps.toList (P.underlying t):=by
 show (match P.underlying t with
  | some (.slice e)=>(buildElems P s (P.cellsOf e) 0 ps.toList).bind fun r=>if r.1.length=n∧n*P.cellsOf e≤2^24∧P.cellsOf e≠0∧eD P e then some ((SV.cv (.row e r.1)),r.2)else none
  | _=>none)=_
 cases P.underlying t with
 | none=>rfl
 | some td=>
  cases td
  case slice e=>simp only[azB];cases buildElems P s (P.cellsOf e) 0 ps.toList <;> rfl
  all_goals rfl
theorem abW {t:TypeId} {n m:Operand}:aop P s ⟨dst,.makeSlice t n m,ty,pos,after,g⟩=ayG P s n m (P.underlying t):=tJ
theorem aj4 {t:TypeId}:aop P s ⟨dst,.makeMap t none,ty,pos,after,g⟩=ay4 P s.box.n (P.underlying t):=by
 show (match P.underlying t with
  | some (.map kt _)=>if (P.underlying kt).isSome then some ((SV.cv (.val (.map (some s.box.n)))),[Eff.new (.map kt [])])else none
  | _=>none)=_
 cases P.underlying t with
 | none=>rfl
 | some td=>
  cases td
  case map kt e=>simp only[ay4];cases P.underlying kt <;> rfl
  all_goals rfl
theorem afT {f:FuncId} {first caps:Array Operand}:aop P s ⟨dst,.makeFunc (.func f) first caps,ty,pos,after,g⟩=arh f (optVals s first.toList) (optVals s caps.toList):=by
 show ((optVals s first.toList).bind fun a=>(optVals s caps.toList).bind fun b=>if a.all ao.one&&b.all ao.one then ret (.fn f a b)else none)=_
 cases optVals s first.toList with
 | none=>rfl
 | some a=>cases optVals s caps.toList <;> rfl
theorem arb {t:TypeId} {x k:Operand} {ok:Bool}:aop P s ⟨dst,.lookup t x k ok,ty,pos,after,g⟩=ayH P s x k ok (P.underlying t):=adw
theorem aby {t:TypeId} {x k v:Operand}:aop P s ⟨dst,.mapUpdate t x k v,ty,pos,after,g⟩=av6 P s x k v (P.underlying t):=nr
theorem apb {t:TypeId} {x k v:Operand}:aop P s ⟨dst,.insert t x k v,ty,pos,after,g⟩=av6 P s x k v (P.underlying t):=nr
theorem aqF {x y:Operand} {t t':TypeId}:aop P s ⟨dst,.call ⟨.builtin .append,#[x,y],#[t,t']⟩,ty,pos,after,g⟩=ayJ P s t' x y (P.underlying t):=acQ
theorem azJ {args:Array Operand} {ts:Array TypeId}:aop P s ⟨dst,.call ⟨.builtin .min,args,ts⟩,ty,pos,after,g⟩=mnO false (asInts s args.toList):=by
 show ((asInts s args.toList).bind fun l=>match l with | (k,a)::l=>(fD false k a l).bind ret | []=>none)=_
 cases asInts s args.toList with
 | none=>rfl
 | some l=>
  cases l with
  | nil=>rfl
  | cons p l=>obtain ⟨k,a⟩:=p;simp only[oB,mnO,sF]
theorem azz {args:Array Operand} {ts:Array TypeId}:aop P s ⟨dst,.call ⟨.builtin .max,args,ts⟩,ty,pos,after,g⟩=mnO true (asInts s args.toList):=by
 show ((asInts s args.toList).bind fun l=>match l with | (k,a)::l=>(fD true k a l).bind ret | []=>none)=_
 cases asInts s args.toList with
 | none=>rfl
 | some l=>
  cases l with
  | nil=>rfl
  | cons p l=>obtain ⟨k,a⟩:=p;simp only[oB,mnO,sF]
attribute [go_sem] alA ap4 ahO arp apo avq zp rowAt_slot aiX aoK adj aqJ apA ap8 at7 air abe asT ah6 av1 aq2 awi aw5 aur agy awU aw1 axO acq adF azc ayQ xu xi aqB tw sK tH rL aa8 xG ahP aaf akH alu avi au6 asj atZ auq azd auG zi abW aj4 afT arb aby apb aqF azJ azz yw
attribute [go_sem] aoh.eq_1 aoh.eq_2 lM.eq_1 lM.eq_2 lM.eq_3 lM.eq_4 lM.eq_5 lM.eq_6 lM.eq_7 lM.eq_8 lM.eq_9 lM.eq_10 am7.eq_1 am7.eq_2 fA.eq_1 fA.eq_2 fA.eq_3 fA.eq_4 fA.eq_5 fA.eq_6 fA.eq_7 fA.eq_8 fA.eq_9 fA.eq_10 fA.eq_11 ayQ.eq_1 ayQ.eq_2 qJ.eq_1 qJ.eq_2 qJ.eq_3 qJ.eq_4 qJ.eq_5 qJ.eq_6 qJ.eq_7 qJ.eq_8 qJ.eq_9 qJ.eq_10 afc.eq_1 afc.eq_2 azm.eq_1 azm.eq_2 pB.eq_1 pB.eq_2 pB.eq_3 pB.eq_4 pB.eq_5 pB.eq_6 pB.eq_7 pB.eq_8 pB.eq_9 pB.eq_10 wR.eq_1 wR.eq_2 iS.eq_1 iS.eq_2 iS.eq_3 iS.eq_4 iS.eq_5 iS.eq_6 iS.eq_7 iS.eq_8 iS.eq_9 iS.eq_10 aad.eq_1 aad.eq_2 qP.eq_1 qP.eq_2 qP.eq_3 qP.eq_4 qP.eq_5 qP.eq_6 qP.eq_7 qP.eq_8 qP.eq_9 qP.eq_10 intD.eq_1 intD.eq_2 intD.eq_3 intD.eq_4 intD.eq_5 intD.eq_6 intD.eq_7 intD.eq_8 intD.eq_9 sX.eq_1 sX.eq_2 sX.eq_3 sX.eq_4 sX.eq_5 sX.eq_6 sX.eq_7 sX.eq_8 sX.eq_9 sX.eq_10 ab7.eq_1 ab7.eq_2 slD.eq_1 slD.eq_2 slD.eq_3 slD.eq_4 slD.eq_5 slD.eq_6 slD.eq_7 slD.eq_8 slD.eq_9 lS.eq_1 lS.eq_2 lS.eq_3 lS.eq_4 lS.eq_5 lS.eq_6 lS.eq_7 lS.eq_8 lS.eq_9 lS.eq_10 atM.eq_1 atM.eq_2 lR.eq_1 lR.eq_2 lR.eq_3 lR.eq_4 lR.eq_5 lR.eq_6 lR.eq_7 lR.eq_8 lR.eq_9 lR.eq_10 jv.eq_1 jv.eq_2 jv.eq_3 jv.eq_4 jv.eq_5 jv.eq_6 jv.eq_7 jv.eq_8 jv.eq_9 jv.eq_10 tr.eq_1 tr.eq_2 tr.eq_3 tr.eq_4 cellOf.eq_1 cellOf.eq_2 cellOf.eq_3 ph.eq_1 ph.eq_2 ph.eq_3 sP.eq_1 sP.eq_2 sP.eq_3 sP.eq_4 sP.eq_5 sP.eq_6 sP.eq_7 sP.eq_8 sP.eq_9 sP.eq_10 kv.eq_1 kv.eq_2 kv.eq_3 kv.eq_4 sk.eq_1 sk.eq_2 sk.eq_3 sk.eq_4 sk.eq_5 sk.eq_6 sk.eq_7 sk.eq_8 sk.eq_9 sk.eq_10 mI.eq_1 mI.eq_2 mI.eq_3 mI.eq_4 mI.eq_5 mI.eq_6 mI.eq_7 mI.eq_8 mI.eq_9 mI.eq_10 unK.eq_1 unK.eq_2 awv.eq_1 awv.eq_2 awv.eq_3 ama.eq_1 ama.eq_2 ama.eq_3 ama.eq_4 ama.eq_5 ama.eq_6 ama.eq_7 ama.eq_8 ama.eq_9 ama.eq_10 rE.eq_1 rE.eq_2 rE.eq_3 rE.eq_4 rE.eq_5 rE.eq_6 rE.eq_7 rE.eq_8 rE.eq_9 rE.eq_10 nm.eq_1 nm.eq_2 nm.eq_3 nm.eq_4 nm.eq_5 nm.eq_6 nm.eq_7 nm.eq_8 nm.eq_9 jl.eq_1 jl.eq_2 jl.eq_3 jl.eq_4 jl.eq_5 jl.eq_6 jl.eq_7 jl.eq_8 jl.eq_9 jl.eq_10 wN.eq_1 wN.eq_2 aeO.eq_1 aeO.eq_2 aeO.eq_3 aiu.eq_1 aiu.eq_2 aiu.eq_3 aiu.eq_4 aiu.eq_5 aj9 loadCells.eq_1 loadCells.eq_2 loadAt.eq_1 loadAt.eq_2 loadAt.eq_3 od ae8.eq_1 ae8.eq_2 vG.eq_1 vG.eq_2 zU.eq_1 zU.eq_2 zU.eq_3 zU.eq_4 zU.eq_5 zU.eq_6 zU.eq_7 zU.eq_8 zU.eq_9 zU.eq_10 abT jN.eq_1 jN.eq_2 jN.eq_3 jN.eq_4 jN.eq_5 jN.eq_6 jN.eq_7 jN.eq_8 jN.eq_9 jN.eq_10 yo.eq_1 yo.eq_2 at6.eq_1 at6.eq_2 ajw.eq_1 ajw.eq_2 mz.eq_1 mz.eq_2 mz.eq_3 mz.eq_4 mz.eq_5 mz.eq_6 mz.eq_7 mz.eq_8 mz.eq_9 pr.eq_1 pr.eq_2 pr.eq_3 pr.eq_4 pr.eq_5 pr.eq_6 pr.eq_7 pr.eq_8 pr.eq_9 pr.eq_10 arX ayc aix.eq_1 aix.eq_2 aix.eq_3 aix.eq_4 aix.eq_5 aix.eq_6 aix.eq_7 aix.eq_8 aix.eq_9 aix.eq_10 al3.eq_1 al3.eq_2 yI.eq_1 yI.eq_2 ayO.eq_1 ayO.eq_2 ayL.eq_1 aoj.eq_1 aoj.eq_2 aoj.eq_3 aoj.eq_4 aoj.eq_5 aoj.eq_6 aoj.eq_7 aoj.eq_8 aoj.eq_9 abu.eq_1 abu.eq_2 aaO.eq_1 aaO.eq_2 aeG.eq_1 aeG.eq_2 aeG.eq_3 iZ.eq_1 iZ.eq_2 iZ.eq_3 iZ.eq_4 iZ.eq_5 iZ.eq_6 iZ.eq_7 iZ.eq_8 iZ.eq_9 iZ.eq_10 vu.eq_1 vu.eq_2 xk.eq_1 xk.eq_2 xk.eq_3 amQ.eq_1 amQ.eq_2 amQ.eq_3 amQ.eq_4 amQ.eq_5 amQ.eq_6 amQ.eq_7 amQ.eq_8 amQ.eq_9 aiw.eq_1 aiw.eq_2 an7.eq_1 an7.eq_2 an7.eq_3 an7.eq_4 an7.eq_5 an7.eq_6 an7.eq_7 an7.eq_8 an7.eq_9 aq4.eq_1 aq4.eq_2 acg fdO.eq_1 fdO.eq_2 fTD.eq_1 ata.eq_1 ata.eq_2 au0 azi aw4.eq_1 aw4.eq_2 ali.eq_1 ali.eq_2 au3.eq_1 au3.eq_2 an2.eq_1 an2.eq_2 vB.eq_1 vB.eq_2 at2 asE.eq_1 asE.eq_2 afr.eq_1 afr.eq_2 asa slV.eq_1 axx.eq_1 arR.eq_1 arR.eq_2 arR.eq_3 axW akw.eq_1 akw.eq_2 auF.eq_1 auF.eq_2 xZ.eq_1 xZ.eq_2 xZ.eq_3 aqy.eq_1 aqy.eq_2 aqy.eq_3 ayJ.eq_1 awM.eq_1 ayG.eq_1 atr.eq_1 atr.eq_2 awy amN ajS.eq_1 ajS.eq_2 aee.eq_1 aee.eq_2 amP.eq_1 amP.eq_2 amP.eq_3 amP.eq_4 aof.eq_1 aof.eq_2 aof.eq_3 aof.eq_4 aof.eq_5 aof.eq_6 aof.eq_7 aeu.eq_1 aeu.eq_2 aeu.eq_3 ajl.eq_1 ajl.eq_2 ajl.eq_3 ajl.eq_4 ajl.eq_5 ajl.eq_6 ajl.eq_7 ajl.eq_8 ajl.eq_9 ajl.eq_10 asR.eq_1 asR.eq_2 lkK.eq_1 ayH.eq_1 asd.eq_1 asd.eq_2 muD.eq_1 muD.eq_2 muD.eq_3 muD.eq_4 muD.eq_5 muD.eq_6 muD.eq_7 muD.eq_8 muD.eq_9 muD.eq_10 muK.eq_1 av6.eq_1 alD.eq_1 alD.eq_2 alO.eq_1 alO.eq_2 bxO.eq_1 bxO.eq_2 azg.eq_1 azg.eq_2 nK.eq_1 nK.eq_2 nK.eq_3 bdO.eq_1 bdO.eq_2 alJ.eq_1 alJ.eq_2 aeJ.eq_1 aeJ.eq_2 wu.eq_1 wu.eq_2 alK.eq_1 alK.eq_2 ae6.eq_1 ae6.eq_2 asg.eq_1 asg.eq_2 azB.eq_1 au5.eq_1 au5.eq_2 ay4.eq_1 arh.eq_1 arh.eq_2 arh.eq_3 alr.eq_1 alr.eq_2 aeD.eq_1 aeD.eq_2 ac0.eq_1 ac0.eq_2 am5.eq_1 am5.eq_2 am5.eq_3 asl ahw.eq_1 ahw.eq_2 ahw.eq_3 ayP.eq_1 ayP.eq_2 aqN.eq_1 aqN.eq_2 aeQ.eq_1 aeQ.eq_2 aeQ.eq_3 aeQ.eq_4 aeQ.eq_5 aeQ.eq_6 aeQ.eq_7 aeQ.eq_8 aeQ.eq_9 aeQ.eq_10 mnO.eq_1 mnO.eq_2 mnO.eq_3 ak1.eq_1 ak1.eq_2 aeL.eq_1 aeL.eq_2
attribute [go_sem] iA.eq_1 iA.eq_2 wt.eq_1 tD.eq_1 tD.eq_2 ae3.eq_1 aj2.eq_1 wy.eq_1 aaZ eT.eq_1 St.opv.eq_1 St.opv.eq_2 St.opv.eq_3 St.get aqW amX apt
 asF ahS apR aqa apu ajc wI apM abm aaQ tC aj8 yp ao5 aaa aki ajK anK
 St.effs.eq_1 St.effs.eq_2 St.setRoot.eq_1 St.setRoot.eq_2 cU.eq_1 cU.eq_2 lit.eq_1 lit.eq_2 lit.eq_3 lit.eq_4 lit.eq_5 lit.eq_6 lit.eq_7 ret kg.eq_1 ajo.eq_1 ajo.eq_2 unD.eq_1 unD.eq_2 unD.eq_3 aa3 uT
 ani.eq_1 ani.eq_2 SV.fits CV.fits SV.rooted dt entry Option.map_some List.getElem?_map eq_self Bool.false_eq_true List.length_map oB
 and_self true_and and_true false_and and_false or_self or_false false_or or_true true_or not_true not_false_eq_true if_true if_false fF dU ao.cells List.length_cons List.length_nil List.take_succ_cons List.take_zero List.drop_zero
variable {C:Ctx} {s:St} {x:Operand}
theorem aww {R:cR} (k:Nat) {ops:Array Oper} {K:St→Prop} {l:List Oper} {s s':St} {o:Oper} {os:List Oper} (hl:l.drop k=o::os) (h:iA C.P ops (l.take k) s=some s') (hk:wpOps C R ops (o::os) K s'):wpOps C R ops l K s:=
 ap0 k h (hl ▸ hk)
theorem anF {R:cR} {ops:Array Oper} {K:St→Prop} {l:List Oper} {s':St} (h:iA C.P ops l s=some s') (hk:K s'):wpOps C R ops l K s:=aeb h hk
theorem azt {R:cR} {m:Nat} {Q:Ex→St→Prop} {id:Nat} {ops:Array Oper} {l:List Oper} (hl:ops.toList=l) (h:wpOps C R ops l (Q .normal) s):aR C R m (.region id ops false) Q s:=⟨s,.refl s,hl ▸ h⟩
def akA:Option (ao×List Eff)→Option (SV×List Eff)
 | some (d,es)=>some (.cv (.val d),es)
 | none=>none
def avu (r:ec):Option (TypeId×List ao)→Option (SV×List Eff)
 | some (k,xs)=>some (.cv (.row k xs),[.kill r])
 | none=>none
def lP (s:St) (x:Operand):SV→Option (SV×List Eff)
 | .cv .nil=>some (.cv .nil,[])
 | .cv (.row k xs)=>some (.cv (.row k xs),[.kill (.slot (kg x))])
 | .alias r=>avu r (s.rowAt r)
 | .cv (.val _)=>none
 | .cv .dead=>none
 | .imm _=>none
 | .elt _ _ _=>none
 | .bld _=>none
 | .tup _=>none
 | .undef=>none
theorem afS:argOf s .data x=akA (s.asVal x):=by
 simp only[argOf]
 cases s.asVal x <;> rfl
theorem aiM:argOf s .move x=lP s x (s.opv x):=by
 simp only[argOf]
 cases s.opv x with
 | cv c=>cases c <;> rfl
 | alias r=>simp only[lP];cases s.rowAt r <;> rfl
 | _=>rfl
def an6 (a:SV) (es:List Eff):Option (List SV×List Eff)→Option (List SV×List Eff)
 | some (as,es')=>some (a::as,es++es')
 | none=>none
def afq (C:Ctx) (f:FuncId) (s:St) (i:Nat) (xs:List Operand):Option (SV×List Eff)→Option (List SV×List Eff)
 | some (a,es)=>an6 a es (gV C f (s.effs es) (i+1) xs)
 | none=>none
theorem ai7 {f:FuncId} {i:Nat}:gV C f s i []=some ([],[]):=rfl
theorem acu {f:FuncId} {i:Nat} {xs:List Operand}:gV C f s i (x::xs)=afq C f s i xs (argOf s (C.how f i) x):=by
 simp only[gV]
 cases argOf s (C.how f i) x with
 | none=>rfl
 | some a=>simp only[oB,afq];cases gV C f (s.effs a.2) (i+1) xs <;> rfl
def fnD:ao→Option (FuncId×List ao×List ao)
 | .fn f a b=>some (f,a,b)
 | .map _=>none
 | .agg _=>none
 | .ptr _=>none
 | .int _ _=>none
 | .bool _=>none
 | .str _=>none
 | .sl _=>none
 | .nilfn=>none
def amD:SV→Option (FuncId×List ao×List ao)
 | .cv (.val d)=>fnD d
 | .cv .nil=>none
 | .cv (.row _ _)=>none
 | .cv .dead=>none
 | .alias _=>none
 | .imm _=>none
 | .elt _ _ _=>none
 | .bld _=>none
 | .tup _=>none
 | .undef=>none
theorem aah {g:FuncId}:callee s (.func g)=some (g,[],[]):=rfl
theorem aik {t:Nat}:callee s (.tmp t)=amD (s.get t):=by
 simp only[callee,St.opv]
 cases s.get t with
 | cv c=>
  cases c with
  | val d=>cases d <;> rfl
  | _=>rfl
 | _=>rfl
theorem ag9 {sl:List (Nat×SV)} {i:Nat} {v:SV}:cU SV.uncell ((i,v)::sl)=(i,v.uncell)::cU SV.uncell sl:=rfl
theorem amh {c:CV}:SV.uncell (.cv c)= .cv c:=rfl
theorem zM:SV.uncell .undef= .undef:=rfl
theorem ahC {cs:List ao}:SV.uncell (.imm cs)= .imm cs:=rfl
theorem aic {cs:List CV}:SV.uncell (.bld cs)= .bld cs:=rfl
theorem aii {ds:List ao}:SV.uncell (.tup ds)= .tup ds:=rfl
theorem acY {i:Nat}:SV.uncell (.alias (.slot i))= .alias (.slot i):=rfl
theorem adH {l i:Nat}:SV.uncell (.alias (.cell l i))= .cv .dead:=rfl
theorem zF {i j o:Nat}:SV.uncell (.elt (.slot i) j o)= .elt (.slot i) j o:=rfl
theorem zg {l i j o:Nat}:SV.uncell (.elt (.cell l i) j o)= .cv .dead:=rfl
attribute [go_sem] afS aiM ai7 acu aah aik ag9 amh zM ahC aic aii acY adH zF zg
attribute [go_sem] akA.eq_1 akA.eq_2 avu.eq_1 avu.eq_2 lP.eq_1 lP.eq_2 lP.eq_3 lP.eq_4 lP.eq_5 lP.eq_6 lP.eq_7 lP.eq_8 lP.eq_9 lP.eq_10 an6.eq_1 an6.eq_2 afq.eq_1 afq.eq_2 fnD.eq_1 fnD.eq_2 fnD.eq_3 fnD.eq_4 fnD.eq_5 fnD.eq_6 fnD.eq_7 fnD.eq_8 fnD.eq_9 amD.eq_1 amD.eq_2 amD.eq_3 amD.eq_4 amD.eq_5 amD.eq_6 amD.eq_7 amD.eq_8 amD.eq_9 amD.eq_10 packed.eq_1 packed.eq_2 xc.eq_1 xc.eq_2 jc List.map_cons List.map_nil List.nil_append List.cons_append List.append_nil List.append_assoc
variable {C:Ctx} {R:cR} {ops:Array Oper} {tab:List (Nat×Nat)}
def te (s:St) (d:Option Nat):Option Out→Option St
 | some (v,[])=>some (s.put d v)
 | some (_,_::_)=>none
 | none=>none
def adE (P:Program) (s:St) (o:Oper):Option Bool→Option St
 | some true=>te s o.dst (aop P s o)
 | some false=>some (s.put o.dst .undef)
 | none=>none
def aer (P:Program) (ops:Array Oper) (s:St):Option Oper→Option St
 | some o=>if pass o=true then adE P s o (guardOf ops s o)else none
 | none=>none
mutual
def lc (P:Program) (ops:Array Oper):List Nat→St→Option St
 | [],s=>some s
 | i::l,s=>rf P ops l (aer P ops s ops[i]?)
def rf (P:Program) (ops:Array Oper):List Nat→Option St→Option St
 | l,some s=>lc P ops l s
 | _,none=>none
end
theorem xp {P:Program} {i:Nat} {l:List Nat} {s s':St} (h:lc P ops (i::l) s=some s'):∃ o s1,ops[i]? =some o∧pass o=true∧adE P s o (guardOf ops s o)=some s1∧lc P ops l s1=some s':=by
 rw[lc]at h
 cases he:aer P ops s ops[i]? with
 | none=>rw[he,rf]at h;cases h
 | some s1=>
  rw[he,rf]at h
  cases ho:ops[i]? with
  | none=>rw[ho]at he;cases he
  | some o=>
   rw[ho]at he
   simp only[aer]at he
   split at he
   ·rename_i hp;exact ⟨o,s1,rfl,hp,he,h⟩
   ·cases he
theorem zJ {K:St→Prop}:∀ {l rest pend:List Nat} {s s':St},lc C.P ops l s=some s'→cN C R ops tab (l.reverse++pend) rest K s'→cN C R ops tab pend (l++rest) K s
 | [],rest,pend,s,s',h,hk=>by rw[lc]at h;cases h;simpa using hk
 | i::l,rest,pend,s,s',h,hk=>by
  obtain ⟨o,s1,ho,hp,hg,h1⟩:=xp h
  have ih:=zJ (rest:=rest) (pend:=i::pend) h1 (by simpa[List.reverse_cons,List.append_assoc]using hk)
  simp only[List.cons_append,cN]
  refine ⟨o,ho,?_⟩
  simp only[hp]
  cases hb:guardOf ops s o with
  | none=>rw[hb]at hg;simp[adE]at hg
  | some b=>
   rw[hb]at hg
   refine ⟨b,rfl,fun e=>?_,fun e=>?_⟩
   ·subst e
    simp only[adE]at hg
    cases ha:aop C.P s o with
    | none=>rw[ha]at hg;simp[te]at hg
    | some r=>
     obtain ⟨v,es⟩:=r
     rw[ha]at hg
     cases es with
     | nil=>simp only[te,sJ]at hg;subst hg;exact ⟨v,rfl,ih⟩
     | cons _ _=>simp[te]at hg
   ·subst e
    simp only[adE,sJ]at hg
    subst hg;exact ih
theorem cW {m:Nat} {Q:Ex→St→Prop} {s:St} {id:Nat} (plan:List Nat) (hp:rW ops plan=true) (h:cN C R ops (dA ops plan []) [] plan (Q .normal) s):aR C R m (.region id ops true) Q s:=⟨s,plan,.refl s,.inl ⟨hp,h⟩⟩
theorem ay1 {m:Nat} {Q:Ex→St→Prop} {s:St} {id:Nat} (A:List Nat) (x y:Nat) (B:List Nat) (ht:vx ops A x y B=true) (h1:cN C R ops (dA ops (A++x::y::B) []) [] (A++x::y::B) (Q .normal) s) (h2:cN C R ops (dA ops (A++y::x::B) []) [] (A++y::x::B) (Q .normal) s):aR C R m (.region id ops true) Q s:=⟨s,A++x::y::B,.refl s,.inr ⟨A,x,y,B,rfl,ht,h1,h2⟩⟩
theorem akM {P:Program} {op:BinOp} {t:TypeId} {a b:Bool}:ajo P op t (.bool a) (.bool b)=iH P op t (.bool a) (.bool b):=rfl
theorem aoG {P:Program} {op:BinOp} {t:TypeId} {a b:Option (Nat×Nat)}:ajo P op t (.ptr a) (.ptr b)=iH P op t (.ptr a) (.ptr b):=rfl
theorem apa {P:Program} {op:BinOp} {t:TypeId} {a b:List ao}:ajo P op t (.agg a) (.agg b)=iH P op t (.agg a) (.agg b):=rfl
theorem anS {a b:ByteArray}:(a.toList==b.toList)=decide (a=b):=by
 rw[← beq_toListBytes]
 cases h:a==b with
 | true=>have:=awj h;subst this;simp
 | false=>
  have:a≠b:=fun e=>by subst e;rw[anO]at h;cases h
  simp[this]
attribute [go_sem] aes qZ akM aoG apa
def ax.on (h:ax) (os:List (Option bI)):ax:=⟨h.n+os.length,fun i=>if i < h.n then h.at_ i else (os[i - h.n]?).join⟩
theorem ax.ext {h h':ax} (hn:h.n=h'.n) (ha:∀ i,h.at_ i=h'.at_ i):h=h':=by
 cases h;cases h';simp only at hn ha;subst hn;simp only[ax.mk.injEq,true_and];exact funext ha
theorem aK {h:ax} (hwf:h.WF):h.on []=h:=by
 refine ax.ext rfl fun i=>?_
 simp only[ax.on]
 split
 ·rfl
 ·cases hi:h.at_ i with
  | none=>rfl
  | some o=>exact absurd (hwf i o hi).1 (by assumption)
theorem axA {h:ax} {os:List (Option bI)} {o:bI}:(h.on os).new o=h.on (os++[some o]):=by
 refine ax.ext (by simp[ax.on,ax.new,Nat.add_assoc]) fun i=>?_
 show (if i=h.n+os.length then some o else (if i < h.n then h.at_ i else (os[i - h.n]?).join))=(if i < h.n then h.at_ i else ((os++[some o])[i - h.n]?).join)
 by_cases h1:i < h.n
 ·rw[if_neg (by omega),if_pos h1,if_pos h1]
 ·by_cases h2:i=h.n+os.length
  ·subst h2;rw[if_pos rfl,if_neg h1];simp
  ·rw[if_neg h2,if_neg h1,if_neg h1]
   by_cases h3:i - h.n < os.length
   ·rw[List.getElem?_append_left h3]
   ·rw[gN (by omega),gN (by simp;omega)]
theorem acL {h:ax} {os os':List (Option bI)}:(h.on os).on os'=h.on (os++os'):=by
 refine ax.ext (by simp[ax.on,Nat.add_assoc]) fun i=>?_
 show (if i < h.n+os.length then (if i < h.n then h.at_ i else (os[i - h.n]?).join)else (os'[i - (h.n+os.length)]?).join)=(if i < h.n then h.at_ i else ((os++os')[i - h.n]?).join)
 by_cases h1:i < h.n
 ·rw[if_pos (by omega),if_pos h1,if_pos h1]
 ·by_cases h2:i < h.n+os.length
  ·rw[if_pos h2,if_neg h1,if_neg h1,List.getElem?_append_left (by omega)]
  ·rw[if_neg h2,if_neg h1,List.getElem?_append_right (by omega)]
   congr 2;omega
theorem apN {h:ax} {os:List (Option bI)} {k:Nat}:(h.on os).at_ (h.n+k)=(os[k]?).join:=by
 simp only[ax.on];rw[if_neg (by omega)];congr 2;omega
theorem ez {h:ax} {os:List (Option bI)} {l:Nat} (hl:l < h.n):(h.on os).at_ l=h.at_ l:=by simp only[ax.on];rw[if_pos hl]
theorem iB {h:ax} {os:List (Option bI)} {k:Nat} {o:bI} (hk:k < os.length):(h.on os).upd (h.n+k) o=h.on (os.set k (some o)):=by
 refine ax.ext (by simp[ax.on,ax.upd]) fun i=>?_
 show (if i=h.n+k then some o else (if i < h.n then h.at_ i else (os[i - h.n]?).join))=(if i < h.n then h.at_ i else ((os.set k (some o))[i - h.n]?).join)
 by_cases h1:i < h.n
 ·rw[if_neg (by omega),if_pos h1,if_pos h1]
 ·rw[if_neg h1,if_neg h1,List.getElem?_set]
  by_cases h2:i=h.n+k
  ·subst h2;rw[if_pos rfl,if_pos (by omega),if_pos (by omega)];rfl
  ·rw[if_neg h2,if_neg (by omega)]
theorem vi {h:ax} {a:Option bI} {os:List (Option bI)} {o:bI}:(h.on (a::os)).upd (h.n+0) o=h.on (some o::os):=iB (by simp)
theorem wo {h:ax} {a b:Option bI} {os:List (Option bI)} {o:bI}:(h.on (a::b::os)).upd (h.n+1) o=h.on (a::some o::os):=iB (by simp)
theorem vy {h:ax} {a b c:Option bI} {os:List (Option bI)} {o:bI}:(h.on (a::b::c::os)).upd (h.n+2) o=h.on (a::b::some o::os):=iB (by simp)
theorem vh {h:ax} {a b c d:Option bI} {os:List (Option bI)} {o:bI}:(h.on (a::b::c::d::os)).upd (h.n+3) o=h.on (a::b::c::some o::os):=iB (by simp)
theorem wm {h:ax} {a b c d e:Option bI} {os:List (Option bI)} {o:bI}:(h.on (a::b::c::d::e::os)).upd (h.n+4) o=h.on (a::b::c::d::some o::os):=iB (by simp)
theorem ww {h:ax} {a b c d e f:Option bI} {os:List (Option bI)} {o:bI}:(h.on (a::b::c::d::e::f::os)).upd (h.n+5) o=h.on (a::b::c::d::e::some o::os):=iB (by simp)
theorem vw {h:ax} {a b c d e f g:Option bI} {os:List (Option bI)} {o:bI}:(h.on (a::b::c::d::e::f::g::os)).upd (h.n+6) o=h.on (a::b::c::d::e::f::some o::os):=iB (by simp)
theorem vF {h:ax} {a b c d e f g z:Option bI} {os:List (Option bI)} {o:bI}:(h.on (a::b::c::d::e::f::g::z::os)).upd (h.n+7) o=h.on (a::b::c::d::e::f::g::some o::os):=iB (by simp)
theorem fJ {h:ax} {os:List (Option bI)} {l:Nat} {o:bI} (hl:l < h.n):(h.on os).upd l o=(h.upd l o).on os:=by
 refine ax.ext rfl fun i=>?_
 show (if i=l then some o else (if i < h.n then h.at_ i else (os[i - h.n]?).join))=(if i < h.n then (if i=l then some o else h.at_ i)else (os[i - h.n]?).join)
 by_cases h1:i=l
 ·subst h1;rw[if_pos rfl,if_pos hl,if_pos rfl]
 ·rw[if_neg h1]
  by_cases h2:i < h.n
  ·rw[if_pos h2,if_pos h2,if_neg h1]
  ·rw[if_neg h2,if_neg h2]
theorem azH {h:ax} {l:Nat} {o:bI}:(h.upd l o).n=h.n:=rfl
theorem awk {h:ax} {l:Nat} {o:bI}:(h.upd l o).at_ l=some o:=by simp[ax.upd]
theorem qE {h:ax} {l l':Nat} {o:bI} (hne:l'≠l):(h.upd l o).at_ l'=h.at_ l':=by simp[ax.upd,hne]
theorem asy {h:ax} {l:Nat} {o o':bI}:(h.upd l o).upd l o'=h.upd l o':=ax.ext rfl fun i=>by simp only[ax.upd];split <;> rfl
theorem eM {h:ax} {l:Nat} {o:bI} (ha:h.at_ l=some o):h.upd l o=h:=ax.ext rfl fun i=>by
 simp only[ax.upd];split
 ·rename_i e;rw[e,ha]
 ·rfl
theorem WF.upd {h:ax} {l:Nat} {o:bI} (hwf:h.WF) (hl:l < h.n) (ho:o.under h.n):(h.upd l o).WF:=fun i o' hi=>by
 simp only[ax.upd]at hi
 split at hi
 ·rename_i e;cases hi;subst e;exact ⟨hl,ho⟩
 ·exact hwf i o' hi
theorem azl {h:ax}:(h.on []).n=h.n+0:=rfl
theorem ay7 {h:ax} {a:Option bI}:(h.on [a]).n=h.n+1:=rfl
theorem azO {h:ax} {a b:Option bI}:(h.on [a,b]).n=h.n+2:=rfl
theorem azf {h:ax} {a b c:Option bI}:(h.on [a,b,c]).n=h.n+3:=rfl
theorem ayX {h:ax} {a b c d:Option bI}:(h.on [a,b,c,d]).n=h.n+4:=rfl
theorem azy {h:ax} {a b c d e:Option bI}:(h.on [a,b,c,d,e]).n=h.n+5:=rfl
theorem azA {h:ax} {a b c d e f:Option bI}:(h.on [a,b,c,d,e,f]).n=h.n+6:=rfl
theorem azE {h:ax} {a b c d e f g:Option bI}:(h.on [a,b,c,d,e,f,g]).n=h.n+7:=rfl
theorem azo {h:ax} {a b c d e f g z:Option bI}:(h.on [a,b,c,d,e,f,g,z]).n=h.n+8:=rfl
theorem join_some {o:bI}:Option.join (some (some o))=some o:=rfl
def wS (N:Nat):List (Option bI)→List (Option bI)→Prop
 | _,[]=>True
 | _::os,none::os'=>wS N os os'
 | some o::os,some o'::os'=>o.fits o'∧o'.under N∧wS N os os'
 | _,_=>False
theorem apE {N:Nat} {os:List (Option bI)}:wS N os []=True:=by cases os <;> rfl
def jo (H H':ax):SV→Prop
 | .alias (.cell l i)=>H'.cell l i=H.cell l i
 | .elt (.cell l i) _ _=>H'.cell l i=H.cell l i
 | _=>True
def auY (s:St) (H:ax) (N:Nat) (sl0:List (Nat×SV)):List (Nat×SV)→Prop
 | []=>True
 | (i,v)::sl=>((s.get i).fits v∧v.rooted ⟨sl0,H⟩∧v.under N∧jo s.box H v)∧auY s H N sl0 sl
theorem vm {s:St} {H:ax} {N:Nat} {sl0:List (Nat×SV)}:∀ {sl:List (Nat×SV)},auY s H N sl0 sl→∀ p∈sl,(s.get p.1).fits p.2∧p.2.rooted ⟨sl0,H⟩∧p.2.under N∧jo s.box H p.2
 | [],_,p,hp=>by cases hp
 | (i,v)::sl,hw,p,hp=>by
  rcases List.mem_cons.1 hp with rfl | hp
  ·exact hw.1
  ·exact vm hw.2 p hp
theorem sN {n n':Nat} (hn:n≤n'):∀ {xs:List ao},bG n xs→bG n' xs:=by
 have key:∀ (d:ao),d.under n→d.under n':=by
  intro d
  apply ao.rec (motive_1:=fun d=>d.under n→d.under n') (motive_2:=fun ds=>bG n ds→bG n' ds)
  ·intros;trivial
  ·intros;trivial
  ·intros;trivial
  ·intro xs ih h;exact ih h
  ·intro xs ih h;exact ih h
  ·intro a h;cases a with
   | none=>trivial
   | some a=>exact Nat.lt_of_lt_of_le h hn
  ·intro a h;cases a with
   | none=>trivial
   | some a=>exact Nat.lt_of_lt_of_le h hn
  ·intro f a b iha ihb h;exact ⟨iha h.1,ihb h.2⟩
  ·intros;trivial
  ·intros;trivial
  ·intro d ds ihd ihds h;exact ⟨ihd h.1,ihds h.2⟩
 intro xs
 induction xs with
 | nil=>intro h;trivial
 | cons x xs ih=>intro h;exact ⟨key x h.1,ih h.2⟩
theorem vz {n n':Nat} (hn:n≤n') {d:ao} (h:d.under n):d.under n':=(sN hn (xs:=[d]) ⟨h,trivial⟩).1
theorem akO {n n':Nat} (hn:n≤n') {c:CV} (h:c.under n):c.under n':=by
 cases c with
 | val d=>exact vz hn h
 | row k xs=>exact sN hn h
 | _=>trivial
theorem wU {n n':Nat} (hn:n≤n') {o:bI} (h:o.under n):o.under n':=by
 cases o with
 | cells cs=>
  have:∀ {cs:List CV},ft n cs→ft n' cs:=by
   intro cs
   induction cs with
   | nil=>intro _;trivial
   | cons c cs ih=>intro h;exact ⟨akO hn h.1,ih h.2⟩
  exact this h
 | map kt es=>
  have:∀ {es:List (ao×ao)},jX n es→jX n' es:=by
   intro es
   induction es with
   | nil=>intro _;trivial
   | cons c cs ih=>intro h;exact ⟨⟨vz hn h.1.1,vz hn h.1.2⟩,ih h.2⟩
  exact this h
theorem uz (o:bI):o.fits o:=by
 cases o with
 | cells cs=>
  show CV.fitsL cs cs
  induction cs with
  | nil=>trivial
  | cons c cs ih=>exact ⟨by cases c with
   | val d=>cases d <;> rfl
   | _=>first | rfl | trivial,ih⟩
 | map kt es=>rfl
theorem ri {N:Nat}:∀ {os os':List (Option bI)},wS N os os'→∀ (k:Nat) (o':bI),os'[k]? =some (some o')→∃ o,os[k]? =some (some o)∧o.fits o'∧o'.under N
 | _,[],_,k,o',h=>by simp at h
 | _::os,none::os',hc,k,o',h=>by
  cases k with
  | zero=>simp at h
  | succ k=>simpa using ri (os:=os) (os':=os') hc k o' (by simpa using h)
 | some o::os,some p::os',hc,k,o',h=>by
  cases k with
  | zero=>simp at h;subst h;exact ⟨o,rfl,hc.1,hc.2.1⟩
  | succ k=>simpa using ri (os:=os) (os':=os') hc.2.2 k o' (by simpa using h)
 | [],none::_,hc,_,_,_=>by simp[wS]at hc
 | [],some _::_,hc,_,_,_=>by simp[wS]at hc
 | none::_,some _::_,hc,_,_,_=>by simp[wS]at hc
theorem rq {N:Nat}:∀ {os os':List (Option bI)},wS N os os'→os'.length≤os.length
 | _,[],_=>by simp
 | _::os,none::os',hc=>by simpa using rq (os:=os) (os':=os') hc
 | some o::os,some p::os',hc=>by simpa using rq (os:=os) (os':=os') hc.2.2
 | [],none::_,hc=>by simp[wS]at hc
 | [],some _::_,hc=>by simp[wS]at hc
 | none::_,some _::_,hc=>by simp[wS]at hc
theorem To.cut {m:Nat} {s:St} {h:ax} {os os':List (Option bI)} {sl:List (Nat×SV)} (hwf:h.WF) (hm:m≤h.n) (hb:s.box=h.on os)
  (hc:wS (h.on os').n os os'∧auY s (h.on os') (h.on os').n sl sl):St.To m s ⟨sl,h.on os'⟩:=by
 refine .shrink s _ _ ⟨?_,?_,fun l o' ho'=>?_,fun p hp=>?_,fun p hp=>?_⟩ (.refl _)
 ·show m≤h.n+os'.length;omega
 ·rw[hb];show h.n+os'.length≤h.n+os.length
  have:=rq hc.1;omega
 ·rw[hb]
  simp only[ax.on]at ho' ⊢
  by_cases h1:l < h.n
  ·rw[if_pos h1]at ho' ⊢
   have:=hwf l o' ho'
   exact ⟨by omega,wU (by omega) this.2,o',ho',uz o'⟩
  ·rw[if_neg h1]at ho' ⊢
   cases hj:os'[l - h.n]? with
   | none=>rw[hj]at ho';simp at ho'
   | some x=>
    rw[hj]at ho'
    simp only[Option.join_some]at ho'
    subst ho'
    obtain ⟨o,g1,g2,g3⟩:=ri hc.1 _ _ hj
    have:l - h.n < os'.length:=(List.getElem?_eq_some_iff.1 hj).1
    exact ⟨by omega,g3,o,by rw[g1];rfl,g2⟩
 ·have:=vm hc.2 p hp
  exact ⟨this.1,this.2.1,this.2.2.1⟩
 ·have:=(vm hc.2 p hp).2.2.2
  unfold jo at this
  split at this <;> simp_all
class Enc {α:Type} (e:α→ao) (k:outParam Nat):Prop where
 cells:∀ x,(e x).cells.length=k
 under:∀ n x,(e x).under n
theorem anb {α:Type} {e:α→ao} {k:Nat} [Enc e k] {xs:List α}:dD k (xs.map e)=true:=by
 simp only[dD,List.all_map,List.all_eq_true]
 intro x _
 simp[Enc.cells]
theorem dx {α:Type} {e:α→ao} {k n:Nat} [Enc e k] {xs:List α}:bG n (xs.map e)=True:=by
 refine eq_true ?_
 induction xs with
 | nil=>trivial
 | cons x xs ih=>exact ⟨Enc.under n x,ih⟩
theorem uL {α β:Type} {e:α→ao} {d:β→ao} {k k' n:Nat} [Enc e k] [Enc d k'] {xs:List (α×β)}:jX n (xs.map fun p=>(e p.1,d p.2))=True:=by
 refine eq_true ?_
 induction xs with
 | nil=>trivial
 | cons x xs ih=>exact ⟨⟨Enc.under n x.1,Enc.under n x.2⟩,ih⟩
abbrev Str:=List UInt8
def bs (s:Str):ByteArray:=⟨s.toArray⟩
def eI (n:Int):ao:=.int .i64 n
def eB (b:Bool):ao:=.bool b
def eU (b:UInt8):ao:=.int .u8 b.toNat
def eS (s:Str):ao:=.str (bs s)
def eL {α:Type} (e:α→ao) (xs:List α):ao:=.sl (xs.map e)
instance:Enc eI 1:=⟨fun _=>rfl,fun _ _=>trivial⟩
instance:Enc eB 1:=⟨fun _=>rfl,fun _ _=>trivial⟩
instance:Enc eU 1:=⟨fun _=>rfl,fun _ _=>trivial⟩
instance:Enc eS 1:=⟨fun _=>rfl,fun _ _=>trivial⟩
instance {α:Type} {e:α→ao} {k:Nat} [Enc e k]:Enc (eL e) 1:=⟨fun _=>rfl,fun n x=>by
 show bG n (x.map e)
 rw[dx];trivial⟩
theorem azK {l:List UInt8}:ByteArray.mk l.toArray=bs l:=rfl
theorem ass {s:Str}:(bs s).size=s.length:=by simp[bs,ByteArray.size]
theorem akL {s:Str}:(bs s).data.toList=s:=by simp[bs]
theorem aw9 {s t:Str}:bs s++bs t=bs (s++t):=by
 apply ByteArray.ext;simp[bs,ByteArray.data_append]
theorem aru {s t:Str}:(bs s=bs t)=(s=t):=by
 apply propext;constructor
 ·intro h;have:=congrArg (fun b=>b.data.toList) h;simpa[bs]using this
 ·intro h;rw[h]
theorem axG {s:Str} {l h:Nat}:(bs s).extract l h=bs ((s.take h).drop l):=by
 apply ByteArray.ext
 simp only[bs,ByteArray.data_extract]
 apply Array.ext'
 simp[List.drop_take]
theorem al6 {s:Str}:(bs s).toList=s:=by
 rw[ByteArray.toList_eq,akL]
def idx {α:Type} (xs:List α) (i:Int):Option α:=if i < 0 then none else xs[i.toNat]?
theorem Holds.idx {α β:Type} {xs:List α} {i:Int} {k:α→Option β} {D:β→Prop} (h:Holds ((idx xs i).bind k) D):∃ x,(i < 0)=False∧xs[i.toNat]? =some x∧(i.toNat < xs.length)=True∧Holds (k x) D:=by
 obtain ⟨x,h1,h2⟩:=h.bind
 unfold Val.idx at h1
 split at h1
 ·cases h1
 ·rename_i hn
  exact ⟨x,eq_false hn,h1,eq_true (List.getElem?_eq_some_iff.1 h1).1,h2⟩
def cut {α:Type} (xs:List α) (lo hi:Int):Option (List α):=if 0≤hi∧hi≤(xs.length:Int)∧0≤lo∧lo≤(hi.toNat:Int)then some ((xs.take hi.toNat).drop lo.toNat)else none
def cutL {α:Type} (xs:List α) (lo:Int):Option (List α):=if 0≤lo∧lo≤(xs.length:Int)then some (xs.drop lo.toNat)else none
def cutH {α:Type} (xs:List α) (hi:Int):Option (List α):=if 0≤hi∧hi≤(xs.length:Int)then some (xs.take hi.toNat)else none
theorem Holds.cut {α β:Type} {xs:List α} {lo hi:Int} {k:List α→Option β} {D:β→Prop} (h:Holds ((cut xs lo hi).bind k) D):
  (0≤hi)=True∧(hi≤(xs.length:Int))=True∧(0≤lo)=True∧(lo≤(hi.toNat:Int))=True∧Holds (k ((xs.take hi.toNat).drop lo.toNat)) D:=by
 unfold Val.cut at h
 split at h
 ·rename_i hc;exact ⟨eq_true hc.1,eq_true hc.2.1,eq_true hc.2.2.1,eq_true hc.2.2.2,h⟩
 ·exact h.elim
theorem Holds.cutL {α β:Type} {xs:List α} {lo:Int} {k:List α→Option β} {D:β→Prop} (h:Holds ((cutL xs lo).bind k) D):
  (0≤lo)=True∧(lo≤(xs.length:Int))=True∧Holds (k (xs.drop lo.toNat)) D:=by
 unfold Val.cutL at h
 split at h
 ·rename_i hc;exact ⟨eq_true hc.1,eq_true hc.2,h⟩
 ·exact h.elim
theorem Holds.cutH {α β:Type} {xs:List α} {hi:Int} {k:List α→Option β} {D:β→Prop} (h:Holds ((cutH xs hi).bind k) D):
  (0≤hi)=True∧(hi≤(xs.length:Int))=True∧Holds (k (xs.take hi.toNat)) D:=by
 unfold Val.cutH at h
 split at h
 ·rename_i hc;exact ⟨eq_true hc.1,eq_true hc.2,h⟩
 ·exact h.elim
def app {α:Type} (sz:Nat) (xs ys:List α):Option (List α):=if (xs.length+ys.length)*sz≤dC then some (xs++ys)else none
theorem Holds.app {α β:Type} {sz:Nat} {xs ys:List α} {k:List α→Option β} {D:β→Prop} (h:Holds ((app sz xs ys).bind k) D):
  ((xs.length+ys.length)*sz≤dC)=True∧Holds (k (xs++ys)) D:=by
 unfold Val.app at h
 split at h
 ·rename_i hc;exact ⟨eq_true hc,h⟩
 ·exact h.elim
def cat (s t:Str):Option Str:=if ((s.length+t.length:Nat):Int) > IntKind.i64.max then none else some (s++t)
theorem Holds.cat {β:Type} {s t:Str} {k:Str→Option β} {D:β→Prop} (h:Holds ((cat s t).bind k) D):
  (((s.length+t.length:Nat):Int) > IntKind.i64.max)=False∧Holds (k (s++t)) D:=by
 unfold Val.cat at h
 split at h
 ·exact h.elim
 ·rename_i hc;exact ⟨eq_false hc,h⟩
def mk {α:Type} (sz:Nat) (z:α) (n:Int):Option (List α):=if 0≤n∧n.toNat*sz≤dC then some (List.replicate n.toNat z)else none
theorem Holds.mk {α β:Type} {sz:Nat} {z:α} {n:Int} {k:List α→Option β} {D:β→Prop} (h:Holds ((mk sz z n).bind k) D):
  (0≤n)=True∧(n.toNat*sz≤dC)=True∧Holds (k (List.replicate n.toNat z)) D:=by
 unfold Val.mk at h
 split at h
 ·rename_i hc;exact ⟨eq_true hc.1,eq_true hc.2,h⟩
 ·exact h.elim
theorem Holds.ite {α:Type} {b:Bool} {A B:Option α} {D:α→Prop} (h:Holds (if b=true then A else B) D):(b=true∧Holds A D)∨(b=false∧Holds B D):=by
 cases b with
 | true=>exact .inl ⟨rfl,h⟩
 | false=>exact .inr ⟨rfl,h⟩
def u8 (n:Int):UInt8:=UInt8.ofNat n.toNat
theorem ajV {n:Int}:((u8 (IntKind.u8.wrap n)).toNat:Int)=IntKind.u8.wrap n:=by
 have h:IntKind.u8.wrap n=n%256:=by simp[IntKind.wrap,IntKind.signed,IntKind.bits]
 rw[h]
 simp only[u8,UInt8.toNat_ofNat']
 omega
section
variable {C:Ctx} {R:cR} {m:Nat} {Q:Ex→St→Prop} {K:St→Prop} {s s1:St}
theorem w_k (h:K s):Ex.then K Q .normal s:=h
theorem w_n (h:K s):Ex.then (fun s=>∃ s1,St.To m s s1∧K s1) Q .normal s:=⟨s,.refl s,h⟩
theorem dG {i:Nat} (h:Q (.exit i) s):Ex.then K Q (.exit i) s:=h
theorem cw (h:Q .ret s):Ex.then K Q .ret s:=h
theorem eY {id:Nat} (h:Q .normal s):Ex.inBlock id Q .normal s:=h
theorem iy {id:Nat} (h:Q .normal s):Ex.inBlock id Q (.exit id) s:=by simp only[Ex.inBlock,if_true];exact h
theorem fQ {id:Nat} (h:Q .ret s):Ex.inBlock id Q .ret s:=h
theorem awf {sj:St} {a b:Code} (ha:aR C R m a (Ex.then (fun s'=>St.To m s' sj) fun _ _=>False) s) (hR:R.Le R) (hk:aR C R m b Q sj):aR C R m (.seq a b) Q s:=
 dP hR a (fun e s h=>by cases e with
  | normal=>exact ⟨sj,h,hk⟩
  | _=>exact h.elim) s ha
theorem cq {sj:St} {a b:Code} (ha:aR C (cp C) m a (Ex.then (fun s'=>St.To m s' sj) fun _ _=>False) s) (hk:aR C (cp C) m b Q sj):aR C (cp C) m (.seq a b) Q s:=awf ha (cR.Le.refl_runs C) hk
theorem yx {f:FuncId} {fn:Func} {P:List SV→ax→Prop} {out:List SV} {h':ax} (ht:St.To m s s1) (hres:results C f s1 fn.results.toList=some (out,h')) (hq:P out h'):atEnd C m f fn P .ret s:=⟨s1,ht,out,h',hres,h',.inl rfl,hq⟩
theorem axq {f:FuncId} {fn:Func} {P:List SV→ax→Prop} {out:List SV} {h':ax} (ht:St.To m s s1) (hres:results C f s1 fn.results.toList=some (out,h')) (hq:P out h'):atEnd C m f fn P .normal s:=⟨s1,ht,out,h',hres,h',.inl rfl,hq⟩
def uG (n:Nat):List SV→Prop
 | []=>True
 | v::vs=>v.under n∧uG n vs
theorem uX {n:Nat}:∀ {vs:List SV},uG n vs→∀ v∈vs,v.under n
 | [],_,v,hv=>by cases hv
 | u::us,h,v,hv=>by
  rcases List.mem_cons.1 hv with rfl | hv
  ·exact h.1
  ·exact uX h.2 v hv
theorem Drops.on {h:ax} {os os':List (Option bI)} {out:List SV} (hwf:h.WF) (hm:m≤h.n) (hc:wS (h.on os').n os os'∧uG (h.on os').n out):ax.Drops m (h.on os) (h.on os') out:=by
 have hlen:=rq hc.1
 refine ⟨by show m≤h.n+os'.length;omega,by show h.n+os'.length≤h.n+os.length;omega,fun l o' ho'=>?_,uX hc.2⟩
 simp only[ax.on]at ho' ⊢
 by_cases h1:l < h.n
 ·rw[if_pos h1]at ho' ⊢
  have:=hwf l o' ho'
  exact ⟨by omega,wU (by omega) this.2,o',ho',uz o'⟩
 ·rw[if_neg h1]at ho' ⊢
  cases hj:os'[l - h.n]? with
  | none=>rw[hj]at ho';simp at ho'
  | some x=>
   rw[hj]at ho'
   simp only[Option.join_some]at ho'
   subst ho'
   obtain ⟨o,g1,g2,g3⟩:=ri hc.1 _ _ hj
   have:l - h.n < os'.length:=(List.getElem?_eq_some_iff.1 hj).1
   exact ⟨by omega,g3,o,by rw[g1];rfl,g2⟩
theorem fq {f:FuncId} {fn:Func} {P:List SV→ax→Prop} {out:List SV} {h' h'':ax} (ht:St.To m s s1) (hres:results C f s1 fn.results.toList=some (out,h')) (hd:ax.Drops m h' h'' out) (hq:P out h''):atEnd C m f fn P .ret s:=⟨s1,ht,out,h',hres,h'',.inr hd,hq⟩
end
theorem de {C:Ctx} {R:cR} {ops:Array Oper} {K:St→Prop} {s:St} (h:K s):wpOps C R ops [] K s:=h
def room (sz n:Nat):Option Unit:=if n*sz≤dC then some ()else none
theorem Holds.room {β:Type} {sz n:Nat} {k:Unit→Option β} {D:β→Prop} (h:Holds ((room sz n).bind k) D):(n*sz≤dC)=True∧Holds (k ()) D:=by
 unfold Val.room at h
 split at h
 ·rename_i hc;exact ⟨eq_true hc,h⟩
 ·exact h.elim
theorem Holds.map {α β:Type} {o:Option α} {f:α→β} {D:β→Prop} (h:Holds (o.map f) D):Holds o fun a=>D (f a):=by
 cases o with
 | none=>exact h.elim
 | some a=>exact h
theorem cp.start {C:Ctx} {f:FuncId} {args:List SV} {h:ax} {Q:List SV→ax→Prop} (fn:Func) (code:Code) (hf:C.P.funcs[f]? =some fn) (hb:fn.body=some code) (hl:args.length≤fn.ntmps) (hin:within fn.ntmps code=true) (hname:(fn.name== "runtime.NumGoroutine")=false)
  (hw:h.WF→(∀ v∈args,v.under h.n)→aR C (cp C) h.n code (atEnd C h.n f fn Q) ⟨entry 0 args,h.on []⟩):cp C f args h Q:=
 cp.intro fn code hf hb hl hin hname fun hwf hu=>by have:=hw hwf hu;rwa[aK hwf]at this
section
variable {C:Ctx} {s:St}
theorem avk {ops:Array Oper} {os:List Oper} {K:St→Prop} {dst:Option Tmp} {ty:TypeId} {pos:String} {after:Array Edge} {f:Operand} {args:Array Operand} {ts:Array TypeId} {gd:Option (Nat×Bool)}
  {g:FuncId} {fs cs:List ao} {as:List SV} {es:List Eff} {s1:St} {out:List SV} {hp:ax} (h0:guardOf ops s ⟨dst,.call ⟨.value f,args,ts⟩,ty,pos,after,gd⟩=some true) (h1:callee s f=some (g,fs,cs)) (h2:gV C g s fs.length args.toList=some (as,es)) (h3:s.effs es=s1)
  (h4:cp C g (jc fs++as++jc cs) s1.box fun o h'=>o=out∧h'=hp) (h5:(packed out).isSome=true) (hk:wpOps C (cp C) ops os K (St.put ⟨cU SV.uncell s1.slots,hp⟩ dst ((packed out).getD .undef))):
  wpOps C (cp C) ops (⟨dst,.call ⟨.value f,args,ts⟩,ty,pos,after,gd⟩::os) K s:=by
 subst h3
 refine ⟨true,h0,fun _=>.inr ⟨g,fs,cs,as,es,h1,h2,fun _=>h4.mono fun o h' ⟨e1,e2⟩=>?_⟩,fun e=>by cases e⟩
 subst e1;subst e2
 cases hpk:packed o with
 | none=>rw[hpk]at h5;cases h5
 | some v=>exact ⟨v,rfl,by rw[hpk]at hk;exact hk⟩
theorem ajs {R:cR} {ops:Array Oper} {os:List Oper} {K:St→Prop} {dst:Option Tmp} {ty:TypeId} {pos:String} {after:Array Edge} {f x:Operand} {xs:List Operand} {args:Array Operand} {ts:Array TypeId} {gd:Option (Nat×Bool)}
  {g:FuncId} {r:ec} {k:Nat} {zs ds ys:List ao} (h0:guardOf ops s ⟨dst,.call ⟨.value f,args,ts⟩,ty,pos,after,gd⟩=some true) (h1:callee s f=some (g,[],[])) (h2:args.toList=x::xs) (h3:rootOf s x=some r) (h4:s.rowAt r=some (k,zs))
  (h5:optVals s xs=some ds) (h6:ds.all ao.one=true) (h7:C.ext g ds k zs=some ys) (hk:wpOps C R ops os K ((s.eff (.setRow r k ys)).put dst .undef)):
  wpOps C R ops (⟨dst,.call ⟨.value f,args,ts⟩,ty,pos,after,gd⟩::os) K s:=
 ⟨true,h0,fun _=>.inl (.inr ⟨g,x,xs,r,k,zs,ds,ys,h1,h2,h3,h4,h5,h6,h7,hk⟩),fun e=>by cases e⟩
theorem azL {R:cR} {ops:Array Oper} {os:List Oper} {K:St→Prop} {o:Oper} (h0:guardOf ops s o=some false) (hk:wpOps C R ops os K (s.put o.dst .undef)):wpOps C R ops (o::os) K s:=
 ⟨false,h0,fun e=>(by cases e),fun _=>hk⟩
end
def ayu (P:Program) (s:St) (o:Oper) (d:Nat):Option Bool→Prop
 | some true=>aop P s o=some (s.get d,[])
 | some false=>s.get d= .undef
 | none=>False
def atV (P:Program) (ops:Array Oper) (s:St) (o:Oper):Option Nat→Prop
 | some d=>ayu P s o d (guardOf ops s o)
 | none=>False
def avc (P:Program) (ops:Array Oper) (s:St):Option Oper→Prop
 | some o=>atV P ops s o o.dst
 | none=>False
def ni (P:Program) (ops:Array Oper) (s:St):List Nat→Prop
 | []=>True
 | p::ps=>avc P ops s ops[p]? ∧ni P ops s ps
theorem ko {P:Program} {ops:Array Oper} {s:St}:∀ {l:List Nat},ni P ops s l→∀ p∈l,pW P ops s p
 | [],_,p,hp=>by cases hp
 | q::qs,h,p,hp=>by
  rcases List.mem_cons.1 hp with rfl | hp
  ·obtain ⟨h1,_⟩:=h
   cases ho:ops[p]? with
   | none=>rw[ho]at h1;exact h1.elim
   | some o=>
    rw[ho]at h1
    simp only[avc]at h1
    cases hd:o.dst with
    | none=>rw[hd]at h1;exact h1.elim
    | some d=>
     rw[hd]at h1
     simp only[atV]at h1
     cases hg:guardOf ops s o with
     | none=>rw[hg]at h1;exact h1.elim
     | some b=>
      rw[hg]at h1
      refine ⟨o,d,ho,hd,b,hg,fun e=>?_,fun e=>?_⟩
      ·subst e;exact h1
      ·subst e;exact h1
  ·exact ko h.2 p hp
section
variable {C:Ctx} {R:cR} {ops:Array Oper} {tab:List (Nat×Nat)} {K:St→Prop} {pend pend' rest:List Nat} {s s':St} {i:Nat}
def am8 (P:Program) (ops:Array Oper) (s:St):Option Oper→Option St
 | some o=>tD P s o (guardOf ops s o)
 | none=>none
theorem awl (hp:ops[i]?.map pass=some false) (hh:ni C.P ops s pend) (h:am8 C.P ops s ops[i]? =some s') (hf:(pend.filter fun p=>!(dN tab i).testBit p)=pend') (hk:cN C R ops tab pend' rest K s'):cN C R ops tab pend (i::rest) K s:=by
 subst hf
 simp only[cN]
 cases ho:ops[i]? with
 | none=>rw[ho]at h;cases h
 | some o=>
  rw[ho]at h hp
  simp only[Option.map_some,sJ]at hp
  refine ⟨o,rfl,?_⟩
  simp only[hp]
  obtain ⟨b,hb,ht,hf⟩:=pC h
  refine ⟨ko hh,b,hb,fun e=>?_,fun e=>?_⟩
  ·obtain ⟨r,hr,e1⟩:=ht e
   subst e1
   exact nH hr hk
  ·have e1:=hf e
   subst e1;exact hk
theorem awa {dst:Option Tmp} {ty:TypeId} {pos:String} {after:Array Edge} {f:Operand} {args:Array Operand} {ts:Array TypeId} {gd:Option (Nat×Bool)}
  {g:FuncId} {fs cs:List ao} {as:List SV} {es:List Eff} {s1:St} {out:List SV} {hp:ax} (ho:ops[i]? =some ⟨dst,.call ⟨.value f,args,ts⟩,ty,pos,after,gd⟩) (hh:ni C.P ops s pend) (h0:guardOf ops s ⟨dst,.call ⟨.value f,args,ts⟩,ty,pos,after,gd⟩=some true)
  (h1:callee s f=some (g,fs,cs)) (h2:gV C g s fs.length args.toList=some (as,es)) (h3:s.effs es=s1) (hf:(pend.filter fun p=>!(dN tab i).testBit p)=pend')
  (h4:cp C g (jc fs++as++jc cs) s1.box fun o h'=>o=out∧h'=hp) (h5:(packed out).isSome=true) (hk:cN C (cp C) ops tab pend' rest K (St.put ⟨cU SV.uncell s1.slots,hp⟩ dst ((packed out).getD .undef))):
  cN C (cp C) ops tab pend (i::rest) K s:=by
 subst h3;subst hf
 simp only[cN]
 refine ⟨_,ho,?_⟩
 simp only[pass]
 refine ⟨ko hh,true,h0,fun _=>.inr ⟨g,fs,cs,as,es,h1,h2,fun _=>h4.mono fun o h' ⟨e1,e2⟩=>?_⟩,fun e=>by cases e⟩
 subst e1;subst e2
 cases hpk:packed o with
 | none=>rw[hpk]at h5;cases h5
 | some v=>exact ⟨v,rfl,by rw[hpk]at hk;exact hk⟩
theorem aqQ (hh:ni C.P ops s pend) (hk:K s):cN C R ops tab pend [] K s:=⟨ko hh,hk⟩
end
def mn (a b:Int):Int:=if b < a then b else a
def mx (a b:Int):Int:=if b > a then b else a
def shL (k:IntKind) (a b:Int):Int:=k.wrap (a*2^(min b.toNat k.bits))
def shR (k:IntKind) (a b:Int):Int:=a.fdiv (2^(min b.toNat k.bits))
def ayI (k:IntKind) (a b:Int):Int:=k.wrap (BitVec.ofInt k.bits a &&& BitVec.ofInt k.bits b).toNat
def bOr (k:IntKind) (a b:Int):Int:=k.wrap (BitVec.ofInt k.bits a ||| BitVec.ofInt k.bits b).toNat
def az7 (k:IntKind) (a b:Int):Int:=k.wrap (BitVec.ofInt k.bits a ^^^ BitVec.ofInt k.bits b).toNat
def az0 (k:IntKind) (a b:Int):Int:=k.wrap (BitVec.ofInt k.bits a &&& ~~~ BitVec.ofInt k.bits b).toNat
def nat (n:Int):Option Int:=if 0≤n then some n else none
theorem Holds.nat {β:Type} {n:Int} {k:Int→Option β} {D:β→Prop} (h:Holds ((nat n).bind k) D):(0≤n)=True∧(n < 0)=False∧Holds (k n) D:=by
 unfold Val.nat at h
 split at h
 ·rename_i hc;exact ⟨eq_true hc,eq_false (by omega),h⟩
 ·exact h.elim
def nh {K V:Type} [DecidableEq K] (k:K):List (K×V)→Option V
 | []=>none
 | (k',v)::es=>if k=k' then some v else nh k es
def iW {K V:Type} [DecidableEq K] (k:K) (v:V):List (K×V)→List (K×V)
 | []=>[(k,v)]
 | (k',v')::es=>if k=k' then (k',v)::es else (k',v')::iW k v es
class Key {K:Type} [DecidableEq K] (e:K→ao):Prop where
 eq:∀ a b,ir (e a) (e b)=decide (a=b)
instance:Key eI:=⟨fun a b=>by
 simp only[ir,eI,decide_true,Bool.true_and]
 by_cases h:a=b
 ·subst h;simp
 ·simp[h]⟩
instance:Key eB:=⟨fun a b=>by simp only[ir,eB];cases a <;> cases b <;> rfl⟩
theorem arJ {s t:Str}:(bs s==bs t)=decide (s=t):=by
 have:=@anS (bs s) (bs t)
 rw[← beq_toListBytes]at this
 rw[this]
 simp only[aru]
instance:Key eS:=⟨fun a b=>by simp only[ir,eS];exact arJ⟩
theorem ju {K V:Type} [DecidableEq K] {e:K→ao} {d:V→ao} [Key e] {k:K}:∀ {es:List (K×V)},eH (e k) (es.map fun p=>(e p.1,d p.2))=(nh k es).map d
 | []=>rfl
 | (k',v)::es=>by
  simp only[List.map_cons,eH,nh,Key.eq]
  by_cases h:k=k'
  ·simp[h]
  ·simp only[h,decide_false,Bool.false_eq_true,if_false];exact ju
theorem jf {K V:Type} [DecidableEq K] {e:K→ao} {d:V→ao} [Key e] {k:K} {v:V}:∀ {es:List (K×V)},nf (e k) (d v) (es.map fun p=>(e p.1,d p.2))=(iW k v es).map fun p=>(e p.1,d p.2)
 | []=>rfl
 | (k',v')::es=>by
  simp only[List.map_cons,nf,iW,Key.eq]
  by_cases h:k=k'
  ·simp[h]
  ·simp only[h,decide_false,Bool.false_eq_true,if_false,List.map_cons];rw[jf]
theorem getD_map {α β:Type} {o:Option α} {f:α→β} {z:α}:(o.map f).getD (f z)=f (o.getD z):=by cases o <;> rfl
theorem anH {l:List UInt8}:strOf (l.map eU)=some l:=by
 induction l with
 | nil=>rfl
 | cons c l ih=>simp only[List.map_cons,eU,strOf];rw[show strOf (l.map eU)=some l from ih];simp
theorem ajE {s:Str}:jq (bs s)=s.map eU:=by simp[jq,bs,eU]
theorem auH {c e:Bool}:(if c=true then some e else some false)=some (c&&e):=by cases c <;> rfl
theorem ala {α β:Type} {f:α→β} {l:List α} {n:Nat}:(l.map f).take n=(l.take n).map f:=List.map_take.symm
theorem ajB {α β:Type} {f:α→β} {l:List α} {n:Nat}:(l.map f).drop n=(l.drop n).map f:=List.map_drop.symm
theorem abN {n:Nat}:(0 < n+1)=True:=by simp
theorem abR {n:Nat}:(n+1=0)=False:=by simp
theorem jp {h:ax} {os:List (Option bI)} {l l':Nat} {o:bI} (hl:l < h.n):((h.upd l' o).on os).at_ l=(h.upd l' o).at_ l:=ez hl
theorem nR {h:ax} {os:List (Option bI)} {l l' l2:Nat} {o o2:bI} (hl:l < h.n):(((h.upd l' o).upd l2 o2).on os).at_ l=((h.upd l' o).upd l2 o2).at_ l:=ez hl
theorem gx {h:ax} {os:List (Option bI)} {l l':Nat} {o o':bI} (hl:l < h.n):((h.upd l' o').on os).upd l o=((h.upd l' o').upd l o).on os:=fJ hl
theorem kY {h:ax} {os:List (Option bI)} {l l' l2:Nat} {o o' o2:bI} (hl:l < h.n):(((h.upd l' o').upd l2 o2).on os).upd l o=(((h.upd l' o').upd l2 o2).upd l o).on os:=fJ hl
theorem oN {h:ax} {la lb:Nat} {o o':bI} (hn:la≠lb):(h.upd lb o).upd la o'=(h.upd la o').upd lb o:=ax.ext rfl fun i=>by
 simp only[ax.upd]
 by_cases h1:i=la
 ·subst h1;rw[if_pos rfl,if_neg hn,if_pos rfl]
 ·rw[if_neg h1];split <;> rfl
theorem amL {v:SV}:v.fits v=True:=eq_true (sB v)
theorem uC {c:CV}:c.fits c=True:=eq_true (by cases c with
 | val d=>cases d <;> rfl
 | dead=>trivial
 | _=>rfl)
theorem ac7 {k:TypeId}:SV.fits (.cv .nil) (.cv (.row k []))=True:=eq_true rfl
theorem acM:SV.fits (.cv .nil) (.cv (.val (.sl [])))=True:=eq_true rfl
theorem yP {k:TypeId}:CV.fits .nil (.row k [])=True:=eq_true rfl
theorem yX:CV.fits .nil (.val (.sl []))=True:=eq_true rfl
theorem aaS {a b:List CV}:bI.fits (.cells a) (.cells b)=CV.fitsL a b:=rfl
theorem anV {k:TypeId} {a:List (ao×ao)}:bI.fits (.map k a) (.map k a)=True:=eq_true rfl
theorem yd:CV.fitsL [] []=True:=rfl
theorem uj {c c':CV} {cs cs':List CV}:CV.fitsL (c::cs) (c'::cs')=(c.fits c'∧CV.fitsL cs cs'):=rfl
theorem anT {n:Nat} {k:IntKind} {i:Int}:(ao.int k i).under n=True:=rfl
theorem afw {n:Nat} {b:Bool}:(ao.bool b).under n=True:=rfl
theorem an3 {n:Nat} {b:ByteArray}:(ao.str b).under n=True:=rfl
theorem aoP {n:Nat} {xs:List ao}:(ao.sl xs).under n=bG n xs:=rfl
theorem amr {n:Nat} {xs:List ao}:(ao.agg xs).under n=bG n xs:=rfl
theorem yu {n:Nat}:(ao.ptr none).under n=True:=rfl
theorem akk {n l o:Nat}:(ao.ptr (some (l,o))).under n=(l < n):=rfl
theorem yT {n:Nat}:(ao.map none).under n=True:=rfl
theorem aiz {n l:Nat}:(ao.map (some l)).under n=(l < n):=rfl
theorem apm {n:Nat} {f:FuncId} {a b:List ao}:(ao.fn f a b).under n=(bG n a∧bG n b):=rfl
theorem agW {n:Nat}:bG n []=True:=rfl
theorem acf {n:Nat} {d:ao} {ds:List ao}:bG n (d::ds)=(d.under n∧bG n ds):=rfl
theorem aid {n:Nat} {d:ao}:(CV.val d).under n=d.under n:=rfl
theorem ah1 {n:Nat}:CV.nil.under n=True:=rfl
theorem adl {n:Nat}:CV.dead.under n=True:=rfl
theorem aji {n:Nat} {k:TypeId} {xs:List ao}:(CV.row k xs).under n=bG n xs:=rfl
theorem acX {n:Nat}:ft n []=True:=rfl
theorem xO {n:Nat} {c:CV} {cs:List CV}:ft n (c::cs)=(c.under n∧ft n cs):=rfl
theorem xw {n:Nat} {cs:List CV}:(bI.cells cs).under n=ft n cs:=rfl
theorem afy {n:Nat} {k:TypeId} {es:List (ao×ao)}:(bI.map k es).under n=jX n es:=rfl
theorem ang {n:Nat} {c:CV}:(SV.cv c).under n=c.under n:=rfl
theorem zu {n:Nat}:SV.undef.under n=True:=rfl
theorem abx {n i:Nat}:(SV.alias (.slot i)).under n=True:=rfl
theorem zT {n l i:Nat}:(SV.alias (.cell l i)).under n=(l < n):=rfl
theorem ag7 {n:Nat} {ds:List ao}:(SV.imm ds).under n=bG n ds:=rfl
theorem xe {n i j o:Nat}:(SV.elt (.slot i) j o).under n=True:=rfl
theorem zQ {n l i j o:Nat}:(SV.elt (.cell l i) j o).under n=(l < n):=rfl
theorem agJ {n:Nat} {cs:List CV}:(SV.bld cs).under n=ft n cs:=rfl
theorem aif {n:Nat} {ds:List ao}:(SV.tup ds).under n=bG n ds:=rfl
theorem amH {s:St} {c:CV}:(SV.cv c).rooted s=True:=rfl
theorem xd {s:St}:SV.undef.rooted s=True:=rfl
theorem ait {s:St} {ds:List ao}:(SV.imm ds).rooted s=True:=rfl
theorem aiG {s:St} {ds:List CV}:(SV.bld ds).rooted s=True:=rfl
theorem aio {s:St} {ds:List ao}:(SV.tup ds).rooted s=True:=rfl
theorem abU {s:St} {i:Nat}:(SV.alias (.slot i)).rooted s=(dt (s.get i)=true):=rfl
theorem abj {s:St} {l i:Nat}:(SV.alias (.cell l i)).rooted s=True:=rfl
theorem wZ {s:St} {i j o:Nat}:(SV.elt (.slot i) j o).rooted s=(dt (s.get i)=true):=rfl
theorem zA {s:St} {l i j o:Nat}:(SV.elt (.cell l i) j o).rooted s=True:=rfl
theorem am6 {k:TypeId} {xs:List ao}:dt (.cv (.row k xs))=true:=rfl
theorem af3 {H H':ax} {c:CV}:jo H H' (.cv c)=True:=rfl
theorem vA {H H':ax}:jo H H' .undef=True:=rfl
theorem adL {H H':ax} {c:List ao}:jo H H' (.imm c)=True:=rfl
theorem acn {H H':ax} {c:List CV}:jo H H' (.bld c)=True:=rfl
theorem ab8 {H H':ax} {c:List ao}:jo H H' (.tup c)=True:=rfl
theorem xB {H H':ax} {i:Nat}:jo H H' (.alias (.slot i))=True:=rfl
theorem vr {H H':ax} {i j o:Nat}:jo H H' (.elt (.slot i) j o)=True:=rfl
theorem agI {n a b:Nat} (h:bJ (decide (a < b)) false):(n+a < n+b)=True:=eq_true (by
 have:a < b:=by simpa using h.ne
 omega)
theorem amO {N:Nat} {o o':bI} {os os':List (Option bI)}:wS N (some o::os) (some o'::os')=(o.fits o'∧o'.under N∧wS N os os'):=rfl
theorem amu {N:Nat} {o:Option bI} {os os':List (Option bI)}:wS N (o::os) (none::os')=wS N os os':=by cases o <;> rfl
theorem apF {s:St} {H:ax} {N:Nat} {l:List (Nat×SV)}:auY s H N l []=True:=rfl
theorem alm {s:St} {H:ax} {N i:Nat} {v:SV} {l sl:List (Nat×SV)}:auY s H N l ((i,v)::sl)=(((s.get i).fits v∧v.rooted ⟨l,H⟩∧v.under N∧jo s.box H v)∧auY s H N l sl):=rfl
theorem akd {k:Nat}:dD k []=true:=rfl
theorem ai6 {k:Nat} {d:ao} {ds:List ao}:dD k (d::ds)=(d.cells.length==k&&dD k ds):=rfl
theorem ao6 {n:Nat}:(n==n)=true:=by simp
theorem apx {P:Program} {e:TypeId} {xs ys:List ao}:ayK P e xs ys=((xs.length+ys.length)*P.bytesOf e≤dC∧dD (P.cellsOf e) ys=true∧0 < P.bytesOf e∧0 < P.cellsOf e∧cY P e=true):=rfl
attribute [go_sem] axA apN vi wo vy vh wm ww vw vF azl ay7 azO azf ayX azy azA azE azo acL azH awk asy join_some List.getElem?_cons_zero List.getElem?_cons_succ
 List.getElem?_toArray Option.join_some
 amL uC ac7 acM yP yX aaS anV yd uj anT afw an3 aoP amr yu akk yT aiz apm agW acf aid ah1 adl aji acX xO xw afy ang zu abx zT ag7 xe zQ agJ aif amH xd ait aiG aio abU abj wZ zA am6 agI
 dx uL anb akd ai6 ao6 apx
 eI eB eU eS eL azK ass akL aw9 aru axG al6 ajV shL shR ayI bOr az7 az0 ju jf getD_map anH ajE auH ala ajB abN abR
 List.take_length List.map_append List.map_cons List.map_nil Bool.true_and Bool.false_and Bool.and_true Bool.and_false Bool.true_or Bool.false_or Bool.or_true Bool.or_false Bool.not_true Bool.not_false cond_true cond_false Option.getD_some Option.isNone_some Option.isNone_none
 apE amO amu apF alm af3 vA adL acn ab8 xB vr ni avc atV ayu lc rf aer adE.eq_1 adE.eq_2 te.eq_1 pass
section
variable {C:Ctx} {m:Nat} {Q:Ex→St→Prop} {K:St→Prop} {s s1:St}
theorem eO (ht:St.To m s s1) (h:K s1):Ex.then (fun s=>∃ s1,St.To m s s1∧K s1) Q .normal s:=⟨s1,ht,h⟩
theorem w_K {σ ρ:Type} {D:ρ→Prop} {a:Code} (inv:σ→St) (kk:σ→Option ρ) (h2:∀ (x:σ) (s':St),Holds (kk x) D→St.To m s' (inv x)→Q .normal s')
  (h1:aR C (cp C) m a (Ex.then (fun s'=>∃ x,Holds (kk x) D∧St.To m s' (inv x)) Q) s):aR C (cp C) m a Q s:=
 dP (cR.Le.refl_runs C) a (fun e s' h=>by cases e with
  | normal=>obtain ⟨x,hx,ht⟩:=h;exact h2 x s' hx ht
  | _=>exact h) s h1
end
theorem aqi {C:Ctx} {R:cR} {ops:Array Oper} {tab:List (Nat×Nat)} {K:St→Prop} {l rest pend pend':List Nat} {s s':St} (h:lc C.P ops l s=some s') (hp:l.reverse++pend=pend') (hk:cN C R ops tab pend' rest K s'):cN C R ops tab pend (l++rest) K s:=
 zJ h (hp ▸ hk)
theorem any_nil:ep []=false:=rfl
theorem any_cons {c:CV} {cs:List CV}:ep (c::cs)=(c.isRow||ep cs):=rfl
theorem atP {d:ao}:(CV.val d).isRow=false:=rfl
theorem aub:CV.nil.isRow=false:=rfl
theorem auy {k:TypeId} {xs:List ao}:(CV.row k xs).isRow=true:=rfl
theorem au4 {α:Type} {n:α}:(n≠n)=False:=by simp
theorem aw0 {b:Bool}:(b==true)=b:=by cases b <;> rfl
theorem ato {b:Bool}:(b==false)= !b:=by cases b <;> rfl
theorem aoZ:gU []=some []:=rfl
theorem aqg {d:ao} {cs:List CV}:gU (.val d::cs)=(gU cs).map (List.cons d):=by
 simp only[gU,CV.toD,oB];cases gU cs <;> rfl
theorem al7 {cs:List CV}:gU (.nil::cs)=(gU cs).map (List.cons (.sl [])):=by
 simp only[gU,CV.toD,oB];cases gU cs <;> rfl
theorem ao7 {k:TypeId} {xs:List ao} {cs:List CV}:gU (.row k xs::cs)=(gU cs).map (List.cons (.sl xs)):=by
 simp only[gU,CV.toD,oB];cases gU cs <;> rfl
theorem abZ {n:Nat}:(n+1≠0)=True:=by simp
theorem awX {n:Nat} (h:bJ (decide (n≤16777216)) false):(n≤2^24)=True:=eq_true (by
 have:n≤16777216:=by simpa using h.ne
 omega)
theorem fk {n k:Nat} {xs:List ao} (u:bG n xs):bG (n+k) xs=True:=eq_true (sN (Nat.le_add_right n k) u)
theorem akQ {P:Program} {as bs:List ao}:fg P as bs []=some true:=rfl
def aoX (P:Program) (f:Field) (t:Option TypeDesc) (a b:Option ao):Option Bool:=
 match t,a,b with
 | some t,some a,some b=>dF t a b
 | _,_,_=>none
theorem qQ {P:Program} {as bs:List ao} {f:Field} {fs:List Field} {e r:Bool} (h1:f.name= "_" ∨dU P f.type=true↔False) (h2:aoX P f (P.underlying f.type) as[f.offset]? bs[f.offset]? =some e) (h3:fg P as bs fs=some r):fg P as bs (f::fs)=some (e&&r):=by
 simp only[fg]
 rw[if_neg (fun h=>h1.1 h)]
 cases ht:P.underlying f.type with
 | none=>rw[ht]at h2;simp[aoX]at h2
 | some t=>
  cases ha:as[f.offset]? with
  | none=>rw[ht,ha]at h2;simp[aoX]at h2
  | some a=>
   cases hb:bs[f.offset]? with
   | none=>rw[ht,ha,hb]at h2;simp[aoX]at h2
   | some b=>
    rw[ht,ha,hb]at h2
    simp only[aoX]at h2
    simp only[oB,h2,h3]
    cases e <;> rfl
theorem arC {P:Program} {t:TypeId} {fs:Array Field} {as bs:List ao} {r:Bool} (hu:P.underlying t=some (.struct fs)) (hs:P.stoodInHeld t=false) (hg:P.eqGuardType P.depth t=false) (h:fg P as bs fs.toList=some r):eqD P t (.agg as) (.agg bs)=some r:=by
 unfold eqD
 rw[hu]
 simp only[oB,hs,hg]
 simpa using h
theorem amM {P:Program} {t:TypeId} {as bs:List ao} {r:Bool} (h:eqD P t (.agg as) (.agg bs)=some r):iH P .eql t (.agg as) (.agg bs)=some (.bool r):=by simp[iH,h]
theorem alg {P:Program} {t:TypeId} {as bs:List ao} {r:Bool} (h:eqD P t (.agg as) (.agg bs)=some r):iH P .neq t (.agg as) (.agg bs)=some (.bool (!r)):=by simp[iH,h]
theorem wi {s t:Str}:(bs s==bs t)=(s==t):=by rw[arJ];by_cases h:s=t <;> simp[h]
theorem as9 {n:Nat}:(n≤n)=True:=eq_true (Nat.le_refl n)
theorem yY {l i:Nat}:setCells l i []=[]:=rfl
theorem vj {l i:Nat} {c:CV} {cs:List CV}:setCells l i (c::cs)= .setCell l i c::setCells l (i+1) cs:=rfl
theorem at0 {n:Nat} (h:bJ (decide (n≤140737488355328)) false):(n≤dC)=True:=eq_true (by
 have:n≤140737488355328:=by simpa using h.ne
 unfold dC;omega)
theorem auk {v:SV}:packed [v]=some v:=rfl
theorem avf:packed []=some .undef:=rfl
theorem asD {a b:ao}:packed [.cv (.val a),.cv (.val b)]=some (.tup [a,b]):=rfl
theorem avx {a b c:ao}:packed [.cv (.val a),.cv (.val b),.cv (.val c)]=some (.tup [a,b,c]):=rfl
theorem atb {a b c d:ao}:packed [.cv (.val a),.cv (.val b),.cv (.val c),.cv (.val d)]=some (.tup [a,b,c,d]):=rfl
theorem amq:strOf []=some []:=rfl
theorem uw {n:Int} {ds:List ao}:strOf (.int .u8 n::ds)=(strOf ds).map (List.cons (u8 n)):=by
 simp only[strOf,u8];cases strOf ds <;> rfl
theorem alG {xs:List UInt8} {ds:List ao}:strOf (xs.map eU++ds)=(strOf ds).map (xs++ ·):=by
 induction xs with
 | nil=>simp
 | cons x xs ih=>
  simp only[List.map_cons,List.cons_append,eU]
  rw[uw,show strOf (List.map eU xs++ds)=_ from ih]
  have:u8 (x.toNat:Int)=x:=by simp[u8]
  cases strOf ds <;> simp[this]
theorem ayr {x:UInt8}:u8 (x.toNat:Int)=x:=by simp[u8]
theorem wB {n:Nat} {xs ys:List ao}:bG n (xs++ys)=(bG n xs∧bG n ys):=by
 induction xs with
 | nil=>simp[bG]
 | cons x xs ih=>simp only[List.cons_append,bG,ih,and_assoc]
theorem acP {b:Bool} {k:IntKind} {a:Int}:fD b k a []=some (.int k a):=rfl
theorem adX {k:IntKind} {a b:Int} {l:List (IntKind×Int)}:fD false k a ((k,b)::l)=fD false k (mn a b) l:=by simp[fD,mn]
theorem ab9 {k:IntKind} {a b:Int} {l:List (IntKind×Int)}:fD true k a ((k,b)::l)=fD true k (mx a b) l:=by simp[fD,mx]
theorem avY:(true=false)=False:=by simp
theorem av7:(false=true)=False:=by simp
theorem afH {n k:Nat} {d:ao}:bG n (List.replicate k d)=(d.under n∨k=0):=by
 induction k with
 | zero=>simp[bG]
 | succ k ih=>
  simp only[List.replicate_succ,bG,ih]
  apply propext
  constructor
  ·intro h;exact .inl h.1
  ·intro h
   rcases h with h | h
   ·exact ⟨h,.inl h⟩
   ·omega
theorem at4 {k:IntKind} {n:Int}:(ao.int k n).one=true:=rfl
theorem apX {b:Bool}:(ao.bool b).one=true:=rfl
theorem asz {b:ByteArray}:(ao.str b).one=true:=rfl
theorem axg {b:List ao}:(ao.sl b).one=true:=rfl
theorem atn {b:Option (Nat×Nat)}:(ao.ptr b).one=true:=rfl
theorem auo {b:Option Nat}:(ao.map b).one=true:=rfl
theorem aws {f:FuncId} {a b:List ao}:(ao.fn f a b).one=true:=rfl
theorem afP {a cs:List ao}:oG (.agg a) cs= .agg cs:=rfl
theorem aiD {k:IntKind} {n:Int} {c:ao}:oG (.int k n) [c]=c:=rfl
theorem adD {b:Bool} {c:ao}:oG (.bool b) [c]=c:=rfl
theorem aga {b:ByteArray} {c:ao}:oG (.str b) [c]=c:=rfl
theorem ajH {b:List ao} {c:ao}:oG (.sl b) [c]=c:=rfl
theorem aag {α:Type} {cs:List α} {i:Nat}:setFrom cs i []=cs:=rfl
theorem zl {α:Type} {cs ns:List α} {i:Nat} {n:α}:setFrom cs i (n::ns)=setFrom (cs.set i n) (i+1) ns:=rfl
theorem axU {n:Int} (h:bJ (decide (0≤n∧n < 256)) false):((u8 n).toNat:Int)=n:=by
 have:0≤n∧n < 256:=by simpa using h.ne
 simp only[u8,UInt8.toNat_ofNat']
 omega
theorem agv {n:Nat}:∀ {xs:List ao},bG n xs↔∀ (i:Nat) (d:ao),xs[i]? =some d→d.under n:=by
 intro xs
 constructor
 ·intro h i d hd;exact kL h d (List.mem_of_getElem? hd)
 ·intro h;exact sL fun x hx=>by
   obtain ⟨i,hi⟩:=List.getElem?_of_mem hx
   exact h i x hi
theorem ahK {α:Type} {e:α→ao} {k n i:Nat} [Enc e k] {xs:List α} {d:ao}:bG n ((List.map e xs).set i d)=(d.under n∨xs.length≤i):=by
 apply propext
 rw[agv]
 constructor
 ·intro h
  by_cases hi:i < xs.length
  ·exact .inl (h i d (by rw[List.getElem?_set];simp[hi]))
  ·exact .inr (by omega)
 ·intro h j c hc
  rw[List.getElem?_set]at hc
  split at hc
  ·split at hc
   ·simp only[sJ]at hc;subst hc
    rcases h with h | h
    ·exact h
    ·rename_i h1 h2;simp at h2;omega
   ·cases hc
  ·rw[List.getElem?_map]at hc
   cases hx:xs[j]? with
   | none=>rw[hx]at hc;simp at hc
   | some x=>rw[hx]at hc;simp at hc;subst hc;exact Enc.under n x
theorem aue {i l j:Nat}:SV.unal (.slot i) (.alias (.cell l j))= .alias (.cell l j):=by simp[SV.unal,SV.drop]
theorem asW {i l j:Nat}:SV.unal (.cell l j) (.alias (.slot i))= .alias (.slot i):=by simp[SV.unal,SV.drop]
theorem ave {l i j:Nat} (h:bJ j i):SV.unal (.cell l i) (.alias (.cell l j))= .alias (.cell l j):=by simp[SV.unal,SV.drop,h.ne]
theorem apD {i l j x y:Nat}:SV.unal (.slot i) (.elt (.cell l j) x y)= .elt (.cell l j) x y:=by simp[SV.unal,SV.drop]
theorem ao9 {i l j x y:Nat}:SV.unal (.cell l j) (.elt (.slot i) x y)= .elt (.slot i) x y:=by simp[SV.unal,SV.drop]
theorem aoI {l i j x y:Nat} (h:bJ j i):SV.unal (.cell l i) (.elt (.cell l j) x y)= .elt (.cell l j) x y:=by simp[SV.unal,SV.drop,h.ne]
theorem aqw {i l j:Nat} {d:ao}:SV.refix (.slot i) d (.alias (.cell l j))= .alias (.cell l j):=by simp[SV.refix]
theorem apK {i l j:Nat} {d:ao}:SV.refix (.cell l j) d (.alias (.slot i))= .alias (.slot i):=by simp[SV.refix]
theorem aqA {l i j:Nat} {d:ao} (h:bJ j i):SV.refix (.cell l i) d (.alias (.cell l j))= .alias (.cell l j):=by simp[SV.refix,h.ne]
theorem eP {l n k:Nat} (h:l < n):(l < n+k)=True:=eq_true (by omega)
theorem iQ {l n:Nat} (h:l < n):(l < n)=True:=eq_true h
theorem age {n:Nat}:uG n []=True:=rfl
theorem aan {n:Nat} {v:SV} {vs:List SV}:uG n (v::vs)=(v.under n∧uG n vs):=rfl
def eZ {K V:Type} (e:K→ao) (d:V→ao) (es:List (K×V)):List (ao×ao):=es.map fun p=>(e p.1,d p.2)
theorem aro {K V:Type} {e:K→ao} {d:V→ao}:eZ e d []=[]:=rfl
theorem aoy {K V:Type} {e:K→ao} {d:V→ao} {es:List (K×V)}:(eZ e d es).length=es.length:=by simp[eZ]
theorem agM {K V:Type} {e:K→ao} {d:V→ao} {k k' n:Nat} [Enc e k] [Enc d k'] {es:List (K×V)}:jX n (eZ e d es)=True:=uL
theorem abd {n:Nat}:jX n []=True:=rfl
theorem avl {V:Type} {d:V→ao} {k:Str} {es:List (Str×V)}:eH (.str (bs k)) (eZ eS d es)=(nh k es).map d:=ju (e:=eS)
theorem auV {V:Type} {d:V→ao} {k:Int} {es:List (Int×V)}:eH (.int .i64 k) (eZ eI d es)=(nh k es).map d:=ju (e:=eI)
theorem att {k:Str} {v:Int} {es:List (Str×Int)}:nf (.str (bs k)) (.int .i64 v) (eZ eS eI es)=eZ eS eI (iW k v es):=jf (e:=eS) (d:=eI)
theorem auP {k:Int} {v:Int} {es:List (Int×Int)}:nf (.int .i64 k) (.int .i64 v) (eZ eI eI es)=eZ eI eI (iW k v es):=jf (e:=eI) (d:=eI)
theorem aut {k:Int} {v:Bool} {es:List (Int×Bool)}:nf (.int .i64 k) (.bool v) (eZ eI eB es)=eZ eI eB (iW k v es):=jf (e:=eI) (d:=eB)
theorem auT {k:Str} {v:Bool} {es:List (Str×Bool)}:nf (.str (bs k)) (.bool v) (eZ eS eB es)=eZ eS eB (iW k v es):=jf (e:=eS) (d:=eB)
theorem am4 {k:ao}:eH k []=none:=rfl
theorem awO {o:Option Int} {z:Int}:(o.map eI).getD (.int .i64 z)= .int .i64 (o.getD z):=by cases o <;> rfl
theorem av2 {o:Option Bool} {z:Bool}:(o.map eB).getD (.bool z)= .bool (o.getD z):=by cases o <;> rfl
theorem awH {α:Type} {e:α→ao} {o:Option (List α)}:(o.map (eL e)).getD (.sl [])= .sl (List.map e (o.getD [])):=by cases o <;> rfl
theorem ams {P:Program} {kt:TypeId} {b:ByteArray}:isKey P kt .string (.str b)=true:=rfl
theorem agU {P:Program} {kt:TypeId} {b:Bool}:isKey P kt .bool (.bool b)=true:=rfl
theorem anE {P:Program} {kt:TypeId} {k:IntKind} {n:Int}:isKey P kt (.int k) (.int k n)=true:=by simp[isKey]
attribute [go_sem] aro aoy agM abd avl auV att auP aut auT am4 awO av2 awH ams agU anE Option.isSome_map Option.isSome_none Option.isSome_some Option.getD_none
theorem asi {h:ax} {l0:Nat} {o0:bI} {os:List (Option bI)} {k:Nat}:(ax.on (ax.upd h l0 o0) os).at_ (h.n+k)=(os[k]?).join:=apN (h:=(ax.upd h l0 o0))
theorem ajG {h:ax} {l0:Nat} {o0:bI} {a0:Option bI} {os:List (Option bI)} {o:bI}:(ax.on (ax.upd h l0 o0) (a0::os)).upd (h.n+0) o=ax.on (ax.upd h l0 o0) (some o::os):=vi (h:=(ax.upd h l0 o0))
theorem anI {h:ax} {l0:Nat} {o0:bI} {a0 a1:Option bI} {os:List (Option bI)} {o:bI}:(ax.on (ax.upd h l0 o0) (a0::a1::os)).upd (h.n+1) o=ax.on (ax.upd h l0 o0) (a0::some o::os):=wo (h:=(ax.upd h l0 o0))
theorem amb {h:ax} {l0:Nat} {o0:bI} {a0 a1 a2:Option bI} {os:List (Option bI)} {o:bI}:(ax.on (ax.upd h l0 o0) (a0::a1::a2::os)).upd (h.n+2) o=ax.on (ax.upd h l0 o0) (a0::a1::some o::os):=vy (h:=(ax.upd h l0 o0))
theorem akW {h:ax} {l0:Nat} {o0:bI} {a0 a1 a2 a3:Option bI} {os:List (Option bI)} {o:bI}:(ax.on (ax.upd h l0 o0) (a0::a1::a2::a3::os)).upd (h.n+3) o=ax.on (ax.upd h l0 o0) (a0::a1::a2::some o::os):=vh (h:=(ax.upd h l0 o0))
theorem ako {h:ax} {l0:Nat} {o0:bI} {a0 a1 a2 a3 a4:Option bI} {os:List (Option bI)} {o:bI}:(ax.on (ax.upd h l0 o0) (a0::a1::a2::a3::a4::os)).upd (h.n+4) o=ax.on (ax.upd h l0 o0) (a0::a1::a2::a3::some o::os):=wm (h:=(ax.upd h l0 o0))
theorem akC {h:ax} {l0:Nat} {o0:bI} {a0 a1 a2 a3 a4 a5:Option bI} {os:List (Option bI)} {o:bI}:(ax.on (ax.upd h l0 o0) (a0::a1::a2::a3::a4::a5::os)).upd (h.n+5) o=ax.on (ax.upd h l0 o0) (a0::a1::a2::a3::a4::some o::os):=ww (h:=(ax.upd h l0 o0))
theorem ane {h:ax} {l0:Nat} {o0:bI} {a0 a1 a2 a3 a4 a5 a6:Option bI} {os:List (Option bI)} {o:bI}:(ax.on (ax.upd h l0 o0) (a0::a1::a2::a3::a4::a5::a6::os)).upd (h.n+6) o=ax.on (ax.upd h l0 o0) (a0::a1::a2::a3::a4::a5::some o::os):=vw (h:=(ax.upd h l0 o0))
theorem alw {h:ax} {l0:Nat} {o0:bI} {a0 a1 a2 a3 a4 a5 a6 a7:Option bI} {os:List (Option bI)} {o:bI}:(ax.on (ax.upd h l0 o0) (a0::a1::a2::a3::a4::a5::a6::a7::os)).upd (h.n+7) o=ax.on (ax.upd h l0 o0) (a0::a1::a2::a3::a4::a5::a6::some o::os):=vF (h:=(ax.upd h l0 o0))
theorem avy {h:ax} {l0 l1:Nat} {o0 o1:bI} {os:List (Option bI)} {k:Nat}:(ax.on (ax.upd (ax.upd h l0 o0) l1 o1) os).at_ (h.n+k)=(os[k]?).join:=apN (h:=(ax.upd (ax.upd h l0 o0) l1 o1))
theorem amg {h:ax} {l0 l1:Nat} {o0 o1:bI} {a0:Option bI} {os:List (Option bI)} {o:bI}:(ax.on (ax.upd (ax.upd h l0 o0) l1 o1) (a0::os)).upd (h.n+0) o=ax.on (ax.upd (ax.upd h l0 o0) l1 o1) (some o::os):=vi (h:=(ax.upd (ax.upd h l0 o0) l1 o1))
theorem aj0 {h:ax} {l0 l1:Nat} {o0 o1:bI} {a0 a1:Option bI} {os:List (Option bI)} {o:bI}:(ax.on (ax.upd (ax.upd h l0 o0) l1 o1) (a0::a1::os)).upd (h.n+1) o=ax.on (ax.upd (ax.upd h l0 o0) l1 o1) (a0::some o::os):=wo (h:=(ax.upd (ax.upd h l0 o0) l1 o1))
theorem akn {h:ax} {l0 l1:Nat} {o0 o1:bI} {a0 a1 a2:Option bI} {os:List (Option bI)} {o:bI}:(ax.on (ax.upd (ax.upd h l0 o0) l1 o1) (a0::a1::a2::os)).upd (h.n+2) o=ax.on (ax.upd (ax.upd h l0 o0) l1 o1) (a0::a1::some o::os):=vy (h:=(ax.upd (ax.upd h l0 o0) l1 o1))
theorem amo {h:ax} {l0 l1:Nat} {o0 o1:bI} {a0 a1 a2 a3:Option bI} {os:List (Option bI)} {o:bI}:(ax.on (ax.upd (ax.upd h l0 o0) l1 o1) (a0::a1::a2::a3::os)).upd (h.n+3) o=ax.on (ax.upd (ax.upd h l0 o0) l1 o1) (a0::a1::a2::some o::os):=vh (h:=(ax.upd (ax.upd h l0 o0) l1 o1))
theorem ak3 {h:ax} {l0 l1:Nat} {o0 o1:bI} {a0 a1 a2 a3 a4:Option bI} {os:List (Option bI)} {o:bI}:(ax.on (ax.upd (ax.upd h l0 o0) l1 o1) (a0::a1::a2::a3::a4::os)).upd (h.n+4) o=ax.on (ax.upd (ax.upd h l0 o0) l1 o1) (a0::a1::a2::a3::some o::os):=wm (h:=(ax.upd (ax.upd h l0 o0) l1 o1))
theorem al8 {h:ax} {l0 l1:Nat} {o0 o1:bI} {a0 a1 a2 a3 a4 a5:Option bI} {os:List (Option bI)} {o:bI}:(ax.on (ax.upd (ax.upd h l0 o0) l1 o1) (a0::a1::a2::a3::a4::a5::os)).upd (h.n+5) o=ax.on (ax.upd (ax.upd h l0 o0) l1 o1) (a0::a1::a2::a3::a4::some o::os):=ww (h:=(ax.upd (ax.upd h l0 o0) l1 o1))
theorem al5 {h:ax} {l0 l1:Nat} {o0 o1:bI} {a0 a1 a2 a3 a4 a5 a6:Option bI} {os:List (Option bI)} {o:bI}:(ax.on (ax.upd (ax.upd h l0 o0) l1 o1) (a0::a1::a2::a3::a4::a5::a6::os)).upd (h.n+6) o=ax.on (ax.upd (ax.upd h l0 o0) l1 o1) (a0::a1::a2::a3::a4::a5::some o::os):=vw (h:=(ax.upd (ax.upd h l0 o0) l1 o1))
theorem an9 {h:ax} {l0 l1:Nat} {o0 o1:bI} {a0 a1 a2 a3 a4 a5 a6 a7:Option bI} {os:List (Option bI)} {o:bI}:(ax.on (ax.upd (ax.upd h l0 o0) l1 o1) (a0::a1::a2::a3::a4::a5::a6::a7::os)).upd (h.n+7) o=ax.on (ax.upd (ax.upd h l0 o0) l1 o1) (a0::a1::a2::a3::a4::a5::a6::some o::os):=vF (h:=(ax.upd (ax.upd h l0 o0) l1 o1))
theorem au1 {h:ax} {l0 l1 l2:Nat} {o0 o1 o2:bI} {os:List (Option bI)} {k:Nat}:(ax.on (ax.upd (ax.upd (ax.upd h l0 o0) l1 o1) l2 o2) os).at_ (h.n+k)=(os[k]?).join:=apN (h:=(ax.upd (ax.upd (ax.upd h l0 o0) l1 o1) l2 o2))
theorem ak9 {h:ax} {l0 l1 l2:Nat} {o0 o1 o2:bI} {a0:Option bI} {os:List (Option bI)} {o:bI}:(ax.on (ax.upd (ax.upd (ax.upd h l0 o0) l1 o1) l2 o2) (a0::os)).upd (h.n+0) o=ax.on (ax.upd (ax.upd (ax.upd h l0 o0) l1 o1) l2 o2) (some o::os):=vi (h:=(ax.upd (ax.upd (ax.upd h l0 o0) l1 o1) l2 o2))
theorem anY {h:ax} {l0 l1 l2:Nat} {o0 o1 o2:bI} {a0 a1:Option bI} {os:List (Option bI)} {o:bI}:(ax.on (ax.upd (ax.upd (ax.upd h l0 o0) l1 o1) l2 o2) (a0::a1::os)).upd (h.n+1) o=ax.on (ax.upd (ax.upd (ax.upd h l0 o0) l1 o1) l2 o2) (a0::some o::os):=wo (h:=(ax.upd (ax.upd (ax.upd h l0 o0) l1 o1) l2 o2))
theorem akK {h:ax} {l0 l1 l2:Nat} {o0 o1 o2:bI} {a0 a1 a2:Option bI} {os:List (Option bI)} {o:bI}:(ax.on (ax.upd (ax.upd (ax.upd h l0 o0) l1 o1) l2 o2) (a0::a1::a2::os)).upd (h.n+2) o=ax.on (ax.upd (ax.upd (ax.upd h l0 o0) l1 o1) l2 o2) (a0::a1::some o::os):=vy (h:=(ax.upd (ax.upd (ax.upd h l0 o0) l1 o1) l2 o2))
theorem ami {h:ax} {l0 l1 l2:Nat} {o0 o1 o2:bI} {a0 a1 a2 a3:Option bI} {os:List (Option bI)} {o:bI}:(ax.on (ax.upd (ax.upd (ax.upd h l0 o0) l1 o1) l2 o2) (a0::a1::a2::a3::os)).upd (h.n+3) o=ax.on (ax.upd (ax.upd (ax.upd h l0 o0) l1 o1) l2 o2) (a0::a1::a2::some o::os):=vh (h:=(ax.upd (ax.upd (ax.upd h l0 o0) l1 o1) l2 o2))
theorem alQ {h:ax} {l0 l1 l2:Nat} {o0 o1 o2:bI} {a0 a1 a2 a3 a4:Option bI} {os:List (Option bI)} {o:bI}:(ax.on (ax.upd (ax.upd (ax.upd h l0 o0) l1 o1) l2 o2) (a0::a1::a2::a3::a4::os)).upd (h.n+4) o=ax.on (ax.upd (ax.upd (ax.upd h l0 o0) l1 o1) l2 o2) (a0::a1::a2::a3::some o::os):=wm (h:=(ax.upd (ax.upd (ax.upd h l0 o0) l1 o1) l2 o2))
theorem alE {h:ax} {l0 l1 l2:Nat} {o0 o1 o2:bI} {a0 a1 a2 a3 a4 a5:Option bI} {os:List (Option bI)} {o:bI}:(ax.on (ax.upd (ax.upd (ax.upd h l0 o0) l1 o1) l2 o2) (a0::a1::a2::a3::a4::a5::os)).upd (h.n+5) o=ax.on (ax.upd (ax.upd (ax.upd h l0 o0) l1 o1) l2 o2) (a0::a1::a2::a3::a4::some o::os):=ww (h:=(ax.upd (ax.upd (ax.upd h l0 o0) l1 o1) l2 o2))
theorem aky {h:ax} {l0 l1 l2:Nat} {o0 o1 o2:bI} {a0 a1 a2 a3 a4 a5 a6:Option bI} {os:List (Option bI)} {o:bI}:(ax.on (ax.upd (ax.upd (ax.upd h l0 o0) l1 o1) l2 o2) (a0::a1::a2::a3::a4::a5::a6::os)).upd (h.n+6) o=ax.on (ax.upd (ax.upd (ax.upd h l0 o0) l1 o1) l2 o2) (a0::a1::a2::a3::a4::a5::some o::os):=vw (h:=(ax.upd (ax.upd (ax.upd h l0 o0) l1 o1) l2 o2))
theorem ajC {h:ax} {l0 l1 l2:Nat} {o0 o1 o2:bI} {a0 a1 a2 a3 a4 a5 a6 a7:Option bI} {os:List (Option bI)} {o:bI}:(ax.on (ax.upd (ax.upd (ax.upd h l0 o0) l1 o1) l2 o2) (a0::a1::a2::a3::a4::a5::a6::a7::os)).upd (h.n+7) o=ax.on (ax.upd (ax.upd (ax.upd h l0 o0) l1 o1) l2 o2) (a0::a1::a2::a3::a4::a5::a6::some o::os):=vF (h:=(ax.upd (ax.upd (ax.upd h l0 o0) l1 o1) l2 o2))
attribute [go_sem] asi ajG anI amb akW ako akC ane alw avy amg aj0 akn amo ak3 al8 al5 an9 au1 ak9 anY akK ami alQ alE aky ajC
theorem aqX:ajk []=[]:=rfl
theorem ajU {d:ao} {ds:List ao}:ajk (d::ds)= .val d::ajk ds:=rfl
attribute [go_sem] aqX ajU
attribute [go_sem] aue asW ave apD ao9 aoI aqw apK aqA age aan
attribute [go_sem] ahK afP aiD adD aga ajH aag zl axU List.map_set
attribute [go_sem] afH at4 apX asz axg atn auo aws List.all_cons List.all_nil Bool.and_self
attribute [go_sem] wB acP adX ab9 avY av7 List.getD_cons_zero List.getD_cons_succ List.map_replicate
attribute [go_sem] as9 yY vj List.set_cons_zero List.set_cons_succ at0 avf auk asD avx atb amq uw alG ayr List.length_append List.length_map
attribute [go_sem] am8 aoZ aqg al7 ao7 abZ awX aw0 ato au4 any_nil any_cons atP aub auy List.drop_succ_cons
theorem sO {C:Ctx} {R:cR} {m:Nat} {Q:Ex→St→Prop} {s s1:St} {id:Nat} {ops:Array Oper} {d:Bool} (ht:St.To m s s1) (h:aR C R m (.region id ops d) Q s1):aR C R m (.region id ops d) Q s:=aAi ht h fun k=>To.trans ht k
theorem Holds.idxK {α β:Type} {xs:List α} {i:Nat} {k:α→Option β} {D:β→Prop} (h:Holds (xs[i]?.bind k) D):∃ x,xs[i]? =some x∧(i < xs.length)=True∧Holds (k x) D:=by
 obtain ⟨x,h1,h2⟩:=h.bind
 exact ⟨x,h1,eq_true (List.getElem?_eq_some_iff.1 h1).1,h2⟩
theorem aqV {k:Str} {v:Int}:nf (.str (bs k)) (.int .i64 v) []=eZ eS eI (iW k v []):=rfl
theorem aoH {k:Int} {v:Int}:nf (.int .i64 k) (.int .i64 v) []=eZ eI eI (iW k v []):=rfl
theorem aq7 {k:Int} {v:Bool}:nf (.int .i64 k) (.bool v) []=eZ eI eB (iW k v []):=rfl
theorem aoU {k:Str} {v:Bool}:nf (.str (bs k)) (.bool v) []=eZ eS eB (iW k v []):=rfl
attribute [go_sem] aqV aoH aq7 aoU
def avB:Option (Nat×List ao)→Option ao
 | some p=>some (.sl p.2)
 | none=>none
theorem ahv {k:Nat} {xs:List ao}:avB (some (k,xs))=some (.sl xs):=rfl
def agu (s:St):SV→Option ao
 | .cv (.val d)=>some d
 | .cv .nil=>some (.sl [])
 | .cv (.row _ xs)=>some (.sl xs)
 | .alias r=>avB (s.rowAt r)
 | _=>none
theorem aob {s:St} {d:ao}:agu s (.cv (.val d))=some d:=rfl
theorem ajW {s:St}:agu s (.cv .nil)=some (.sl []):=rfl
theorem akt {s:St} {k:Nat} {xs:List ao}:agu s (.cv (.row k xs))=some (.sl xs):=rfl
theorem acN {s:St} {r:ec}:agu s (.alias r)=avB (s.rowAt r):=rfl
theorem amI {s:St} {x:Operand}:ml s x=agu s (s.opv x):=by
 unfold ml
 cases s.opv x with
 | cv c=>cases c <;> rfl
 | alias r=>simp only[agu];cases s.rowAt r <;> rfl
 | undef=>rfl
 | imm _=>rfl
 | elt _ _ _=>rfl
 | bld _=>rfl
 | tup _=>rfl
def ayE:Option ao→Option (List ao)→Option (List ao)
 | some d,some ds=>some (d::ds)
 | _,_=>none
theorem ahl {d:ao} {ds:List ao}:ayE (some d) (some ds)=some (d::ds):=rfl
theorem amY {s:St}:lV s []=some []:=rfl
theorem afY {s:St} {x:Operand} {xs:List Operand}:lV s (x::xs)=ayE (ml s x) (lV s xs):=by
 rw[lV]
 cases ml s x with
 | none=>rfl
 | some d=>cases lV s xs <;> rfl
theorem azV {t:TypeId}:decide (t=t)=true:=by simp
attribute [go_sem] ahv aob ajW akt acN amI ahl amY afY azV amP.eq_5 ap3.eq_1 Bool.true_and
def ar4 (x:Operand):SV→Option ec
 | .cv (.row _ _)=>some (.slot (kg x))
 | .alias r=>some r
 | _=>none
theorem akx {x:Operand} {k:Nat} {xs:List ao}:ar4 x (.cv (.row k xs))=some (.slot (kg x)):=rfl
theorem abc {x:Operand} {r:ec}:ar4 x (.alias r)=some r:=rfl
theorem an4 {s:St} {x:Operand}:rootOf s x=ar4 x (s.opv x):=by
 unfold rootOf
 cases s.opv x with
 | cv c=>cases c <;> rfl
 | _=>rfl
attribute [go_sem] akx abc an4
theorem ay9:(true==false)=false:=rfl
theorem ay3:(false==true)=false:=rfl
theorem azP:(true==true)=true:=rfl
theorem azS:(false==false)=true:=rfl
attribute [go_sem] ay9 ay3 azP azS Bool.not_true Bool.not_false
theorem cp.as {C:Ctx} {f:FuncId} {as bs:List SV} {h:ax} {Q:List SV→ax→Prop} (hr:cp C f as h Q) (e:as=bs):cp C f bs h Q:=e ▸ hr
end Go.Val
namespace Go.Val
open Go.RowKit (Below)
variable {P:Program} {w:World} {G:Gh}
theorem pZ {α β:Type} {f:α→Option β}:∀ {l:List α} {r:List β},l.mapM f=some r→r.length=l.length∧∀ (i:Nat) (x:α),l[i]? =some x→∃ y,f x=some y∧r[i]? =some y
 | [],r,h=>by
  simp at h;subst h
  exact ⟨rfl,fun i x hx=>by simp at hx⟩
 | a::l,r,h=>by
  rw[List.mapM_cons]at h
  cases ha:f a with
  | none=>rw[ha]at h;simp at h
  | some b=>
   cases hl:l.mapM f with
   | none=>rw[ha,hl]at h;simp at h
   | some bs=>
    rw[ha,hl]at h
    simp at h
    subst h
    obtain ⟨h1,h2⟩:=pZ hl
    refine ⟨by simp[h1],fun i x hx=>?_⟩
    cases i with
    | zero=>simp at hx;subst hx;exact ⟨b,ha,rfl⟩
    | succ i=>simp at hx;simpa using h2 i x hx
def ahH (P:Program):Nat→List Field→Nat→Bool
 | o,[],n=>o==n
 | o,f::fs,n=>f.offset==o&&ahH P (o+P.cellsOf f.type) fs n
def ap9 (P:Program):Nat→TypeId→Bool
 | 0,_=>false
 | m+1,t=>match P.underlying t with
  | some .bool=>true
  | some (.int _)=>true
  | some .string=>true
  | some (.slice e)=>decide (0 < P.cellsOf e)&&ap9 P m e
  | some (.struct fs)=>ahH P 0 fs.toList (P.cellsOf t)&&fs.toList.all fun f=>ap9 P m f.type&&(dU P f.type||P.cellsOf f.type==1)
  | _=>false
def isF (p:TypeId→List ao→Prop):List Field→List ao→Prop
 | [],ds=>ds=[]
 | f::fs,ds=>∃ a b,ds=a++b∧p f.type a∧isF p fs b
def isT (P:Program):Nat→TypeId→List ao→Prop
 | 0,_,_=>False
 | m+1,t,ds=>match P.underlying t with
  | some .bool=>∃ b,ds=[.bool b]
  | some (.int k)=>∃ n,ds=[.int k n]∧(Lit.int k n).wf=true
  | some .string=>∃ s,ds=[.str s]∧s.size≤maxLen
  | some (.slice e)=>∃ xs,ds=[.sl xs]∧xs.length≤maxLen∧∀ x∈xs,isT P m e x.cells∧(dU P e=true→∃ cs,x= .agg cs)∧(dU P e=false→x.one=true)
  | some (.struct fs)=>isF (isT P m) fs.toList ds
  | _=>False
def imm? (G:Gh) (w:World):Prop:=∀ b,b < w.heap.size→G.g b= .imm
theorem sM {p:TypeId→List ao→Prop} {cs:List Value}:∀ {fs:List Field} {o n:Nat},ahH P o fs n=true→n=cs.length→(∀ f∈fs,∃ ds,bO w G ds ((cs.drop f.offset).take (P.cellsOf f.type))∧p f.type ds∧ds.length=P.cellsOf f.type)→
  ∃ ds,bO w G ds (cs.drop o)∧isF p fs ds
 | [],o,n,ht,hn,_=>by
  simp only[ahH,beq_iff_eq]at ht
  refine ⟨[],?_,rfl⟩
  rw[List.drop_eq_nil_of_le (by omega)]
  exact .nil
 | f::fs,o,n,ht,hn,hp=>by
  simp only[ahH,Bool.and_eq_true,beq_iff_eq]at ht
  obtain ⟨a,h1,h2,h3⟩:=hp f (by simp)
  obtain ⟨b,g1,g2⟩:=sM ht.2 hn fun f' hf'=>hp f' (by simp[hf'])
  rw[ht.1]at h1
  refine ⟨a++b,?_,a,b,rfl,h2,g2⟩
  have:cs.drop o=(cs.drop o).take (P.cellsOf f.type)++cs.drop (o+P.cellsOf f.type):=by
   rw[← List.drop_drop,List.take_append_drop]
  rw[this]
  exact h1.append g1
theorem afx {a:Addr} {n:Nat} {vs:List Value} (h:w.cells? 0 a n=some vs):vs.length=n∧∀ (i:Nat) (v:Value),vs[i]? =some v→w.cell? (a.add i)=some v:=by
 unfold World.cells? at h
 rw[if_pos (Nat.zero_le _)]at h
 obtain ⟨h1,h2⟩:=pZ h
 refine ⟨by simpa using h1,fun i v hv=>?_⟩
 have hi:i < n:=by have:=(List.getElem?_eq_some_iff.1 hv).1;simp at h1;omega
 obtain ⟨y,hy,hr⟩:=h2 i i (by simp[hi])
 rw[hv]at hr
 cases hr
 exact hy
theorem sn {p:ao→Prop} {a:Addr} {k:Nat} (hk:0 < k):∀ (len:Nat),(∀ i,i < len→∃ vs x,w.cells? 0 (a.add (i*k)) k=some vs∧bO w G x.cells vs∧p x)→
  ∃ xs vs,xs.length=len∧(∀ x∈xs,p x∧x.cells.length=k)∧bO w G (bh xs) vs∧vs.length=len*k∧(∀ (i:Nat) (v:Value),vs[i]? =some v→w.cell? ((a.add (i/k*k)).add (i%k))=some v)
 | 0,_=>⟨[],[],rfl,by simp,.nil,by simp,by simp⟩
 | len+1,h=>by
  obtain ⟨xs,vs,h1,h2,h3,h4,h5⟩:=sn hk len fun i hi=>h i (by omega)
  obtain ⟨us,x,g1,g2,g3⟩:=h len (by omega)
  obtain ⟨g4,g5⟩:=afx g1
  refine ⟨xs++[x],vs++us,by simp[h1],fun y hy=>?_,?_,by simp[h4,g4,Nat.add_mul],fun i v hv=>?_⟩
  ·rcases List.mem_append.1 hy with hy | hy
   ·exact h2 y hy
   ·simp at hy;subst hy;exact ⟨g3,by have:=g2.length;omega⟩
  ·simp only[bh,List.flatMap_append,List.flatMap_cons,List.flatMap_nil,List.append_nil]
   exact h3.append g2
  ·by_cases hi:i < vs.length
   ·rw[List.getElem?_append_left hi]at hv;exact h5 i v hv
   ·rw[List.getElem?_append_right (by omega)]at hv
    have hlt:i - vs.length < us.length:=(List.getElem?_eq_some_iff.1 hv).1
    have e1:i/k=len:=by
     apply Nat.div_eq_of_lt_le
     ·omega
     ·rw[Nat.add_mul];omega
    have e2:i%k=i - vs.length:=by
     have:=Nat.div_add_mod i k
     rw[e1,Nat.mul_comm]at this;omega
    rw[e1,e2]
    exact g5 _ _ hv
theorem afl {H:Type} {enc:TypeId×Value→H} {spare:Nat→Bool} {held:Bool} (hi:imm? G w):∀ (m:Nat) {fuel:Nat} {t:TypeId} {cs:List Value} {d:DataW H} {ps:List MemPlace},
  ap9 P m t=true→DataW.trod enc P w 0 spare held fuel t cs=some (d,ps)→∃ ds,bO w G ds cs∧isT P m t ds∧ds.length=cs.length∧(dU P t=false→cs.length=1)∧(dU P t=true→cs.length=P.cellsOf t)
 | 0,_,_,_,_,_,hf,_=>by cases hf
 | m+1,0,_,_,_,_,_,h=>by cases h
 | m+1,fuel+1,t,cs,d,ps,hf,h=>by
  have ih:=@afl H enc spare held hi m
  unfold ap9 at hf
  unfold isT
  cases hu:P.underlying t with
  | none=>rw[hu]at hf;cases hf
  | some td=>
   rw[hu]at hf
   cases td
   case bool=>
    simp only[DataW.trod,hu]at h
    split at h
    all_goals first | (rename_i heq;cases heq;done) | skip
    ·cases h;exact ⟨[.bool _],.cons _ _ _ _ rfl (.bool _) .nil,⟨_,rfl⟩,rfl,fun _=>rfl,fun e=>by simp[dU,hu]at e⟩
    ·cases h
   case int k=>
    simp only[DataW.trod,hu]at h
    split at h
    all_goals first | (rename_i heq;cases heq;done) | skip
    ·rename_i heq
     cases heq
     split at h
     ·rename_i hc
      cases h
      obtain ⟨rfl,hwf⟩:=hc
      exact ⟨[.int _ _],.cons _ _ _ _ rfl (.int _ _) .nil,⟨_,rfl,hwf⟩,rfl,fun _=>rfl,fun e=>by simp[dU,hu]at e⟩
     ·cases h
    ·cases h
   case string=>
    simp only[DataW.trod,hu]at h
    split at h
    all_goals first | (rename_i heq;cases heq;done) | skip
    ·split at h
     ·rename_i hc
      cases h
      exact ⟨[.str _],.cons _ _ _ _ rfl (.str _) .nil,⟨_,rfl,hc⟩,rfl,fun _=>rfl,fun e=>by simp[dU,hu]at e⟩
     ·cases h
    ·cases h
   case slice e=>
    simp only[Bool.and_eq_true,decide_eq_true_eq]at hf
    simp only[DataW.trod,hu]at h
    split at h
    all_goals first | (rename_i heq;cases heq;done) | skip
    ·cases h
     exact ⟨[.sl []],.cons _ _ _ _ rfl (.nilsl none 0) .nil,⟨[],rfl,by simp,by simp⟩,rfl,fun _=>rfl,fun e=>by simp[dU,hu]at e⟩
    ·rename_i a len cap heq
     cases heq
     split at h
     ·rename_i hc
      simp only[Option.bind_eq_some_iff,Option.map_eq_some_iff]at h
      obtain ⟨elems,hel,rest,hrest,_⟩:=h
      obtain ⟨hl,hat⟩:=pZ hel
      simp only[List.length_range]at hl
      obtain ⟨xs,vs,g1,g2,g3,g4,g5⟩:=sn (w:=w) (G:=G) (p:=fun x=>isT P m e x.cells∧(dU P e=true→∃ cs,x= .agg cs)∧(dU P e=false→x.one=true)) (a:=a) hf.1 len fun i hi=>by
       obtain ⟨y,hy,_⟩:=hat i i (by simp[hi])
       obtain ⟨vs,hvs,hr⟩:=Option.bind_eq_some_iff.1 hy
       obtain ⟨ds,k1,k2,k3,k4,k5⟩:=ih (d:=y.1) (ps:=y.2) hf.2 hr
       cases hag:dU P e with
       | true=>
        refine ⟨vs,.agg ds,hvs,k1,k2,fun _=>⟨ds,rfl⟩,fun e=>by cases e⟩
       | false=>
        have h1:=k4 hag
        cases k1 with
        | nil=>simp at h1
        | cons d v ds' vs' q1 q2 q3=>
         have hv':vs'=[]:=by simpa using h1
         subst hv'
         cases q3
         have hcell:d.cells=[d]:=by cases d <;> first | rfl | (simp[ao.one]at q1)
         exact ⟨[v],d,hvs,by rw[hcell];exact .cons _ _ _ _ q1 q2 .nil,by rw[hcell];exact k2,fun e=>by (cases e),fun _=>q1⟩
      refine ⟨[.sl xs],?_,⟨xs,rfl,by omega,fun x hx=>(g2 x hx).1⟩,rfl,fun _=>rfl,fun e=>by simp[dU,hu]at e⟩
      refine .cons _ _ _ _ rfl ?_ .nil
      subst g1
      cases hx:xs with
      | nil=>exact .nilsl (some a) cap
      | cons x0 xs0=>
       rw[← hx]
       have hne:xs≠[]:=by rw[hx];simp
       have hlen:0 < xs.length:=by rw[hx];simp
       have hvl:0 < vs.length:=by rw[g4];exact Nat.mul_pos hlen hf.1
       have h0:=g5 0 _ (gE hvl)
       simp only[Nat.zero_div,Nat.zero_mod,Nat.zero_mul]at h0
       have hspot:a.spot=none:=by simpa[Addr.add]using World.cell?_spot h0
       have hb:a.block < w.heap.size:=by have:=rH h0;simpa[gq]using this
       refine .sl xs a cap (P.cellsOf e) vs hne (by omega) (hi _ hb) hb hspot (fun x hx=>(g2 x hx).2) g3 fun i v hv=>?_
       have:=g5 i v hv
       rw[add_add a _ _ hspot]at this
       rwa[Nat.div_add_mod']at this
     ·cases h
    ·cases h
   case struct fs=>
    simp only[Bool.and_eq_true,List.all_eq_true]at hf
    simp only[DataW.trod,hu]at h
    split at h
    ·rename_i hlen
     simp only[Option.map_eq_some_iff]at h
     obtain ⟨xs,hxs,_⟩:=h
     obtain ⟨hl,hat⟩:=pZ hxs
     obtain ⟨ds,k1,k2⟩:=sM (w:=w) (G:=G) (p:=isT P m) hf.1 hlen.symm fun f hff=>by
      obtain ⟨i,hi⟩:=List.getElem?_of_mem hff
      obtain ⟨y,hy,_⟩:=hat i f hi
      obtain ⟨ds,q1,q2,q3,q4,q5⟩:=ih (d:=y.1) (ps:=y.2) (hf.2 f hff).1 hy
      refine ⟨ds,q1,q2,?_⟩
      cases hag:dU P f.type with
      | true=>rw[q3];exact q5 hag
      | false=>rw[q3,q4 hag];(have:=(hf.2 f hff).2;simp[hag]at this;exact this.symm)
     have k1':bO w G ds cs:=k1
     refine ⟨ds,k1',k2,k1'.length.symm,fun e=>by simp[dU,hu]at e,fun _=>hlen⟩
    ·cases h
   all_goals cases hf
def gh0 (P:Program) (w:World):Gh:=⟨P,fun b=>if b < w.heap.size then .imm else .other,fun _=>0,0⟩
def avR:ax:=⟨0,fun _=>none⟩
theorem adz (P:Program) (w:World):imm? (gh0 P w) w:=fun b hb=>by simp[gh0,hb]
theorem anC {C:Ctx} (hX:fe C) (hm:C.P.follows .mixedOrders=true) {f:FuncId} {args:List SV} {vs:List Value} {w:World} {b:Bool} (hr:cp C f args avR fun o h'=>o=[.cv (.val (.bool b))]∧h'=avR)
  (ha:cX w (gh0 C.P w) .slot 0 args vs):Calls C.P f vs.toArray w fun e w'=>e= .returned (.bool b)∧Below w.heap.size w w':=by
 refine Calls.mono ((qb hX hm hr).2 w (gh0 C.P w) vs rfl ha ⟨rfl,fun l o h=>by cases h⟩ (fun b hb=>by simp[gh0];omega)) fun e w' ⟨us,out,h',G',h1,h2,h3,h4,h5,h6⟩=>?_
 obtain ⟨rfl,rfl⟩:=h2
 cases h3 with
 | cons c v os vs g1 g2=>
  cases g2
  have g1':cC w' G' (.bool b) v:=g1
  cases g1'
  exact ⟨h1,h6.os,h6.tape,h6.output,h6.size,fun k hk=>(h6.imm k (adz _ _ k hk) hk).2⟩
theorem anB {α:Type} {e:α→ao}:∀ {xs:List ao},(∀ x∈xs,∃ y,x=e y)→∃ l:List α,xs=l.map e
 | [],_=>⟨[],rfl⟩
 | x::xs,h=>by
  obtain ⟨y,hy⟩:=h x (by simp)
  obtain ⟨l,hl⟩:=anB (xs:=xs) fun x hx=>h x (List.mem_cons_of_mem _ hx)
  exact ⟨y::l,by simp[hy,hl]⟩
theorem aoo {m:Nat} {t:TypeId} {ds:List ao} (hu:P.underlying t=some .bool) (h:isT P (m+1) t ds):∃ b:Bool,ds=[eB b]:=by
 unfold isT at h;rw[hu]at h;exact h
theorem tb {m:Nat} {t:TypeId} {ds:List ao} (hu:P.underlying t=some (.int .i64)) (h:isT P (m+1) t ds):∃ n:Int,ds=[eI n]∧ -9223372036854775808≤n∧n≤9223372036854775807:=by
 unfold isT at h;rw[hu]at h
 obtain ⟨n,h1,h2⟩:=h
 refine ⟨n,h1,?_⟩
 simp[Lit.wf,IntKind.min,IntKind.max,IntKind.signed,IntKind.bits]at h2
 omega
theorem mH {m:Nat} {t e:TypeId} {ds:List ao} {α:Type} {en:α→ao} (hu:P.underlying t=some (.slice e)) (h:isT P (m+1) t ds) (he:∀ x,isT P m e x.cells→(dU P e=true→∃ cs,x= .agg cs)→(dU P e=false→x.one=true)→∃ y,x=en y):
  ∃ l:List α,ds=[eL en l]∧l.length≤maxLen:=by
 unfold isT at h;rw[hu]at h
 obtain ⟨xs,h1,h2,h3⟩:=h
 obtain ⟨l,hl⟩:=anB fun x hx=>he x (h3 x hx).1 (h3 x hx).2.1 (h3 x hx).2.2
 exact ⟨l,by rw[h1,hl];rfl,by rw[hl]at h2;simpa using h2⟩
theorem ar2 {x d:ao} (h:x.cells=[d]) (ho:x.one=true):x=d:=by
 cases x <;> first | (simpa[ao.cells]using h) | (simp[ao.one]at ho)
variable {P:Program} {w:World} {G:Gh}
def ajA (P:Program) (S:List TypeId):Bool:=S.all fun t=>match P.underlying t with
  | some .bool=>true
  | some (.int _)=>true
  | some .string=>true
  | some (.slice e)=>decide (0 < P.cellsOf e)&&S.contains e
  | some (.struct fs)=>ahH P 0 fs.toList (P.cellsOf t)&&fs.toList.all fun f=>S.contains f.type&&(dU P f.type||P.cellsOf f.type==1)
  | _=>false
theorem zh {H:Type} {enc:TypeId×Value→H} {spare:Nat→Bool} {held:Bool} (hi:imm? G w) {S:List TypeId} (hS:ajA P S=true):∀ (m:Nat) {t:TypeId} {cs:List Value} {d:DataW H} {ps:List MemPlace},
  S.contains t=true→DataW.trod enc P w 0 spare held m t cs=some (d,ps)→∃ ds,bO w G ds cs∧isT P m t ds∧ds.length=cs.length∧(dU P t=false→cs.length=1)∧(dU P t=true→cs.length=P.cellsOf t)
 | 0,_,_,_,_,_,h=>by cases h
 | m+1,t,cs,d,ps,hf0,h=>by
  have ih:=@zh H enc spare held hi S hS m
  have hf:=List.all_eq_true.1 hS t (by simpa using hf0)
  unfold isT
  cases hu:P.underlying t with
  | none=>rw[hu]at hf;cases hf
  | some td=>
   rw[hu]at hf
   cases td
   case bool=>
    simp only[DataW.trod,hu]at h
    split at h
    all_goals first | (rename_i heq;cases heq;done) | skip
    ·cases h;exact ⟨[.bool _],.cons _ _ _ _ rfl (.bool _) .nil,⟨_,rfl⟩,rfl,fun _=>rfl,fun e=>by simp[dU,hu]at e⟩
    ·cases h
   case int k=>
    simp only[DataW.trod,hu]at h
    split at h
    all_goals first | (rename_i heq;cases heq;done) | skip
    ·rename_i heq
     cases heq
     split at h
     ·rename_i hc
      cases h
      obtain ⟨rfl,hwf⟩:=hc
      exact ⟨[.int _ _],.cons _ _ _ _ rfl (.int _ _) .nil,⟨_,rfl,hwf⟩,rfl,fun _=>rfl,fun e=>by simp[dU,hu]at e⟩
     ·cases h
    ·cases h
   case string=>
    simp only[DataW.trod,hu]at h
    split at h
    all_goals first | (rename_i heq;cases heq;done) | skip
    ·split at h
     ·rename_i hc
      cases h
      exact ⟨[.str _],.cons _ _ _ _ rfl (.str _) .nil,⟨_,rfl,hc⟩,rfl,fun _=>rfl,fun e=>by simp[dU,hu]at e⟩
     ·cases h
    ·cases h
   case slice e=>
    simp only[Bool.and_eq_true,decide_eq_true_eq]at hf
    simp only[DataW.trod,hu]at h
    split at h
    all_goals first | (rename_i heq;cases heq;done) | skip
    ·cases h
     exact ⟨[.sl []],.cons _ _ _ _ rfl (.nilsl none 0) .nil,⟨[],rfl,by simp,by simp⟩,rfl,fun _=>rfl,fun e=>by simp[dU,hu]at e⟩
    ·rename_i a len cap heq
     cases heq
     split at h
     ·rename_i hc
      simp only[Option.bind_eq_some_iff,Option.map_eq_some_iff]at h
      obtain ⟨elems,hel,rest,hrest,_⟩:=h
      obtain ⟨hl,hat⟩:=pZ hel
      simp only[List.length_range]at hl
      obtain ⟨xs,vs,g1,g2,g3,g4,g5⟩:=sn (w:=w) (G:=G) (p:=fun x=>isT P m e x.cells∧(dU P e=true→∃ cs,x= .agg cs)∧(dU P e=false→x.one=true)) (a:=a) hf.1 len fun i hi=>by
       obtain ⟨y,hy,_⟩:=hat i i (by simp[hi])
       obtain ⟨vs,hvs,hr⟩:=Option.bind_eq_some_iff.1 hy
       obtain ⟨ds,k1,k2,k3,k4,k5⟩:=ih (d:=y.1) (ps:=y.2) hf.2 hr
       cases hag:dU P e with
       | true=>
        refine ⟨vs,.agg ds,hvs,k1,k2,fun _=>⟨ds,rfl⟩,fun e=>by cases e⟩
       | false=>
        have h1:=k4 hag
        cases k1 with
        | nil=>simp at h1
        | cons d v ds' vs' q1 q2 q3=>
         have hv':vs'=[]:=by simpa using h1
         subst hv'
         cases q3
         have hcell:d.cells=[d]:=by cases d <;> first | rfl | (simp[ao.one]at q1)
         exact ⟨[v],d,hvs,by rw[hcell];exact .cons _ _ _ _ q1 q2 .nil,by rw[hcell];exact k2,fun e=>by (cases e),fun _=>q1⟩
      refine ⟨[.sl xs],?_,⟨xs,rfl,by omega,fun x hx=>(g2 x hx).1⟩,rfl,fun _=>rfl,fun e=>by simp[dU,hu]at e⟩
      refine .cons _ _ _ _ rfl ?_ .nil
      subst g1
      cases hx:xs with
      | nil=>exact .nilsl (some a) cap
      | cons x0 xs0=>
       rw[← hx]
       have hne:xs≠[]:=by rw[hx];simp
       have hlen:0 < xs.length:=by rw[hx];simp
       have hvl:0 < vs.length:=by rw[g4];exact Nat.mul_pos hlen hf.1
       have h0:=g5 0 _ (gE hvl)
       simp only[Nat.zero_div,Nat.zero_mod,Nat.zero_mul]at h0
       have hspot:a.spot=none:=by simpa[Addr.add]using World.cell?_spot h0
       have hb:a.block < w.heap.size:=by have:=rH h0;simpa[gq]using this
       refine .sl xs a cap (P.cellsOf e) vs hne (by omega) (hi _ hb) hb hspot (fun x hx=>(g2 x hx).2) g3 fun i v hv=>?_
       have:=g5 i v hv
       rw[add_add a _ _ hspot]at this
       rwa[Nat.div_add_mod']at this
     ·cases h
    ·cases h
   case struct fs=>
    simp only[Bool.and_eq_true,List.all_eq_true]at hf
    simp only[DataW.trod,hu]at h
    split at h
    ·rename_i hlen
     simp only[Option.map_eq_some_iff]at h
     obtain ⟨xs,hxs,_⟩:=h
     obtain ⟨hl,hat⟩:=pZ hxs
     obtain ⟨ds,k1,k2⟩:=sM (w:=w) (G:=G) (p:=isT P m) hf.1 hlen.symm fun f hff=>by
      obtain ⟨i,hi⟩:=List.getElem?_of_mem hff
      obtain ⟨y,hy,_⟩:=hat i f hi
      obtain ⟨ds,q1,q2,q3,q4,q5⟩:=ih (d:=y.1) (ps:=y.2) (hf.2 f hff).1 hy
      refine ⟨ds,q1,q2,?_⟩
      cases hag:dU P f.type with
      | true=>rw[q3];exact q5 hag
      | false=>rw[q3,q4 hag];(have:=(hf.2 f hff).2;simp[hag]at this;exact this.symm)
     have k1':bO w G ds cs:=k1
     refine ⟨ds,k1',k2,k1'.length.symm,fun e=>by simp[dU,hu]at e,fun _=>hlen⟩
    ·cases h
   all_goals cases hf
end Go.Val
namespace Go.Val
theorem cE {p:Prop} (h:p:=by simp (disch:=(apply bJ.mk;decide)) only[go_sem,Nat.reduceAdd,Nat.reduceLT,Nat.reduceMul,Nat.reduceLeDiff,Int.reduceToNat,Int.reduceLT,Int.reduceLE, *]):p:=h
theorem pw {p:Prop} (h:p:=by simp (disch:=(apply bJ.mk;decide)) only[go_sem,Nat.reduceAdd,Nat.reduceLT,Nat.reduceMul,Nat.reduceLeDiff,Int.reduceToNat,Int.reduceLT,Int.reduceLE, *];rfl):p:=h
section
variable {C:Ctx} {R:cR} {m:Nat} {Q:Ex→St→Prop} {s:St}
theorem ah {id:Nat} {ops:Array Oper} {l:List Oper} {s':St} (hk:Q .normal s') (hl:ops.toList=l:=by rfl) (h:iA C.P ops l s=some s':=by exact pw):aR C R m (.region id ops false) Q s:=mO hl h hk
theorem aw (k:Nat) {ops:Array Oper} {K:St→Prop} {l:List Oper} {s':St} {o:Oper} {os:List Oper} (hk:wpOps C R ops (o::os) K s') (hl:l.drop k=o::os:=by rfl) (h:iA C.P ops (l.take k) s=some s':=by exact pw):wpOps C R ops l K s:=aww k hl h hk
theorem bE {id:Nat} {ops:Array Oper} {l:List Oper} (h:wpOps C R ops l (Q .normal) s) (hl:ops.toList=l:=by rfl):aR C R m (.region id ops false) Q s:=azt hl h
theorem ae {ops:Array Oper} {K:St→Prop} {l:List Oper} {s':St} (hk:K s') (h:iA C.P ops l s=some s':=by exact pw):wpOps C R ops l K s:=anF h hk
theorem iu {ops:Array Oper} {os:List Oper} {K:St→Prop} {o:Oper} (hk:wpOps C R ops os K (s.put o.dst .undef)) (h0:guardOf ops s o=some false:=by exact cE):wpOps C R ops (o::os) K s:=azL h0 hk
theorem jP (t:Bool) {c:Operand} {a b:Code} (h1:t=true→aR C R m a Q s) (h2:t=false→aR C R m b Q s) (hc:s.opv c= .cv (.val (.bool t)):=by exact cE):aR C R m (.cond c a b) Q s:=axb hc h1 h2
theorem au {c:Operand} {x y:Code} {t:Bool} {α:Type} {A B:Option α} {D:α→Prop} (hr:Holds (if t=true then A else B) D) (h1:t=true→Holds A D→aR C R m x Q s) (h2:t=false→Holds B D→aR C R m y Q s) (hc:s.opv c= .cv (.val (.bool t)):=by exact cE):aR C R m (.cond c x y) Q s:=asG hc hr h1 h2
theorem ai {h:ax} {os os':List (Option bI)} {sl:List (Nat×SV)} (hwf:h.WF) (hm:m≤h.n:=by exact Nat.le_refl _) (hb:s.box=h.on os:=by first | rfl | (exact pw))
  (hc:wS (h.on os').n os os'∧auY s (h.on os') (h.on os').n sl sl:=by exact cE):St.To m s ⟨sl,h.on os'⟩:=To.cut hwf hm hb hc
theorem ba {s1:St} {f:FuncId} {fn:Func} {P:List SV→ax→Prop} {out:List SV} {h':ax} (ht:St.To m s s1) (hq:P out h') (hres:results C f s1 fn.results.toList=some (out,h'):=by simp (disch:=(apply bJ.mk;decide)) only[go_sem,Nat.reduceAdd,Nat.reduceLT,Nat.reduceMul,Nat.reduceLeDiff,Int.reduceToNat,Int.reduceLT,Int.reduceLE,dV,eT.eq_2,df, *]):atEnd C m f fn P .ret s:=yx ht hres hq
theorem av0 {s1:St} {f:FuncId} {fn:Func} {P:List SV→ax→Prop} {out:List SV} {h':ax} (ht:St.To m s s1) (hq:P out h') (hres:results C f s1 fn.results.toList=some (out,h'):=by simp (disch:=(apply bJ.mk;decide)) only[go_sem,Nat.reduceAdd,Nat.reduceLT,Nat.reduceMul,Nat.reduceLeDiff,Int.reduceToNat,Int.reduceLT,Int.reduceLE,dV,eT.eq_2,df, *]):atEnd C m f fn P .normal s:=axq ht hres hq
end
section
variable {C:Ctx} {s:St}
theorem be {ops:Array Oper} {os:List Oper} {K:St→Prop} {dst:Option Tmp} {ty:TypeId} {pos:String} {after:Array Edge} {f:Operand} {args:Array Operand} {ts:Array TypeId} {gd:Option (Nat×Bool)}
  {g:FuncId} {fs cs:List ao} {as:List SV} {es:List Eff} {s1:St} {out:List SV} {hp:ax}
  (h4:cp C g (jc fs++as++jc cs) s1.box fun o h'=>o=out∧h'=hp) (h5:(packed out).isSome=true) (hk:wpOps C (cp C) ops os K (St.put ⟨cU SV.uncell s1.slots,hp⟩ dst ((packed out).getD .undef)))
  (h0:guardOf ops s ⟨dst,.call ⟨.value f,args,ts⟩,ty,pos,after,gd⟩=some true:=by first | rfl | (simp (disch:=(apply bJ.mk;decide)) only[go_sem,Nat.reduceAdd,Nat.reduceLT,Nat.reduceMul,Nat.reduceLeDiff,Int.reduceToNat,Int.reduceLT,Int.reduceLE, *])) (h1:callee s f=some (g,fs,cs):=by simp (disch:=(apply bJ.mk;decide)) only[go_sem,Nat.reduceAdd,Nat.reduceLT,Nat.reduceMul,Nat.reduceLeDiff,Int.reduceToNat,Int.reduceLT,Int.reduceLE,Option.getD_some, *];rfl) (h2:gV C g s fs.length args.toList=some (as,es):=by simp (disch:=(apply bJ.mk;decide)) only[go_sem,Nat.reduceAdd,Nat.reduceLT,Nat.reduceMul,Nat.reduceLeDiff,Int.reduceToNat,Int.reduceLT,Int.reduceLE,Option.getD_some, *];rfl) (h3:s.effs es=s1:=by simp (disch:=(apply bJ.mk;decide)) only[go_sem,Nat.reduceAdd,Nat.reduceLT,Nat.reduceMul,Nat.reduceLeDiff,Int.reduceToNat,Int.reduceLT,Int.reduceLE,Option.getD_some, *];rfl):
  wpOps C (cp C) ops (⟨dst,.call ⟨.value f,args,ts⟩,ty,pos,after,gd⟩::os) K s:=avk h0 h1 h2 h3 h4 h5 hk
end
theorem lQ {h:ax} {l:Nat} (hl:l < h.n):(∀ os,(h.on os).at_ l=h.at_ l)∧(∀ k,(l < h.n+k)=True)∧(l < h.n)=True:=⟨fun os=>ez hl,fun k=>eP hl,eq_true hl⟩
theorem afn {C:Ctx} {s:St} {R:cR} {ops:Array Oper} {os:List Oper} {K:St→Prop} {dst:Option Tmp} {ty ty' t e:TypeId} {pos:String} {after:Array Edge} {x:Operand} {gd:Option (Nat×Bool)} {xs:List ao}
  (h0:guardOf ops s ⟨dst,.binOp .eql t x (.const (.slice none 0 0)) ty',ty,pos,after,gd⟩=some true) (hu:C.P.underlying t=some (.slice e)) (hx:optVal s x=some (.sl xs))
  (hk:∀ b,(xs≠[]→b=false)→wpOps C R ops os K (s.put dst (.cv (.val (.bool b))))):
  wpOps C R ops (⟨dst,.binOp .eql t x (.const (.slice none 0 0)) ty',ty,pos,after,gd⟩::os) K s:=
 ⟨true,h0,fun _=>.inl ⟨t,x,ty',xs,e,rfl,hu,hx,hk⟩,fun e=>by cases e⟩
def eK (k:IntKind) (n:Int):ao:=.int k n
instance {k:IntKind}:Enc (eK k) 1:=⟨fun _=>rfl,fun n x=>by simp only[eK,ao.under]⟩
instance {k:IntKind}:Key (eK k):=⟨fun a b=>by
 simp only[ir,eK,decide_true,Bool.true_and]
 by_cases h:a=b
 ·subst h;simp
 ·simp[h]⟩
def eA {α:Type} {n:Nat} (e:α→ao) (v:Vector α n):ao:=.agg (v.toList.map e)
def bQ {α:Type} {n:Nat} (e:α→ao) (v:Vector α n):List CV:=(v.toList.map e).map CV.val
variable {α:Type} {n:Nat} {e:α→ao} {v:Vector α n} {cs:List CV}
instance {k:Nat} [Enc e k]:Enc (eA (n:=n) e) n:=⟨fun x=>by simp[eA,ao.cells],fun m x=>by simp only[eA,ao.under];rw[dx];trivial⟩
theorem gg:(bQ e v).length=n:=by simp[bQ]
theorem aiV:(bQ e v++cs).length=n+cs.length:=by simp[bQ]
theorem aib:(v.toList.map e).map CV.val=bQ e v:=rfl
theorem amW:ajk (v.toList.map e)=bQ e v:=rfl
theorem ym:∀ (l:List ao),gU (l.map CV.val)=some l
 | []=>rfl
 | d::l=>by simp[gU,CV.toD,ym l]
theorem aje:gU (bQ e v)=some (v.toList.map e):=ym _
theorem jR:∀ (l:List ao) (cs:List CV),ep (l.map CV.val++cs)=ep cs
 | [],_=>rfl
 | d::l,cs=>by
  have:=jR l cs
  simp only[List.map_cons,List.cons_append,ep,this]
  rfl
theorem oJ:ep (bQ e v++cs)=ep cs:=jR _ _
theorem zL:ep (bQ e v)=false:=by
 have:=oJ (e:=e) (v:=v) (cs:=[])
 rw[List.append_nil]at this
 exact this
theorem ad7 {k:Nat}:ep ((bQ e v).drop k)=false:=by
 unfold bQ
 rw[← List.map_drop]
 have:=jR ((v.toList.map e).drop k) []
 rw[List.append_nil]at this
 rw[this];rfl
theorem tR:(bQ e v).take n=bQ e v:=List.take_of_length_le (by rw[gg];exact Nat.le_refl _)
theorem acw:(bQ e v++cs).take n=bQ e v:=by rw[List.take_append_of_le_length (by rw[gg];exact Nat.le_refl _),tR]
theorem abC:(bQ e v++cs).drop n=cs:=by
 have h:=List.drop_left (l₁:=bQ e v) (l₂:=cs)
 rw[gg]at h;exact h
theorem un:(bQ e v++cs)[n]? =cs[0]? :=by
 rw[List.getElem?_append_right (by rw[gg];exact Nat.le_refl _),gg,Nat.sub_self]
theorem zY {d:CV}:(bQ e v++cs).getD n d=cs.getD 0 d:=by simp only[gD,un]
theorem aiQ {c:CV}:(bQ e v++cs).set n c=bQ e v++cs.set 0 c:=by
 rw[List.set_append_right _ _ (by rw[gg];exact Nat.le_refl _),gg,Nat.sub_self]
def wO (v:Vector α n) (i:Int) (x:α):Vector α n:=v.setIfInBounds i.toNat x
theorem yK {i:Int} {x:α}:(wO v i x).toList=v.toList.set i.toNat x:=by simp[wO]
theorem sI {i:Int} {x:α}:(bQ e v).set i.toNat (.val (e x))=bQ e (wO v i x):=by
 unfold bQ
 rw[yK,List.map_set,List.map_set]
theorem agf {i:Int} {x:α} (h:i.toNat < n):(bQ e v++cs).set i.toNat (.val (e x))=bQ e (wO v i x)++cs:=by
 rw[List.set_append_left _ _ (by rw[gg];exact h),sI]
theorem xK {i:Int} {x:α} (h:v.toList[i.toNat]? =some x):(bQ e v)[i.toNat]? =some (.val (e x)):=by
 unfold bQ;rw[List.getElem?_map,List.getElem?_map,h];rfl
theorem tU {i:Int} {x:α} (h:v.toList[i.toNat]? =some x):(bQ e v++cs)[i.toNat]? =some (.val (e x)):=by
 have h1:=xK (e:=e) h
 rw[List.getElem?_append_left (by have:=(List.getElem?_eq_some_iff.1 h1).1;exact this)];exact h1
theorem ai8 {i:Int} {x:α} {d:CV} (h:v.toList[i.toNat]? =some x):(bQ e v).getD i.toNat d= .val (e x):=by rw[gD,xK h];rfl
theorem aa6 {i:Int} {x:α} {d:CV} (h:v.toList[i.toNat]? =some x):(bQ e v++cs).getD i.toNat d= .val (e x):=by rw[gD,tU h];rfl
theorem asB {n:Int}:eU (u8 (IntKind.u8.wrap n))= .int .u8 (IntKind.u8.wrap n):=by unfold eU;rw[ajV]
theorem qo {m:Nat}:∀ (l:List ao) (cs:List CV),bG m l→(ft m (l.map CV.val++cs)=ft m cs)
 | [],_,_=>rfl
 | d::l,cs,h=>by
  have h1:d.under m∧bG m l:=h
  have:=qo l cs h1.2
  show (((CV.val d).under m)∧ft m (l.map CV.val++cs))=_
  rw[this]
  exact propext ⟨fun x=>x.2,fun x=>⟨h1.1,x⟩⟩
theorem nn {m k:Nat} [Enc e k]:ft m (bQ e v++cs)=ft m cs:=qo _ _ (by rw[dx];trivial)
theorem wq {m k:Nat} [Enc e k]:ft m (bQ e v)=True:=by
 have:=nn (e:=e) (v:=v) (cs:=[]) (m:=m)
 rw[List.append_nil]at this
 rw[this];rfl
theorem atw {m:Nat}:(m+1 < 1)=False:=eq_false (by omega)
theorem tT:∀ (l:List ao) (cs:List CV),gU (l.map CV.val++cs)=(gU cs).map fun ds=>l++ds
 | [],cs=>by simp
 | d::l,cs=>by
  have:=tT l cs
  simp only[List.map_cons,List.cons_append,gU,CV.toD,this]
  cases gU cs <;> rfl
theorem aa1:gU (bQ e v++cs)=(gU cs).map fun ds=>v.toList.map e++ds:=tT _ _
theorem sw:∀ (l:List ao) (cs cs':List CV),CV.fitsL (l.map CV.val++cs) (l.map CV.val++cs')=CV.fitsL cs cs'
 | [],_,_=>rfl
 | d::l,cs,cs'=>by
  have:=sw l cs cs'
  simp only[List.map_cons,List.cons_append,uj,this,uC,true_and]
theorem qk {cs':List CV}:CV.fitsL (bQ e v++cs) (bQ e v++cs')=CV.fitsL cs cs':=sw _ _ _
theorem ac1:CV.fitsL (bQ e v) (bQ e v)=True:=by
 have:=qk (e:=e) (v:=v) (cs:=[]) (cs':=[])
 rw[List.append_nil]at this
 rw[this];simp only[yd]
theorem yc {m:Nat} {v:Vector α (m+1)}:ep ((bQ e v++cs).drop 1)=ep cs:=by
 have hl:(bQ e v).length=m+1:=gg
 rw[List.drop_append_of_le_length (by omega)]
 unfold bQ
 rw[← List.map_drop]
 exact jR _ _
theorem oZ {i:Nat} {x:α} (h:v.toList[i]? =some x):i < n:=by have:=(List.getElem?_eq_some_iff.1 h).1;simpa using this
theorem ara {i:Nat} {x:α} (h:v.toList[i]? =some x):(v.toList.map e).drop i=e x::(v.toList.map e).drop (i+1):=by
 have h1:(v.toList.map e)[i]? =some (e x):=by rw[List.getElem?_map,h];rfl
 obtain ⟨hlt,hg⟩:=List.getElem?_eq_some_iff.1 h1
 rw[List.drop_eq_getElem_cons hlt,hg]
theorem pN {K:Type} [DecidableEq K] {e:K→ao} [Key e] (hi:∀ a,∃ k m,e a= .int k m):∀ {l m:List K},jr (l.map e) (m.map e)=decide (l=m)
 | [],[]=>rfl
 | [],b::m=>by simp[jr]
 | a::l,[]=>by
  obtain ⟨k,x,hx⟩:=hi a
  simp[jr,hx]
 | a::l,b::m=>by
  obtain ⟨k,x,hx⟩:=hi a
  obtain ⟨k',y,hy⟩:=hi b
  have h:=Key.eq (e:=e) a b
  rw[hx,hy]at h
  simp only[ir]at h
  simp only[List.map_cons,hx,hy,jr,pN hi (l:=l) (m:=m)]
  have h':(decide (k=k')&&x==y)=decide (a=b):=h
  rw[h']
  simp only[List.cons.injEq,Bool.decide_and]
theorem axe (a:UInt8):∃ k m,eU a= .int k m:=⟨_,_,rfl⟩
theorem awh (a:Int):∃ k m,eI a= .int k m:=⟨_,_,rfl⟩
instance:Key eU:=⟨fun a b=>by
 simp only[ir,eU,decide_true,Bool.true_and]
 by_cases h:a=b
 ·subst h;simp
 ·have:¬ a.toNat=b.toNat:=fun e=>h (UInt8.toNat_inj.1 e)
  simp[h];omega⟩
instance:Key (eA (n:=n) eU):=⟨fun a b=>by
 simp only[ir,eA]
 rw[pN axe]
 exact decide_eq_decide.2 Vector.toList_inj⟩
instance:Key (eA (n:=n) eI):=⟨fun a b=>by
 simp only[ir,eA]
 rw[pN awh]
 exact decide_eq_decide.2 Vector.toList_inj⟩
theorem afi:∀ (l:List UInt8),lO .u8 (l.map eU)=true
 | []=>rfl
 | a::l=>by simp[lO,eU,afi l]
theorem apr {P:Program} {kt t:TypeId} {v:Vector UInt8 n} (h:P.underlying t=some (.int .u8)) (hc:P.cellsOf t=1):isKey P kt (.array n t) (.agg (v.toList.map eU))=true:=by
 simp only[isKey,ae5,h,hc,afi];simp
theorem atU {V:Type} {d:V→ao} {q:IntKind} {k:Int} {es:List (Int×V)}:eH (.int q k) (eZ (eK q) d es)=(nh k es).map d:=ju (e:=eK q)
theorem asN {q:IntKind} {k:Int} {v:Int} {es:List (Int×Int)}:nf (.int q k) (.int .i64 v) (eZ (eK q) eI es)=eZ (eK q) eI (iW k v es):=jf (e:=eK q) (d:=eI)
theorem arc {V:Type} {d:V→ao} {k:Vector UInt8 n} {es:List (Vector UInt8 n×V)}:eH (.agg (k.toList.map eU)) (eZ (eA eU) d es)=(nh k es).map d:=ju (e:=eA eU)
theorem aqv {k:Vector UInt8 n} {v:Int} {es:List (Vector UInt8 n×Int)}:nf (.agg (k.toList.map eU)) (.int .i64 v) (eZ (eA eU) eI es)=eZ (eA eU) eI (iW k v es):=jf (e:=eA eU) (d:=eI)
theorem apc {V:Type} {d:V→ao} {k:Vector Int n} {es:List (Vector Int n×V)}:eH (.agg (k.toList.map eI)) (eZ (eA eI) d es)=(nh k es).map d:=ju (e:=eA eI)
theorem aoN {k:Vector Int n} {v:Int} {es:List (Vector Int n×Int)}:nf (.agg (k.toList.map eI)) (.int .i64 v) (eZ (eA eI) eI es)=eZ (eA eI) eI (iW k v es):=jf (e:=eA eI) (d:=eI)
attribute [go_sem] yc aa1 qk ac1 atw nn wq Vector.length_toList ad7 eK eA gg aiV aib amW aje zL oJ tR acw abC un zY aiQ sI atU asN arc aqv apc aoN
mutual
def ao.beq:ao→ao→Bool
 | .int k n,.int k' n'=>decide (k=k')&&decide (n=n')
 | .bool b,.bool b'=>decide (b=b')
 | .str s,.str s'=>decide (s.data.toList=s'.data.toList)
 | .sl xs,.sl ys=>ao.beqL xs ys
 | .agg xs,.agg ys=>ao.beqL xs ys
 | .ptr a,.ptr b=>decide (a=b)
 | .map a,.map b=>decide (a=b)
 | .fn f as bs,.fn g cs ds=>decide (f=g)&&ao.beqL as cs&&ao.beqL bs ds
 | .nilfn,.nilfn=>true
 | _,_=>false
def ao.beqL:List ao→List ao→Bool
 | [],[]=>true
 | x::xs,y::ys=>ao.beq x y&&ao.beqL xs ys
 | _,_=>false
end
mutual
theorem ao.beq_eq:∀ (a b:ao),ao.beq a b=true→a=b
 | .int k n,b,h=>by
  cases b <;> simp only[ao.beq,Bool.and_eq_true,decide_eq_true_eq,Bool.false_eq_true]at h
  rw[h.1,h.2]
 | .bool x,b,h=>by
  cases b <;> simp only[ao.beq,decide_eq_true_eq,Bool.false_eq_true]at h
  rw[h]
 | .str s,b,h=>by
  cases b <;> simp only[ao.beq,decide_eq_true_eq,Bool.false_eq_true]at h
  rename_i s'
  congr 1
  cases s;cases s'
  simp only at h
  congr 1
  exact Array.ext' h
 | .sl xs,b,h=>by
  cases b <;> simp only[ao.beq,Bool.false_eq_true]at h
  rw[ao.beqL_eq _ _ h]
 | .agg xs,b,h=>by
  cases b <;> simp only[ao.beq,Bool.false_eq_true]at h
  rw[ao.beqL_eq _ _ h]
 | .ptr a,b,h=>by
  cases b <;> simp only[ao.beq,decide_eq_true_eq,Bool.false_eq_true]at h
  rw[h]
 | .map a,b,h=>by
  cases b <;> simp only[ao.beq,decide_eq_true_eq,Bool.false_eq_true]at h
  rw[h]
 | .fn f as bs,b,h=>by
  cases b <;> simp only[ao.beq,Bool.and_eq_true,decide_eq_true_eq,Bool.false_eq_true]at h
  rw[h.1.1,ao.beqL_eq _ _ h.1.2,ao.beqL_eq _ _ h.2]
 | .nilfn,b,h=>by
  cases b <;> simp only[ao.beq,Bool.false_eq_true]at h
  rfl
theorem ao.beqL_eq:∀ (a b:List ao),ao.beqL a b=true→a=b
 | [],b,h=>by
  cases b <;> simp only[ao.beqL,Bool.false_eq_true]at h
  rfl
 | x::xs,b,h=>by
  cases b <;> simp only[ao.beqL,Bool.and_eq_true,Bool.false_eq_true]at h
  rw[ao.beq_eq _ _ h.1,ao.beqL_eq _ _ h.2]
end
def CV.beq:CV→CV→Bool
 | .val a,.val b=>ao.beq a b
 | .nil,.nil=>true
 | .row k xs,.row k' ys=>decide (k=k')&&ao.beqL xs ys
 | .dead,.dead=>true
 | _,_=>false
theorem CV.beq_eq (a b:CV) (h:CV.beq a b=true):a=b:=by
 cases a <;> cases b <;> simp only[CV.beq,Bool.and_eq_true,decide_eq_true_eq,Bool.false_eq_true]at h
 ·rw[ao.beq_eq _ _ h]
 ·rfl
 ·rw[h.1,ao.beqL_eq _ _ h.2]
 ·rfl
def CV.beqL:List CV→List CV→Bool
 | [],[]=>true
 | x::xs,y::ys=>CV.beq x y&&CV.beqL xs ys
 | _,_=>false
theorem CV.beqL_eq:∀ (a b:List CV),CV.beqL a b=true→a=b
 | [],b,h=>by
  cases b <;> simp only[CV.beqL,Bool.false_eq_true]at h
  rfl
 | x::xs,b,h=>by
  cases b <;> simp only[CV.beqL,Bool.and_eq_true,Bool.false_eq_true]at h
  rw[CV.beq_eq _ _ h.1,CV.beqL_eq _ _ h.2]
def SV.beq:SV→SV→Bool
 | .cv a,.cv b=>CV.beq a b
 | .undef,.undef=>true
 | .alias r,.alias r'=>decide (r=r')
 | .imm xs,.imm ys=>ao.beqL xs ys
 | .elt r i o,.elt r' i' o'=>decide (r=r')&&decide (i=i')&&decide (o=o')
 | .bld xs,.bld ys=>CV.beqL xs ys
 | .tup xs,.tup ys=>ao.beqL xs ys
 | _,_=>false
theorem SV.beq_eq (a b:SV) (h:SV.beq a b=true):a=b:=by
 cases a <;> cases b <;> simp only[SV.beq,Bool.and_eq_true,decide_eq_true_eq,Bool.false_eq_true]at h
 ·rw[CV.beq_eq _ _ h]
 ·rfl
 ·rw[h]
 ·rw[ao.beqL_eq _ _ h]
 ·rw[h.1.1,h.1.2,h.2]
 ·rw[CV.beqL_eq _ _ h]
 ·rw[ao.beqL_eq _ _ h]
structure Ev where
 C:Ctx
 hand:FuncId→List SV→Option (List SV)
 plan:FuncId→Nat→Option (List Nat)
 fix:FuncId→Nat→St→List ec
 ext:FuncId→List ao→TypeId→List ao→Option (List ao)
 isExt:FuncId→Bool
structure avM (E:Ev):Prop where
 hand:∀ f a o h,E.hand f a=some o→E.C.hand f a h o h
 ext:∀ g ds k zs ys,E.ext g ds k zs=some ys→E.C.ext g ds k zs=some ys
abbrev qi:=FuncId→List SV→ax→Option (List SV×ax)
def avg (E:Ev) (s:St) (dst:Option Nat) (g:FuncId):List Operand→Option St
 | []=>none
 | x::xs=>(rootOf s x).bind fun r=>(s.rowAt r).bind fun p=>(optVals s xs).bind fun ds=>
   if ds.all ao.one then (E.ext g ds p.1 p.2).bind fun ys=>some ((s.eff (.setRow r p.1 ys)).put dst .undef)else none
def arP (E:Ev) (call:qi) (s:St) (dst:Option Nat) (f:Operand) (args:List Operand):Option St:=
 (callee s f).bind fun c=>
  if E.isExt c.1&&c.2.1.isEmpty&&c.2.2.isEmpty then avg E s dst c.1 args else
  (gV E.C c.1 s c.2.1.length args).bind fun r=>
   (match E.hand c.1 (jc c.2.1++r.1++jc c.2.2)with
    | some out=>some (out,(s.effs r.2).box)
    | none=>call c.1 (jc c.2.1++r.1++jc c.2.2) (s.effs r.2).box).bind fun q=>
     (packed q.1).bind fun v=>some (St.put ⟨cU SV.uncell (s.effs r.2).slots,q.2⟩ dst v)
def axI (P:Program) (s:St) (o:Oper):Option St:=
 match o.op with
 | .binOp .eql t x (.const (.slice none 0 0)) _=>match P.underlying t,optVal s x with
  | some (.slice _),some (.sl (_::_))=>some (s.put o.dst (.cv (.val (.bool false))))
  | _,_=>none
 | _=>none
def aef (E:Ev) (call:qi) (s:St) (o:Oper):Option St:=
 match o.op with
 | .call { callee:=.value f,args,.. }=>arP E call s o.dst f args.toList
 | _=>match aop E.C.P s o with
  | some r=>some ((s.effs r.2).put o.dst r.1)
  | none=>axI E.C.P s o
def anc (E:Ev) (call:qi) (ops:Array Oper):List Oper→St→Option St
 | [],s=>some s
 | o::os,s=>match guardOf ops s o with
  | none=>none
  | some true=>(aef E call s o).bind (anc E call ops os)
  | some false=>anc E call ops os (s.put o.dst .undef)
def yS (P:Program) (ops:Array Oper) (s:St) (i:Nat):Bool:=
 match ops[i]? with
 | none=>false
 | some o=>match o.dst with
  | none=>false
  | some d=>match guardOf ops s o with
   | none=>false
   | some true=>match aop P s o with
    | some (v,[])=>SV.beq v (s.get d)
    | _=>false
   | some false=>SV.beq (s.get d) .undef
def qu (E:Ev) (call:qi) (ops:Array Oper) (tab:List (Nat×Nat)):List Nat→List Nat→St→Option St
 | [],pend,s=>if pend.all (yS E.C.P ops s)then some s else none
 | i::rest,pend,s=>match ops[i]? with
  | none=>none
  | some o=>match guardOf ops s o with
   | none=>none
   | some b=>
    match pass o with
    | true=>match b with
     | true=>match aop E.C.P s o with
      | some (v,[])=>qu E call ops tab rest (i::pend) (s.put o.dst v)
      | _=>none
     | false=>qu E call ops tab rest (i::pend) (s.put o.dst .undef)
    | false=>if pend.all (yS E.C.P ops s)then match b with
      | true=>(aef E call s o).bind (qu E call ops tab rest (pend.filter fun p=>!(dN tab i).testBit p))
      | false=>qu E call ops tab rest (pend.filter fun p=>!(dN tab i).testBit p) (s.put o.dst .undef)
     else none
def wK (s:St):SV→Bool
 | .alias (.slot i)=>dt (s.get i)
 | .elt (.slot i) _ _=>dt (s.get i)
 | _=>true
def pL (s:St):List (Nat×SV)→Nat→List (Nat×SV)
 | [],_=>[]
 | (i,v)::l,seen=>if seen.testBit i then pL s l seen else if wK s v then (i,v)::pL s l (seen ||| (1 <<< i))else (i,.cv .dead)::pL s l (seen ||| (1 <<< i))
def trim (s:St):St:=⟨pL s s.slots 0,s.box⟩
def ae1 (body:St→Option (Ex×St)):Nat→St→Option (Ex×St)
 | 0,_=>none
 | n+1,s=>match body (trim s)with
  | some (.normal,s')=>ae1 body n s'
  | r=>r
def arO (s:St) (r:ec):St:=match s.rowAt r with
 | some (k,xs)=>s.eff (.fix r (.sl xs))
 | none=>s
def awE (s:St):List ec→St
 | []=>s
 | r::rs=>awE (arO s r) rs
def am0 (E:Ev) (f id:Nat) (ops:Array Oper):List Nat:=match E.plan f id with
 | some p=>p
 | none=>List.range ops.size
def fT (E:Ev) (call:qi) (f:FuncId) (n:Nat):Code→St→Option (Ex×St)
 | .skip,s=>some (.normal,s)
 | .region id ops false,s=>(anc E call ops ops.toList (awE s (E.fix f id s))).bind fun s'=>some (.normal,s')
 | .region id ops true,s=>if rW ops (am0 E f id ops)then (qu E call ops (dA ops (am0 E f id ops) []) (am0 E f id ops) [] (awE s (E.fix f id s))).bind fun s'=>some (.normal,s')else none
 | .seq a b,s=>match fT E call f n a s with
  | some (.normal,s')=>fT E call f n b s'
  | r=>r
 | .cond c a b,s=>match s.opv c with
  | .cv (.val (.bool true))=>fT E call f n a s
  | .cv (.val (.bool false))=>fT E call f n b s
  | _=>none
 | .block id c,s=>match fT E call f n c s with
  | some (.exit i,s')=>if i=id then some (.normal,s')else some (.exit i,s')
  | r=>r
 | .loop c,s=>ae1 (fT E call f n c) n s
 | .exit id,s=>some (.exit id,s)
 | .ret,s=>some (.ret,s)
 | _,_=>none
def anD (P:Program) (f:FuncId):Option (Func×Code):=
 match P.funcs[f]? with
 | none=>none
 | some fn=>match fn.body with
  | none=>none
  | some code=>if within fn.ntmps code&& !(fn.name== "runtime.NumGoroutine")then some (fn,code)else none
def uZ (E:Ev) (n:Nat):Nat→qi
 | 0,_,_,_=>none
 | k+1,f,args,h=>match anD E.C.P f with
  | none=>none
  | some (fn,code)=>if args.length≤fn.ntmps then match fT E (uZ E n k) f n code ⟨entry 0 args,h⟩ with
    | some (.exit _,_)=>none
    | some (_,s)=>results E.C f s fn.results.toList
    | none=>none
   else none
section
variable {E:Ev} {call:qi}
def ya (E:Ev) (call:qi):Prop:=∀ f a h o h',call f a h=some (o,h')→cp E.C f a h fun o1 h1=>o1=o∧h1=h'
theorem zC (hE:avM E) (hc:ya E call) {s s':St} {o:Oper} (h:aef E call s o=some s') {K:St→Prop} (hK:K s'):jQ E.C (cp E.C) s o K:=by
 unfold aef at h
 unfold jQ
 split at h
 ·rename_i f args _ heq
  simp only[heq]
  unfold arP at h
  simp only[Option.bind_eq_some_iff]at h
  obtain ⟨⟨g,fs,cs⟩,hcal,h⟩:=h
  simp only at h
  split at h
  ·rename_i hx
   simp only[Bool.and_eq_true,List.isEmpty_iff]at hx
   obtain ⟨⟨_,rfl⟩,rfl⟩:=hx
   left;right
   cases hargs:args.toList with
   | nil=>rw[hargs]at h;simp[avg]at h
   | cons x xs=>
    rw[hargs]at h
    simp only[avg,Option.bind_eq_some_iff]at h
    obtain ⟨r,h1,p,h2,ds,h3,h⟩:=h
    split at h
    ·rename_i hall
     simp only[Option.bind_eq_some_iff,sJ]at h
     obtain ⟨ys,h4,rfl⟩:=h
     exact ⟨g,x,xs,r,p.1,p.2,ds,ys,hcal,rfl,h1,h2,h3,hall,hE.ext _ _ _ _ _ h4,hK⟩
    ·cases h
  ·right
   simp only[Option.bind_eq_some_iff,sJ]at h
   obtain ⟨r,h1,⟨out,h'⟩,h2,v,h3,rfl⟩:=h
   refine ⟨g,fs,cs,r.1,r.2,hcal,h1,fun _=>?_⟩
   cases hh:E.hand g (jc fs++r.1++jc cs)with
   | some out'=>
    rw[hh]at h2
    simp only[sJ,pJ]at h2
    obtain ⟨rfl,rfl⟩:=h2
    exact cp.hand (hE.hand _ _ _ _ hh) ⟨v,h3,hK⟩
   | none=>
    rw[hh]at h2
    refine (hc _ _ _ _ _ h2).mono fun o1 h1 ⟨e1,e2⟩=>?_
    subst e1 e2
    exact ⟨v,h3,hK⟩
 ·rename_i hne
  split
  ·rename_i f args _ heq
   exact absurd heq (hne _ _ _)
  ·split at h
   ·rename_i r hr
    obtain rfl:=Option.some.inj h
    exact .inr ⟨r.1,r.2,hr,hK⟩
   ·left
    unfold axI at h
    split at h
    ·rename_i t x ty hop
     split at h
     ·rename_i e y ys hu hx
      obtain rfl:=Option.some.inj h
      exact ⟨t,x,ty,y::ys,e,hop,hu,hx,fun b hb=>by rw[hb (by simp)];exact hK⟩
     ·cases h
    ·cases h
theorem wa (hE:avM E) (hc:ya E call) {ops:Array Oper}:∀ (l:List Oper) {s s':St},anc E call ops l s=some s'→∀ {K:St→Prop},K s'→wpOps E.C (cp E.C) ops l K s
 | [],s,s',h,K,hK=>by obtain rfl:=Option.some.inj h;exact hK
 | o::os,s,s',h,K,hK=>by
  simp only[anc]at h
  split at h
  ·cases h
  ·rename_i hg
   simp only[Option.bind_eq_some_iff]at h
   obtain ⟨s1,h1,h2⟩:=h
   exact ⟨true,hg,fun _=>zC hE hc h1 (wa hE hc os h2 hK),fun e=>by cases e⟩
  ·rename_i hg
   exact ⟨false,hg,(fun e=>by cases e),fun _=>wa hE hc os h hK⟩
theorem ajD {P:Program} {ops:Array Oper} {s:St} {i:Nat} (h:yS P ops s i=true):pW P ops s i:=by
 unfold yS at h
 split at h
 ·cases h
 ·rename_i o ho
  split at h
  ·cases h
  ·rename_i d hd
   split at h
   ·cases h
   ·rename_i hg
    split at h
    ·rename_i v hv
     exact ⟨o,d,ho,hd,true,hg,fun _=>by rw[hv,SV.beq_eq _ _ h],fun e=>by cases e⟩
    ·cases h
   ·rename_i hg
    exact ⟨o,d,ho,hd,false,hg,(fun e=>by cases e),fun _=>SV.beq_eq _ _ h⟩
theorem zo {P:Program} {ops:Array Oper} {s:St} {pend:List Nat} (h:pend.all (yS P ops s)=true):∀ p∈pend,pW P ops s p:=fun p hp=>ajD (List.all_eq_true.1 h p hp)
theorem mj (hE:avM E) (hc:ya E call) {ops:Array Oper} {tab:List (Nat×Nat)}:∀ (l:List Nat) {pend:List Nat} {s s':St},qu E call ops tab l pend s=some s'→∀ {K:St→Prop},K s'→cN E.C (cp E.C) ops tab pend l K s
 | [],pend,s,s',h,K,hK=>by
  simp only[qu]at h
  split at h
  ·rename_i ha
   obtain rfl:=Option.some.inj h
   exact ⟨zo ha,hK⟩
  ·cases h
 | i::rest,pend,s,s',h,K,hK=>by
  simp only[qu]at h
  simp only[cN]
  split at h
  ·cases h
  ·rename_i o ho
   refine ⟨o,ho,?_⟩
   split at h
   ·cases h
   ·rename_i b hg
    cases hp:pass o with
    | true=>
     rw[hp]at h
     cases b with
     | true=>
      simp only at h
      split at h
      ·rename_i v hv
       exact ⟨true,hg,fun _=>⟨v,hv,mj hE hc rest h hK⟩,fun e=>by cases e⟩
      ·cases h
     | false=>exact ⟨false,hg,(fun e=>by cases e),fun _=>mj hE hc rest h hK⟩
    | false=>
     rw[hp]at h
     simp only at h
     split at h
     ·rename_i ha
      refine ⟨zo ha,?_⟩
      cases b with
      | true=>
       simp only[Option.bind_eq_some_iff]at h
       obtain ⟨s1,h1,h2⟩:=h
       exact ⟨true,hg,fun _=>zC hE hc h1 (mj hE hc rest h2 hK),fun e=>by cases e⟩
      | false=>exact ⟨false,hg,(fun e=>by cases e),fun _=>mj hE hc rest h hK⟩
     ·cases h
theorem arB {seen i j:Nat}:(seen ||| (1 <<< i)).testBit j=(seen.testBit j||decide (i=j)):=by
 rw[Nat.testBit_or,Nat.one_shiftLeft]
 by_cases h:i=j
 ·subst h;simp[Nat.testBit_two_pow_self]
 ·rw[Nat.testBit_two_pow_of_ne h];simp[h]
theorem aff {s:St}:∀ (l:List (Nat×SV)) (seen:Nat),∀ p∈pL s l seen,seen.testBit p.1=false∧(p.2= .cv .dead∨p.2=look l p.1∧wK s p.2=true)
 | [],_,p,hp=>by simp[pL]at hp
 | (i,v)::l,seen,p,hp=>by
  simp only[pL]at hp
  have tail:∀ seen':Nat,p∈pL s l seen'→(seen'.testBit p.1=false→i≠p.1∧seen.testBit p.1=false)→seen.testBit p.1=false∧(p.2= .cv .dead∨p.2=look ((i,v)::l) p.1∧wK s p.2=true):=fun seen' hm hi=>by
   obtain ⟨h1,h2⟩:=aff l seen' p hm
   obtain ⟨h3,h4⟩:=hi h1
   refine ⟨h4,h2.imp id fun h=>⟨?_,h.2⟩⟩
   simp only[look]
   rw[if_neg h3];exact h.1
  have cons:∀ h:(seen ||| (1 <<< i)).testBit p.1=false,i≠p.1∧seen.testBit p.1=false:=fun h=>by
   rw[arB,Bool.or_eq_false_iff]at h
   exact ⟨by simpa using h.2,h.1⟩
  split at hp
  ·rename_i hs
   refine tail seen hp fun h=>⟨fun e=>?_,h⟩
   rw[← e,hs]at h;cases h
  ·rename_i hs
   split at hp
   ·rename_i hr
    rcases List.mem_cons.1 hp with rfl | hp
    ·exact ⟨by simpa using hs,.inr ⟨by simp[look],hr⟩⟩
    ·exact tail _ hp cons
   ·rcases List.mem_cons.1 hp with rfl | hp
    ·exact ⟨by simpa using hs,.inl rfl⟩
    ·exact tail _ hp cons
theorem agR {s:St} {v:SV} (h:dt v=true):wK s v=true:=by
 cases v with
 | cv c=>rfl
 | alias r=>cases h
 | elt r i o=>cases h
 | _=>rfl
theorem rk {s:St} {j:Nat}:∀ (l:List (Nat×SV)) (seen:Nat),dt (look l j)=true→seen.testBit j=false→look (pL s l seen) j=look l j
 | [],_,h,_=>by simp[look,dt]at h
 | (i,v)::l,seen,h,hs=>by
  simp only[look]at h ⊢
  simp only[pL]
  by_cases e:i=j
  ·subst e
   rw[if_pos rfl]at h ⊢
   rw[hs,if_neg (by simp),if_pos (agR h)]
   simp[look]
  ·rw[if_neg e]at h ⊢
   split
   ·exact rk l seen h hs
   ·have hs2:(seen ||| (1 <<< i)).testBit j=false:=by rw[arB,hs];simp[e]
    split
    ·simp only[look];rw[if_neg e];exact rk l _ h hs2
    ·simp only[look];rw[if_neg e];exact rk l _ h hs2
theorem ake {m:Nat} (s:St):St.To m s (trim s):=by
 refine St.To.weak s (trim s) (pL s s.slots 0) (fun p hp=>?_) (.refl _)
 obtain ⟨_,h⟩:=aff s.slots 0 p hp
 rcases h with h | ⟨h,hr⟩
 ·rw[h]
  exact ⟨by cases s.get p.1 <;> simp[SV.fits],by trivial⟩
 ·refine ⟨?_,?_⟩
  ·have e:s.get p.1=p.2:=h.symm
   rw[e];exact sB _
  ·have hrow:∀ i,dt (s.get i)=true→dt (St.get ⟨pL s s.slots 0,s.box⟩ i)=true:=fun i hi=>by
    show dt (look (pL s s.slots 0) i)=true
    rw[rk s.slots 0 hi (by simp)];exact hi
   generalize p.2=v at hr
   cases v with
   | alias r=>cases r with
    | slot i=>exact hrow i hr
    | cell l i=>trivial
   | elt r i o=>cases r with
    | slot i=>exact hrow i hr
    | cell l i=>trivial
   | _=>trivial
theorem vl {m:Nat}:∀ (rs:List ec) (s:St),St.To m s (awE s rs)
 | [],s=>.refl s
 | r::rs,s=>by
  simp only[awE,arO]
  split
  ·rename_i k xs h
   exact .fix s _ r k xs h (vl rs _)
  ·exact vl rs s
theorem zq {m:Nat} {c:Code} {b:St→Option (Ex×St)} (hb:∀ s ex s',b s=some (ex,s')→∀ Q:Ex→St→Prop,Q ex s'→aR E.C (cp E.C) m c Q s):∀ (n:Nat) (s:St) (ex:Ex) (s':St),ae1 b n s=some (ex,s')→∀ Q:Ex→St→Prop,Q ex s'→lN m (aR E.C (cp E.C) m c) Q s
 | 0,s,ex,s',h,Q,hQ=>by cases h
 | n+1,s,ex,s',h,Q,hQ=>by
  simp only[ae1]at h
  split at h
  ·rename_i s1 h1
   exact lN.step (trim s) (ake s) (hb _ _ _ h1 _ (zq hb n s1 ex s' h Q hQ))
  ·rename_i hne
   refine lN.step (trim s) (ake s) (hb _ _ _ h _ ?_)
   cases ex with
   | normal=>exact absurd h (hne s')
   | exit i=>exact hQ
   | ret=>exact hQ
theorem il (hE:avM E) (hc:ya E call) {f n m:Nat}:∀ (c:Code) (s:St) (ex:Ex) (s':St),fT E call f n c s=some (ex,s')→∀ Q:Ex→St→Prop,Q ex s'→aR E.C (cp E.C) m c Q s
 | .skip,s,ex,s',h,Q,hQ=>by
  simp only[fT,sJ,pJ]at h
  obtain ⟨rfl,rfl⟩:=h;exact hQ
 | .region id ops false,s,ex,s',h,Q,hQ=>by
  simp only[fT,Option.bind_eq_some_iff,sJ,pJ]at h
  obtain ⟨s1,h1,rfl,rfl⟩:=h
  exact ⟨_,vl _ s,wa hE hc _ h1 hQ⟩
 | .region id ops true,s,ex,s',h,Q,hQ=>by
  simp only[fT]at h
  split at h
  ·rename_i hp
   simp only[Option.bind_eq_some_iff,sJ,pJ]at h
   obtain ⟨s1,h1,rfl,rfl⟩:=h
   exact ⟨_,_,vl _ s,.inl ⟨hp,mj hE hc _ h1 hQ⟩⟩
  ·cases h
 | .seq a b,s,ex,s',h,Q,hQ=>by
  simp only[fT]at h
  split at h
  ·rename_i s1 h1
   exact il hE hc a s _ _ h1 _ ⟨s1,.refl s1,il hE hc b s1 ex s' h Q hQ⟩
  ·rename_i hne
   refine il hE hc a s ex s' h _ ?_
   cases ex with
   | normal=>exact absurd h (hne s')
   | exit i=>exact hQ
   | ret=>exact hQ
 | .cond c a b,s,ex,s',h,Q,hQ=>by
  simp only[fT]at h
  split at h
  ·rename_i ho
   exact ⟨true,ho,fun _=>il hE hc a s ex s' h Q hQ,fun e=>by cases e⟩
  ·rename_i ho
   exact ⟨false,ho,(fun e=>by cases e),fun _=>il hE hc b s ex s' h Q hQ⟩
  ·cases h
 | .block id c,s,ex,s',h,Q,hQ=>by
  simp only[fT]at h
  split at h
  ·rename_i i s1 h1
   refine il hE hc c s _ _ h1 _ ?_
   simp only[Ex.inBlock]
   split at h
   ·rename_i hi
    simp only[sJ,pJ]at h
    obtain ⟨rfl,rfl⟩:=h
    rw[if_pos hi];exact hQ
   ·rename_i hi
    simp only[sJ,pJ]at h
    obtain ⟨rfl,rfl⟩:=h
    rw[if_neg hi];exact hQ
  ·rename_i hne
   refine il hE hc c s ex s' h _ ?_
   cases ex with
   | exit i=>exact absurd h (hne i s')
   | normal=>exact hQ
   | ret=>exact hQ
 | .loop c,s,ex,s',h,Q,hQ=>by
  simp only[fT]at h
  exact zq (fun s ex s' h Q hQ=>il hE hc c s ex s' h Q hQ) n s ex s' h Q hQ
 | .exit id,s,ex,s',h,Q,hQ=>by
  simp only[fT,sJ,pJ]at h
  obtain ⟨rfl,rfl⟩:=h;exact hQ
 | .ret,s,ex,s',h,Q,hQ=>by
  simp only[fT,sJ,pJ]at h
  obtain ⟨rfl,rfl⟩:=h;exact hQ
 | .scope ..,s,ex,s',h,Q,hQ=>by simp[fT]at h
 | .label ..,s,ex,s',h,Q,hQ=>by simp[fT]at h
 | .goto ..,s,ex,s',h,Q,hQ=>by simp[fT]at h
 | .refuse ..,s,ex,s',h,Q,hQ=>by simp[fT]at h
 | .rangeFunc ..,s,ex,s',h,Q,hQ=>by simp[fT]at h
theorem amE {P:Program} {f:FuncId} {fn:Func} {code:Code} (h:anD P f=some (fn,code)):P.funcs[f]? =some fn∧fn.body=some code∧within fn.ntmps code=true∧(fn.name== "runtime.NumGoroutine")=false:=by
 unfold anD at h
 split at h
 ·cases h
 ·rename_i fn' h1
  split at h
  ·cases h
  ·rename_i code' h2
   split at h
   ·rename_i h3
    simp only[sJ,pJ]at h
    obtain ⟨rfl,rfl⟩:=h
    rw[Bool.and_eq_true,Bool.not_eq_true']at h3
    exact ⟨h1,h2,h3.1,h3.2⟩
   ·cases h
theorem aea (hE:avM E) {n:Nat}:∀ k,ya E (uZ E n k)
 | 0=>fun f a h o h' he=>by cases he
 | k+1=>fun f a h o h' he=>by
  simp only[uZ]at he
  split at he
  ·cases he
  ·rename_i fn code hco
   obtain ⟨h1,h2,h3,h4⟩:=amE hco
   split at he
   ·rename_i hlen
    refine cp.intro fn code h1 h2 hlen h3 h4 fun _ _=>?_
    split at he
    ·cases he
    ·rename_i ex s hne hev
     refine il hE (aea hE k) code _ ex s hev _ ?_
     cases ex with
     | exit i=>exact absurd rfl (hne i)
     | normal=>exact ⟨s,.refl s,o,h',he,h',.inl rfl,rfl,rfl⟩
     | ret=>exact ⟨s,.refl s,o,h',he,h',.inl rfl,rfl,rfl⟩
    ·cases he
   ·cases he
end
def Gh.none (G:Gh):Gh:=⟨G.P,fun b=>match G.g b with | .imm=>.imm | _=>.other,G.ι,0⟩
theorem afh (G:Gh) (b:Nat):(G.none.g b= .imm∧G.g b= .imm)∨G.none.g b= .other:=by
 simp only[Gh.none]
 cases h:G.g b <;> simp
theorem uF {n:Nat}:∀ {xs ys:List ao},bG n xs→bG n ys→bG n (xs++ys)
 | [],_,_,h=>h
 | x::xs,_,h1,h2=>⟨h1.1,uF h1.2 h2⟩
theorem xA {n:Nat} {d:ao} (h:d.under n):bG n d.cells:=by
 cases d <;> first | exact h | exact ⟨h,trivial⟩
theorem xL {n:Nat}:∀ {xs:List ao},bG n xs→bG n (bh xs)
 | [],_=>trivial
 | x::xs,h=>by
  show bG n (x.cells++bh xs)
  exact uF (xA h.1) (xL h.2)
structure Flat (w:World) (G:Gh) (w':World) (G':Gh):Prop where
 g:∀ b,G.g b= .imm→b < w.heap.size→G'.g b= .imm∧w'.heap[b]? =w.heap[b]?
 size:w.heap.size≤w'.heap.size
mutual
theorem cC.flat {w w':World} {G G':Gh} (M:Flat w G w' G'):∀ {d:ao} {v:Value},cC w G d v→d.under 0→cC w' G' d v
 | _,_,.int k n,_=>.int k n
 | _,_,.bool b,_=>.bool b
 | _,_,.str s,_=>.str s
 | _,_,.agg cs vs h,hu=>.agg cs vs (bO.flat M h hu)
 | _,_,.nilptr,_=>.nilptr
 | _,_,.ptr l off h,hu=>absurd hu (Nat.not_lt_zero _)
 | _,_,.nilmap,_=>.nilmap
 | _,_,.map l h,hu=>absurd hu (Nat.not_lt_zero _)
 | _,_,.nilfn,_=>.nilfn
 | _,_,.fn f as bs us vs h1 h2,hu=>.fn f as bs us vs (bO.flat M h1 hu.1) (bO.flat M h2 hu.2)
 | _,_,.nilsl a cap,_=>.nilsl a cap
 | _,_,.sl xs ad cap k vs hne hcap hg hb hs hk hr hc,hu=>.sl xs ad cap k vs hne hcap (M.g _ hg hb).1 (Nat.lt_of_lt_of_le hb M.size) hs hk (bO.flat M hr (xL hu)) (hc.mono fun h=>(M.g _ hg h).2)
theorem bO.flat {w w':World} {G G':Gh} (M:Flat w G w' G'):∀ {ds:List ao} {vs:List Value},bO w G ds vs→bG 0 ds→bO w' G' ds vs
 | _,_,.nil,_=>.nil
 | _,_,.cons d v ds vs h1 h2 h3,hu=>.cons d v ds vs h1 (cC.flat M h2 hu.1) (bO.flat M h3 hu.2)
end
def wl:SV→Prop
 | .cv (.val d)=>d.under 0
 | _=>False
theorem di.flat {w w':World} {G G':Gh} (M:Flat w G w' G'):∀ {os:List SV} {vs:List Value},di w G os vs→(∀ o∈os,wl o)→di w' G' os vs
 | _,_,.nil,_=>.nil
 | _,_,.cons c v os vs h1 h2,hu=>by
  have hc:=hu (.cv c) (by simp)
  refine .cons c v os vs ?_ (di.flat M h2 (fun o ho=>hu o (List.mem_cons_of_mem _ ho)))
  cases c with
  | val d=>exact cC.flat M h1 hc
  | nil=>exact hc.elim
  | row k xs=>exact hc.elim
  | dead=>exact hc.elim
theorem cX.flat {w w':World} {G G':Gh} (M:Flat w G w' G') {t:Nat→Tag}:∀ {i:Nat} {as:List SV} {vs:List Value},cX w G t i as vs→(∀ o∈as,wl o)→cX w' G' t i as vs
 | _,_,_,.nil i,_=>.nil i
 | _,_,_,.cons i c v as vs h1 h2,hu=>by
  have hc:=hu (.cv c) (by simp)
  refine .cons i c v as vs ?_ (cX.flat M h2 (fun o ho=>hu o (List.mem_cons_of_mem _ ho)))
  cases c with
  | val d=>exact cC.flat M h1 hc
  | nil=>exact hc.elim
  | row k xs=>exact hc.elim
  | dead=>exact hc.elim
theorem za {P:Program} {f:FuncId} {args out:List SV} {Q:List SV→ax→Prop} (h0:eG P f args ⟨0,fun _=>.none⟩ Q) (hQ:∀ o h,Q o h→o=out) (ha:∀ o∈args,wl o) (ho:∀ o∈out,wl o) (h:ax):eG P f args h fun o h'=>o=out∧h'=h:=by
 obtain ⟨hent,hrun⟩:=h0
 refine ⟨hent,fun w G vs hP hargs hh hf=>?_⟩
 have F0:Flat w G w G.none:=⟨fun b hb _=>⟨by simp only[Gh.none,hb],rfl⟩,Nat.le_refl _⟩
 refine (hrun w G.none vs hP (cX.flat F0 hargs ha) ⟨rfl,fun l o e=>by cases e⟩ (fun b hb=>by simp only[Gh.none,hf b hb])).mono fun e w' ⟨us,o,h1,G1,he,hq,hro,hrh,hfr,hk⟩=>?_
 obtain rfl:=hQ _ _ hq
 have hheap:∀ b,b < w.heap.size→w'.heap[b]? =w.heap[b]? :=fun b hb=>by
  rcases afh G b with ⟨e,_⟩ | e
  ·exact (hk.imm b e hb).2
  ·exact (hk.other b e hb).2
 have hgr:iq w G w' ⟨G.P,fun b=>if b < w.heap.size then G.g b else match G1.g b with | .imm=>.imm | _=>.other,G.ι,G.n⟩:={
  os:=hk.os
  tape:=hk.tape
  output:=hk.output
  size:=hk.size
  heap:=hheap
  g:=fun b hb=>by simp only;rw[if_pos hb]
  fresh:=fun b hb=>by
   simp only
   rw[if_neg (by have:=hk.size;omega),hfr b hb]
  n:=Nat.le_refl _
  ι:=fun _ _=>rfl
  P:=rfl }
 have F1:Flat w' G1 w' ⟨G.P,fun b=>if b < w.heap.size then G.g b else match G1.g b with | .imm=>.imm | _=>.other,G.ι,G.n⟩:=⟨fun b hb hl=>⟨by
  simp only
  by_cases hlt:b < w.heap.size
  ·rw[if_pos hlt]
   rcases afh G b with ⟨_,e⟩ | e
   ·exact e
   ·have:=(hk.other b e hlt).1
    rw[hb]at this;cases this
  ·rw[if_neg hlt,hb],rfl⟩,Nat.le_refl _⟩
 exact ⟨us,_,h,_,he,⟨rfl,rfl⟩,di.flat F1 hro ho,hgr.heapH rfl hh,hgr.fresh,hgr.kept⟩
variable {C:Ctx} {s:St}
theorem arf {h:ax} {la lb:Nat} {o o':bI} (hn:la≠lb) (ha:h.at_ lb=some o):(h.upd la o').upd lb o=h.upd la o':=by rw[← oN hn,eM ha]
theorem abz {h:ax} {l:Nat} {o:bI} (hl:l < h.n) (ha:h.at_ l=some o):(∀ os o',(h.on os).upd l o'=(h.upd l o').on os)∧(∀ os l' o',((h.upd l' o').on os).at_ l=(h.upd l' o').at_ l)∧(∀ os l' o o',((h.upd l' o').on os).upd l o=((h.upd l' o').upd l o).on os)∧h.upd l o=h∧
  (∀ os l' l2 o o2,(((h.upd l' o).upd l2 o2).on os).at_ l=((h.upd l' o).upd l2 o2).at_ l)∧∀ os l' l2 o o' o2,(((h.upd l' o').upd l2 o2).on os).upd l o=(((h.upd l' o').upd l2 o2).upd l o).on os:=
 ⟨fun _ _=>fJ hl,fun _ _ _=>jp hl,fun _ _ _ _=>gx hl,eM ha,fun _ _ _ _ _=>nR hl,fun _ _ _ _ _ _=>kY hl⟩
theorem ajm {la lb:Nat} (hn:la≠lb):(∀ (h:ax) (o:bI),(h.upd lb o).at_ la=h.at_ la)∧(∀ (h:ax) (o:bI),(h.upd la o).at_ lb=h.at_ lb)∧∀ (h:ax) (o o':bI),(h.upd lb o).upd la o'=(h.upd la o').upd lb o:=
 ⟨fun _ _=>qE hn,fun _ _=>qE (Ne.symm hn),fun _ _ _=>oN hn⟩
theorem axQ {h:ax} {la lb:Nat} {o:bI} (hn:la≠lb) (ha:h.at_ lb=some o):∀ o',(h.upd la o').upd lb o=h.upd la o':=fun _=>arf hn ha
theorem pk {a b:Nat} (h:a≠b:=by first | omega | assumption | exact Ne.symm (by assumption)):a≠b:=h
theorem eW {h:ax} {l:Nat} {o:bI} (hwf:h.WF) (hl:l < h.n) (ho:o.under h.n:=by exact cE):(h.upd l o).WF:=WF.upd hwf hl ho
section
variable {R:cR} {ops:Array Oper} {tab:List (Nat×Nat)} {K:St→Prop} {pend rest:List Nat} {s':St} {i:Nat}
theorem dp (pend':List Nat) (hk:cN C R ops tab pend' rest K s') (hp:ops[i]?.map pass=some false:=by rfl) (hh:ni C.P ops s pend:=by exact cE) (h:am8 C.P ops s ops[i]? =some s':=by exact pw) (hf:(pend.filter fun p=>!(dN tab i).testBit p)=pend':=by rfl):cN C R ops tab pend (i::rest) K s:=awl hp hh h hf hk
theorem bV (l pend':List Nat) (hk:cN C R ops tab pend' rest K s') (h:lc C.P ops l s=some s':=by exact pw) (hp:l.reverse++pend=pend':=by rfl):cN C R ops tab pend (l++rest) K s:=aqi h hp hk
theorem dw (hk:K s) (hh:ni C.P ops s pend:=by exact cE):cN C R ops tab pend [] K s:=aqQ hh hk
theorem dI (pend':List Nat) {dst:Option Tmp} {ty:TypeId} {pos:String} {after:Array Edge} {f:Operand} {args:Array Operand} {ts:Array TypeId} {gd:Option (Nat×Bool)}
  {g:FuncId} {fs cs:List ao} {as:List SV} {es:List Eff} {s1:St} {out:List SV} {hp:ax}
  (h4:cp C g (jc fs++as++jc cs) s1.box fun o h'=>o=out∧h'=hp) (h5:(packed out).isSome=true) (hk:cN C (cp C) ops tab pend' rest K (St.put ⟨cU SV.uncell s1.slots,hp⟩ dst ((packed out).getD .undef)))
  (ho:ops[i]? =some ⟨dst,.call ⟨.value f,args,ts⟩,ty,pos,after,gd⟩:=by rfl) (hh:ni C.P ops s pend:=by simp (disch:=(apply bJ.mk;decide)) only[go_sem,Nat.reduceAdd,Nat.reduceLT,Nat.reduceMul,Nat.reduceLeDiff,Int.reduceToNat,Int.reduceLT,Int.reduceLE,Option.getD_some, *]) (h0:guardOf ops s ⟨dst,.call ⟨.value f,args,ts⟩,ty,pos,after,gd⟩=some true:=by first | rfl | (simp (disch:=(apply bJ.mk;decide)) only[go_sem,Nat.reduceAdd,Nat.reduceLT,Nat.reduceMul,Nat.reduceLeDiff,Int.reduceToNat,Int.reduceLT,Int.reduceLE,Option.getD_some, *]))
  (h1:callee s f=some (g,fs,cs):=by simp (disch:=(apply bJ.mk;decide)) only[go_sem,Nat.reduceAdd,Nat.reduceLT,Nat.reduceMul,Nat.reduceLeDiff,Int.reduceToNat,Int.reduceLT,Int.reduceLE,Option.getD_some, *];rfl) (h2:gV C g s fs.length args.toList=some (as,es):=by simp (disch:=(apply bJ.mk;decide)) only[go_sem,Nat.reduceAdd,Nat.reduceLT,Nat.reduceMul,Nat.reduceLeDiff,Int.reduceToNat,Int.reduceLT,Int.reduceLE,Option.getD_some, *];rfl) (h3:s.effs es=s1:=by simp (disch:=(apply bJ.mk;decide)) only[go_sem,Nat.reduceAdd,Nat.reduceLT,Nat.reduceMul,Nat.reduceLeDiff,Int.reduceToNat,Int.reduceLT,Int.reduceLE,Option.getD_some, *];rfl) (hf:(pend.filter fun p=>!(dN tab i).testBit p)=pend':=by rfl):
  cN C (cp C) ops tab pend (i::rest) K s:=awa ho hh h0 h1 h2 h3 hf h4 h5 hk
end
def az2 (l:Nat) (kt:TypeId) (k z:ao):Option (List (ao×ao))→Option Out
 | some en=>some (.tup [(eH k en).getD z,.int .i64 (sh k en)],[.setMap l kt (nf k ((eH k en).getD z) en)])
 | none=>none
def meD (s:St) (kt:TypeId) (k z:ao):ao→Option Out
 | .map (some l)=>az2 l kt k z (mapAt s kt (.map (some l)))
 | _=>none
def meK (P:Program) (s:St) (kt:TypeId):Option ao→Option ao→Option TypeDesc→Option ao→Option Out
 | some d,some k,some td,some z=>if isKey P kt td k=true then meD s kt k z d else none
 | _,_,_,_=>none
def ayM (P:Program) (s:St) (x k:Operand):Option TypeDesc→Option Out
 | some (.map kt e)=>meK P s kt (optVal s x) (optVal s k) (P.underlying kt) (kl P e)
 | _=>none
def azj (l:Nat) (v:ao) (es:List Eff) (n:Int):Option bI→Option Out
 | some (.map kt en)=>if n.toNat < en.length∧0≤n then some (.undef,es++[.setMap l kt (en.set n.toNat ((en.getD n.toNat default).1,v))])else none
 | _=>none
def esD (s:St):Option ao→Option (IntKind×Int)→Option (ao×List Eff)→Option Out
 | some (.map (some l)),some (_,n),some (v,es)=>azj l v es n (s.box.at_ l)
 | _,_,_=>none
section
variable {P:Program} {s:St}
theorem wQ {t:TypeId} {x y:Operand}:mapEntryOp P s t x y=ayM P s x y (P.underlying t):=by
 unfold mapEntryOp
 cases P.underlying t with
 | none=>rfl
 | some td=>
  cases td
  case map kt e=>
   simp only[ayM]
   cases optVal s x with
   | none=>rfl
   | some d=>
    cases optVal s y with
    | none=>rfl
    | some k=>
     cases P.underlying kt with
     | none=>rfl
     | some td=>
      cases kl P e with
      | none=>rfl
      | some z=>
       simp only[oB,meK]
       split
       ·cases d with
        | map r=>
         cases r with
         | none=>rfl
         | some l=>simp only[meD];cases mapAt s kt (.map (some l)) <;> rfl
        | _=>rfl
       ·rfl
  all_goals rfl
theorem tp {x n y:Operand}:entryStoreOp P s x n y=esD s (optVal s x) (s.asInt n) (s.asVal y):=by
 unfold entryStoreOp
 cases optVal s x with
 | none=>rfl
 | some d=>
  cases s.asInt n with
  | none=>cases d <;> first | rfl | (rename_i r;cases r <;> rfl)
  | some m=>
   cases s.asVal y with
   | none=>cases d <;> first | rfl | (rename_i r;cases r <;> rfl)
   | some v=>
    cases d with
    | map r=>
     cases r with
     | none=>rfl
     | some l=>
      simp only[oB,esD]
      cases s.box.at_ l with
      | none=>rfl
      | some o=>cases o <;> rfl
    | _=>rfl
end
section
variable {P:Program} {s:St} {dst:Option Tmp} {ty:TypeId} {pos:String} {after:Array Edge} {g:Option (Nat×Bool)}
theorem ahV {t:TypeId} {x k:Operand}:aop P s ⟨dst,.mapEntry t x k,ty,pos,after,g⟩=ayM P s x k (P.underlying t):=wQ
theorem zy {t:TypeId} {x n v:Operand}:aop P s ⟨dst,.entryStore t x n v,ty,pos,after,g⟩=esD s (optVal s x) (s.asInt n) (s.asVal v):=tp (P:=P)
end
def aoi {K V:Type} [DecidableEq K] (k:K):List (K×V)→Nat
 | []=>0
 | (k',_)::es=>if k=k' then 0 else aoi k es+1
theorem ajt {V:Type} {d:V→ao} {k:Int}:∀ {es:List (Int×V)},sh (.int .i64 k) (eZ eI d es)=aoi k es
 | []=>rfl
 | (k',v)::es=>by
  have ih:=ajt (d:=d) (k:=k) (es:=es)
  show (if ir (.int .i64 k) (eI k')=true then 0 else sh (.int .i64 k) (eZ eI d es)+1)=_
  rw[ih]
  simp[aoi,ir,eI]
theorem xF {k v w:Int}:∀ {es:List (Int×Int)},∃ e,(eZ eI eI (iW k w es))[aoi k es]? =some e∧(eZ eI eI (iW k w es)).set (aoi k es) (e.1,.int .i64 v)=eZ eI eI (iW k v es)
 | []=>⟨(.int .i64 k,.int .i64 w),rfl,rfl⟩
 | (k',u)::es=>by
  by_cases h:k=k'
  ·subst h
   exact ⟨(.int .i64 k,.int .i64 w),by simp[iW,aoi,eZ,eI],by simp[iW,aoi,eZ,eI]⟩
  ·obtain ⟨e,h1,h2⟩:=xF (k:=k) (v:=v) (w:=w) (es:=es)
   refine ⟨e,?_,?_⟩
   ·simp only[iW,aoi,if_neg h,eZ,List.map_cons,List.getElem?_cons_succ];exact h1
   ·simp only[iW,aoi,if_neg h,eZ,List.map_cons,List.set_cons_succ];exact congrArg _ h2
theorem azN {l:Nat} {kt:TypeId} {k v w:Int} {es:List (Int×Int)} {e0:List Eff}:azj l (.int .i64 v) e0 ((aoi k es:Nat):Int) (some (.map kt (eZ eI eI (iW k w es))))=some (.undef,e0++[.setMap l kt (eZ eI eI (iW k v es))]):=by
 obtain ⟨e,h1,h2⟩:=xF (k:=k) (v:=v) (w:=w) (es:=es)
 simp only[azj,Int.toNat_natCast]
 rw[if_pos ⟨(List.getElem?_eq_some_iff.1 h1).1,by omega⟩,gD,h1,Option.getD_some,h2]
attribute [go_sem] decide_false ahV zy ayM.eq_1 meK.eq_1 meD.eq_1 az2.eq_1 esD.eq_1 ajt azN
theorem arK {C:Ctx} {s:St} {ops:Array Oper} {tab:List (Nat×Nat)} {K:St→Prop} {pend rest pend':List Nat} {i:Nat} {dst:Option Tmp} {ty:TypeId} {pos:String} {after:Array Edge} {f:Operand} {args:Array Operand} {ts:Array TypeId} {gd:Option (Nat×Bool)}
  {g:FuncId} {fs cs ds:List ao} {out:List SV} (ho:ops[i]? =some ⟨dst,.call ⟨.value f,args,ts⟩,ty,pos,after,gd⟩) (hh:ni C.P ops s pend) (h0:guardOf ops s ⟨dst,.call ⟨.value f,args,ts⟩,ty,pos,after,gd⟩=some true)
  (h1:callee s f=some (g,fs,cs)) (h2:lV s args.toList=some ds) (hf:(pend.filter fun p=>!(dN tab i).testBit p)=pend') (hb:args.toList.all (sb s)=true)
  (h4:cp C g (jc fs++jc ds++jc cs) s.box.shut fun o h'=>o=out∧h'=s.box.shut) (h5:(packed out).isSome=true) (hk:cN C (cp C) ops tab pend' rest K (s.put dst ((packed out).getD .undef))):
  cN C (cp C) ops tab pend (i::rest) K s:=by
 subst hf
 simp only[cN]
 refine ⟨_,ho,?_⟩
 simp only[pass]
 refine ⟨ko hh,true,h0,fun _=>.inl (.inl (.inl ⟨g,fs,cs,ds,false,h1,h2,fun _=>hb,h4.mono fun o h' ⟨e1,e2⟩=>?_⟩)),fun e=>by cases e⟩
 subst e1
 cases hpk:packed o with
 | none=>rw[hpk]at h5;cases h5
 | some v=>exact ⟨v,rfl,⟨(fun e=>by cases e),fun _=>e2⟩,by rw[hpk]at hk;exact hk⟩
def auu:SV→Bool
 | .cv (.val _)=>true
 | .cv .nil=>true
 | _=>false
theorem ale {s:St} {x:Operand}:sb s x=auu (s.opv x):=by
 unfold sb
 cases s.opv x with
 | cv c=>cases c <;> rfl
 | _=>rfl
theorem aod {d:ao}:auu (.cv (.val d))=true:=rfl
theorem akN:auu (.cv .nil)=true:=rfl
attribute [go_sem] ale aod akN
theorem vv {n a b i j:Nat} (h:bJ a b):ec.cell (n+b) j≠ec.cell (n+a) i:=by
 intro e
 simp only[ec.cell.injEq]at e
 exact h.ne (by omega)
theorem atC {n a b i j:Nat} (h:bJ a b):SV.unal (.cell (n+a) i) (.alias (.cell (n+b) j))= .alias (.cell (n+b) j):=by
 simp only[SV.unal,SV.drop];rw[if_neg (fun e=>vv (n:=n) (i:=i) (j:=j) h (by simpa using e))]
theorem aqt {n a b i j x y:Nat} (h:bJ a b):SV.unal (.cell (n+a) i) (.elt (.cell (n+b) j) x y)= .elt (.cell (n+b) j) x y:=by
 simp only[SV.unal,SV.drop];rw[if_neg (fun e=>vv (n:=n) (i:=i) (j:=j) h (by simpa using e))]
theorem aoq {n a b i j:Nat} {d:ao} (h:bJ a b):SV.refix (.cell (n+a) i) d (.alias (.cell (n+b) j))= .alias (.cell (n+b) j):=by
 simp only[SV.refix];rw[if_neg (fun e=>vv (n:=n) (i:=i) (j:=j) h (by simpa using e))]
theorem ame {n a b i j x y:Nat} {d:ao} (h:bJ a b):SV.refix (.cell (n+a) i) d (.elt (.cell (n+b) j) x y)= .elt (.cell (n+b) j) x y:=by
 simp only[SV.refix];rw[if_neg (fun e=>vv (n:=n) (i:=i) (j:=j) h (by simpa using e))]
attribute [go_sem] atC aqt aoq ame
theorem atk {h:ax} {a b c d e f g i j:Option bI} {os:List (Option bI)} {o:bI}:(h.on (a::b::c::d::e::f::g::i::j::os)).upd (h.n+8) o=h.on (a::b::c::d::e::f::g::i::some o::os):=iB (by simp)
theorem atx {h:ax} {a b c d e f g i j k:Option bI} {os:List (Option bI)} {o:bI}:(h.on (a::b::c::d::e::f::g::i::j::k::os)).upd (h.n+9) o=h.on (a::b::c::d::e::f::g::i::j::some o::os):=iB (by simp)
theorem apY {h:ax} {a b c d e f g i j k l:Option bI} {os:List (Option bI)} {o:bI}:(h.on (a::b::c::d::e::f::g::i::j::k::l::os)).upd (h.n+10) o=h.on (a::b::c::d::e::f::g::i::j::k::some o::os):=iB (by simp)
theorem aor {h:ax} {a b c d e f g i j k l m:Option bI} {os:List (Option bI)} {o:bI}:(h.on (a::b::c::d::e::f::g::i::j::k::l::m::os)).upd (h.n+11) o=h.on (a::b::c::d::e::f::g::i::j::k::l::some o::os):=iB (by simp)
attribute [go_sem] atk atx apY aor
theorem azD {h:ax} {a b c d e f g i j:Option bI}:(h.on [a,b,c,d,e,f,g,i,j]).n=h.n+9:=rfl
theorem aw8 {h:ax} {a b c d e f g i j k:Option bI}:(h.on [a,b,c,d,e,f,g,i,j,k]).n=h.n+10:=rfl
theorem awA {h:ax} {a b c d e f g i j k l:Option bI}:(h.on [a,b,c,d,e,f,g,i,j,k,l]).n=h.n+11:=rfl
theorem axS {h:ax} {a b c d e f g i j k l m:Option bI}:(h.on [a,b,c,d,e,f,g,i,j,k,l,m]).n=h.n+12:=rfl
attribute [go_sem] azD aw8 awA axS
theorem aqj {α:Type} {x:α} {a b:List α}:List.append (x::a) b=x::List.append a b:=rfl
theorem avH {α:Type} {b:List α}:List.append [] b=b:=rfl
attribute [go_sem] aqj avH
theorem awu {h:ax} {a0 a1 a2 a3 a4 a5 a6 a7 a8 a9 a10 a11 a12:Option bI}:(h.on [a0,a1,a2,a3,a4,a5,a6,a7,a8,a9,a10,a11,a12]).n=h.n+13:=rfl
theorem awq {h:ax} {a0 a1 a2 a3 a4 a5 a6 a7 a8 a9 a10 a11 a12 a13:Option bI}:(h.on [a0,a1,a2,a3,a4,a5,a6,a7,a8,a9,a10,a11,a12,a13]).n=h.n+14:=rfl
theorem axJ {h:ax} {a0 a1 a2 a3 a4 a5 a6 a7 a8 a9 a10 a11 a12 a13 a14:Option bI}:(h.on [a0,a1,a2,a3,a4,a5,a6,a7,a8,a9,a10,a11,a12,a13,a14]).n=h.n+15:=rfl
theorem avT {h:ax} {a0 a1 a2 a3 a4 a5 a6 a7 a8 a9 a10 a11 a12 a13 a14 a15:Option bI}:(h.on [a0,a1,a2,a3,a4,a5,a6,a7,a8,a9,a10,a11,a12,a13,a14,a15]).n=h.n+16:=rfl
theorem av4 {h:ax} {a0 a1 a2 a3 a4 a5 a6 a7 a8 a9 a10 a11 a12 a13 a14 a15 a16:Option bI}:(h.on [a0,a1,a2,a3,a4,a5,a6,a7,a8,a9,a10,a11,a12,a13,a14,a15,a16]).n=h.n+17:=rfl
theorem awm {h:ax} {a0 a1 a2 a3 a4 a5 a6 a7 a8 a9 a10 a11 a12 a13 a14 a15 a16 a17:Option bI}:(h.on [a0,a1,a2,a3,a4,a5,a6,a7,a8,a9,a10,a11,a12,a13,a14,a15,a16,a17]).n=h.n+18:=rfl
theorem aqe {h:ax} {a0 a1 a2 a3 a4 a5 a6 a7 a8 a9 a10 a11 a12:Option bI} {os:List (Option bI)} {o:bI}:(h.on (a0::a1::a2::a3::a4::a5::a6::a7::a8::a9::a10::a11::a12::os)).upd (h.n+12) o=h.on (a0::a1::a2::a3::a4::a5::a6::a7::a8::a9::a10::a11::some o::os):=iB (by simp)
theorem ao2 {h:ax} {a0 a1 a2 a3 a4 a5 a6 a7 a8 a9 a10 a11 a12 a13:Option bI} {os:List (Option bI)} {o:bI}:(h.on (a0::a1::a2::a3::a4::a5::a6::a7::a8::a9::a10::a11::a12::a13::os)).upd (h.n+13) o=h.on (a0::a1::a2::a3::a4::a5::a6::a7::a8::a9::a10::a11::a12::some o::os):=iB (by simp)
theorem aqY {h:ax} {a0 a1 a2 a3 a4 a5 a6 a7 a8 a9 a10 a11 a12 a13 a14:Option bI} {os:List (Option bI)} {o:bI}:(h.on (a0::a1::a2::a3::a4::a5::a6::a7::a8::a9::a10::a11::a12::a13::a14::os)).upd (h.n+14) o=h.on (a0::a1::a2::a3::a4::a5::a6::a7::a8::a9::a10::a11::a12::a13::some o::os):=iB (by simp)
theorem aox {h:ax} {a0 a1 a2 a3 a4 a5 a6 a7 a8 a9 a10 a11 a12 a13 a14 a15:Option bI} {os:List (Option bI)} {o:bI}:(h.on (a0::a1::a2::a3::a4::a5::a6::a7::a8::a9::a10::a11::a12::a13::a14::a15::os)).upd (h.n+15) o=h.on (a0::a1::a2::a3::a4::a5::a6::a7::a8::a9::a10::a11::a12::a13::a14::some o::os):=iB (by simp)
theorem arn {h:ax} {a0 a1 a2 a3 a4 a5 a6 a7 a8 a9 a10 a11 a12 a13 a14 a15 a16:Option bI} {os:List (Option bI)} {o:bI}:(h.on (a0::a1::a2::a3::a4::a5::a6::a7::a8::a9::a10::a11::a12::a13::a14::a15::a16::os)).upd (h.n+16) o=h.on (a0::a1::a2::a3::a4::a5::a6::a7::a8::a9::a10::a11::a12::a13::a14::a15::some o::os):=iB (by simp)
theorem aqd {h:ax} {a0 a1 a2 a3 a4 a5 a6 a7 a8 a9 a10 a11 a12 a13 a14 a15 a16 a17:Option bI} {os:List (Option bI)} {o:bI}:(h.on (a0::a1::a2::a3::a4::a5::a6::a7::a8::a9::a10::a11::a12::a13::a14::a15::a16::a17::os)).upd (h.n+17) o=h.on (a0::a1::a2::a3::a4::a5::a6::a7::a8::a9::a10::a11::a12::a13::a14::a15::a16::some o::os):=iB (by simp)
attribute [go_sem] awu awq axJ avT av4 awm aqe ao2 aqY aox arn aqd
theorem pR {C:Ctx} {m:Nat} {Q:Ex→St→Prop} {s:St} {c:Code} (h:aR C (cp C) m c (Ex.then (aR C (cp C) m (.loop c) Q) Q) s):aR C (cp C) m (.loop c) Q s:=lN.step s (.refl s) h
section
variable {C:Ctx} {R:cR} {m:Nat} {Q:Ex→St→Prop} {s:St}
theorem A_s {id:Nat} {ops:Array Oper} {l:List Oper} {s':St} {b:Code} (hk:aR C R m b Q s') (hl:ops.toList=l:=by rfl) (h:iA C.P ops l s=some s':=by exact pw):aR C R m (.seq (.region id ops false) b) Q s:=aj (mO hl h (w_n hk))
end
theorem bv {C:Ctx} {f:FuncId} {args:List SV} {h:ax} {Q:List SV→ax→Prop} {fn:Func} {code:Code} (hf:C.P.funcs[f]? =some fn)
  (hw:h.WF→(∀ v∈args,v.under h.n)→aR C (cp C) h.n code (atEnd C h.n f fn Q) ⟨entry 0 args,h.on []⟩) (hb:fn.body=some code:=by rfl) (hl:Nat.ble args.length fn.ntmps=true:=by rfl) (hin:within fn.ntmps code=true:=by rfl) (hname:(fn.name== "runtime.NumGoroutine")=false:=by rfl):cp C f args h Q:=
 cp.start fn code hf hb (Nat.le_of_ble_eq_true hl) hin hname hw
theorem Holds.one {α:Type} {x:Option α} {a:α} (e:x=some a):∃ D:α→Prop,(∀ z,D z→z=a)∧Holds x D:=⟨fun z=>z=a,fun _ h=>h,Holds.intro e rfl⟩
end Go.Val

/- A value semantics of the model's programs, sound against it, and functions read off the given program with the proofs that it runs so; no condition. -/
import Derived.Test.YtmfelmglmhjggaaGreatOwnD
import Derived.Test.YtmfelmglmhjggaaGreatOwnC
set_option linter.all false
set_option linter.unnecessarySimpa false
set_option linter.unusedVariables false
set_option linter.unusedSimpArgs false
namespace Go.Val
noncomputable section
def bf.k1(most:Int)(k:Int):Option Int:=
 some (mn k most)
def bf.b1(self:aD→Int→Int→Option Int)(n:aD)(most:Int)(deep:Int):(Int×Int)→OS ((Int×Int)) Int
 |(k1,i)=>
  if (decide (i < (n.Kids.length:Int)))then
   if ((decide (k1≥most))||(decide (deep≤(0:Int))))then
    some (Step.done most)
   else
    (idx n.Kids i).bind fun x=>
    (self x (IntKind.i64.wrap (most - k1)) (IntKind.i64.wrap (deep - (1:Int)))).bind fun r=>
    some (Step.next ((IntKind.i64.wrap (k1+r)),(IntKind.i64.wrap (i+(1:Int)))))
  else
   (bf.k1 most k1).map Step.done
def bf.r:Nat→aD→Int→Int→Option Int
 |0,_,_,_=>none
 |fu+1,n,most,deep=>
  Loop (bf.b1 (bf.r fu) n most deep) ((1:Int),(0:Int))
def bf(n:aD)(most:Int)(deep:Int):Option Int:=lim fun fuZ=>bf.r fuZ n most deep
def aW.k2:Option Bool:=
 some true
def aW.b1(p:bL):Int→OS Int Bool
 |i=>
  if (decide (i < (p.Rules.length:Int)))then
   ((idx p.Rules i).bind fun x=>
     (bf x.Left (15:Int) (10:Int)).bind fun r=>
     if (decide (r≥(15:Int)))then
      some true
     else
      (bf x.Right (15:Int) (10:Int)).bind fun r1=>
      some (decide (r1≥(15:Int)))).bind fun v1=>
   if v1 then
    some (Step.done false)
   else
    some (Step.next (IntKind.i64.wrap (i+(1:Int))))
  else
   (aW.k2).map Step.done
def aW.k1(p:bL):Option Bool:=
 Loop (aW.b1 p) (0:Int)
def aW.b2(p:bL):Int→OS Int Bool
 |i1=>
  if (decide (i1 < (p.Sets.length:Int)))then
   (idx p.Sets i1).bind fun xs=>
   if (decide ((xs.length:Int) > (8:Int)))then
    some (Step.done false)
   else
    some (Step.next (IntKind.i64.wrap (i1+(1:Int))))
  else
   (aW.k1 p).map Step.done
def aW(p:bL):Option Bool:=
 if ((decide ((p.Sets.length:Int) > (8:Int)))||(decide ((p.Rules.length:Int) > (6:Int))))then
  some false
 else
  Loop (aW.b2 p) (0:Int)
def gA(x:ah):Option Bool:=
 some ((decide (x.Low < (0:Int)))||((decide (x.High > (1114111:Int)))||(decide (x.Low > x.High))))
def aJ.k1:Option Int:=
 some (-1:Int)
def aJ.b1(s:List ah)(f:ah→Option Bool):Int→OS Int Int
 |v=>
  if (decide (v < (s.length:Int)))then
   (idx s v).bind fun x=>
   (f x).bind fun r=>
   if r then
    some (Step.done v)
   else
    some (Step.next (IntKind.i64.wrap (v+(1:Int))))
  else
   (aJ.k1).map Step.done
def aJ(s:List ah)(f:ah→Option Bool):Option Int:=
 Loop (aJ.b1 s f) (0:Int)
def cA(s:List ah)(f:ah→Option Bool):Option Bool:=
 (aJ s f).bind fun r=>
 some (decide (r≥(0:Int)))
def jm(l:List ah)(x:ah):Option (List ah):=
 (if (decide ((l.length:Int) > (0:Int)))then
   (idx l (IntKind.i64.wrap ((l.length:Int) - (1:Int)))).bind fun x1=>
   some (decide (x.Low≤(IntKind.i64.wrap (x1.High+(1:Int)))))
  else
   some false).bind fun v=>
 if v then
  (idx l (IntKind.i64.wrap ((l.length:Int) - (1:Int)))).bind fun x2=>
  some (List.set l (Int.toNat (IntKind.i64.wrap ((l.length:Int) - (1:Int)))) (ah.mk x2.Low (mx x2.High x.High)))
 else
  (room 16 (l.length+1)).bind fun _=>
  some (l++([x]))
def cW.k1(out:List ah):Option ((List ah×Int)):=
 some (out,(0:Int))
def cW.b1(l1:List ah):(List ah×Int)→OS ((List ah×Int)) ((List ah×Int))
 |(out1,v)=>
  if (decide (v < (l1.length:Int)))then
   (idx l1 v).bind fun x=>
   (jm out1 x).bind fun r2=>
   some (Step.next (r2,(IntKind.i64.wrap (v+(1:Int)))))
  else
   (cW.k1 out1).map Step.done
def cW(l:List ah):Option ((List ah×Int)):=
 (cA l (gA)).bind fun r=>
 if r then
  some (([]:List ah),(1:Int))
 else
  (cF l).bind fun r1=>
  (adx r1).bind fun l1=>
  Loop (cW.b1 l1) ([],(0:Int))
def bw.k1:Option Bool:=
 some true
def bw.b1(s1:List ah)(s2:List ah):Int→OS Int Bool
 |v=>
  if (decide (v < (s1.length:Int)))then
   (idx s1 v).bind fun x=>
   (idx s2 v).bind fun x1=>
   if (!(x.Low==x1.Low&&(x.High==x1.High&&true)))then
    some (Step.done false)
   else
    some (Step.next (IntKind.i64.wrap (v+(1:Int))))
  else
   (bw.k1).map Step.done
def bw(s1:List ah)(s2:List ah):Option Bool:=
 if ((s1.length:Int) != (s2.length:Int))then
  some false
 else
  Loop (bw.b1 s1 s2) (0:Int)
def lS(l:List ah):Option Bool:=
 (cW l).bind fun r=>
 (if (r.2==(0:Int))then
   (bw r.1 l).bind fun r1=>
   some r1
  else
   some false).bind fun v=>
 some v
def iN(n:aD):Option Bool:=
 some ((decide (n.Kind≥(3:Int)))&&(decide (n.Kind≤(5:Int))))
def kg(n:aD):Option Bool:=
 if (n.Kind==(0:Int))then
  some ((n.Kids.length:Int) != (1:Int))
 else
  if (n.Kind==(2:Int))then
   some (decide ((n.Kids.length:Int) > (1:Int)))
  else
   ((iN n).bind fun r=>
     if r then
      some ((n.Kids.length:Int)==(1:Int))
     else
      some false).bind fun v=>
   some v
def mo(of:aD)(n:aD):Option Bool:=
 some ((n.Kind==(2:Int))||((n.Kind==(0:Int))&&(of.Kind != (2:Int))))
def aa.k2(sets:Int)(met:Int):Option ((Bool×be)):=
 some (true,(be.mk sets met))
def aa.k3(self:be→aD→Int→Int→Option ((Bool×be)))(signs1:Int)(v1:Int)(sets1:Int)(met1:Int)(x:aD)(more:Int):OS ((Int×Int×Int)) ((Bool×be)):=
 (if (decide (more > (20:Int)))then
   some (true,sets1,met1)
  else
   (self (be.mk sets1 met1) x more signs1).bind fun r3=>
   some ((!r3.1),r3.2.sets,r3.2.met)).bind fun(v2,sets2,met2)=>
 if v2 then
  some (Step.done (false,(be.mk sets2 met2)))
 else
  some (Step.next ((IntKind.i64.wrap (v1+(1:Int))),sets2,met2))
def aa.b1(self:be→aD→Int→Int→Option ((Bool×be)))(n:aD)(depth:Int)(signs1:Int):(Int×Int×Int)→OS ((Int×Int×Int)) ((Bool×be))
 |(v1,sets1,met1)=>
  if (decide (v1 < (n.Kids.length:Int)))then
   (idx n.Kids v1).bind fun x=>
   (mo n x).bind fun r2=>
   if r2 then
    aa.k3 self signs1 v1 sets1 met1 x (IntKind.i64.wrap (depth+(1:Int)))
   else
    aa.k3 self signs1 v1 sets1 met1 x depth
  else
   (aa.k2 sets1 met1).map Step.done
def aa.k1(self:be→aD→Int→Int→Option ((Bool×be)))(c:be)(n:aD)(depth:Int)(signs1:Int):Option ((Bool×be)):=
 ((kg n).bind fun r1=>
   if (!r1)then
    some true
   else
    if (n.Set != (0:Int))then
     some true
    else
     some (decide (signs1 > (3:Int)))).bind fun v=>
 if v then
  some (false,c)
 else
  Loop (aa.b1 self n depth signs1) ((0:Int),c.sets,c.met)
def aa.r:Nat→be→aD→Int→Int→Option ((Bool×be))
 |0,_,_,_,_=>none
 |fu+1,c,n,depth,signs=>
  if (n.Kind==(1:Int))then
   some ((((n.Kids.length:Int)==(0:Int))&&((decide (n.Set≥(0:Int)))&&((decide (n.Set < c.sets))&&(decide (n.Set≤c.met))))),(be.mk c.sets (mx c.met (IntKind.i64.wrap ((mn n.Set c.sets)+(1:Int))))))
  else
   (iN n).bind fun r=>
   if (!r)then
    aa.k1 (aa.r fu) c n depth (0:Int)
   else
    aa.k1 (aa.r fu) c n depth (IntKind.i64.wrap (signs+(1:Int)))
def aa(c:be)(n:aD)(depth:Int)(signs:Int):Option ((Bool×be)):=lim fun fuZ=>aa.r fuZ c n depth signs
def bO.k2(p:bL)(m:List (Str×Bool))(sets:Int)(met:Int):Option Bool:=
 some (((m.length:Int)==(p.Sets.length:Int))&&(met==(p.Sets.length:Int)))
def bO.b1(p:bL)(m:List (Str×Bool)):(Int×Int×Int)→OS ((Int×Int×Int)) Bool
 |(v2,sets1,met1)=>
  if (decide (v2 < (p.Rules.length:Int)))then
   (idx p.Rules v2).bind fun x=>
   ((aa (be.mk sets1 met1) x.Left (0:Int) (0:Int)).bind fun r=>
     if (!r.1)then
      some (true,r.2.sets,r.2.met)
     else
      (aa r.2 x.Right (0:Int) (0:Int)).bind fun r1=>
      some ((!r1.1),r1.2.sets,r1.2.met)).bind fun(v3,sets2,met2)=>
   if v3 then
    some (Step.done false)
   else
    some (Step.next ((IntKind.i64.wrap (v2+(1:Int))),sets2,met2))
  else
   (bO.k2 p m sets1 met1).map Step.done
def bO.k1(p:bL)(m:List (Str×Bool)):Option Bool:=
 Loop (bO.b1 p m) ((0:Int),(p.Sets.length:Int),(0:Int))
def bO.b2(p:bL):(Int×List (Str×Bool))→OS ((Int×List (Str×Bool))) Bool
 |(v4,m1)=>
  if (decide (v4 < (p.Sets.length:Int)))then
   (idx p.Sets v4).bind fun xs=>
   (lS xs).bind fun r2=>
   if (!r2)then
    some (Step.done false)
   else
    (nI xs).bind fun r3=>
    some (Step.next ((IntKind.i64.wrap (v4+(1:Int))),(kF r3 true m1)))
  else
   (bO.k1 p m1).map Step.done
def bO(p:bL):Option Bool:=
 if ((decide ((p.Sets.length:Int) > (60:Int)))||(decide ((p.Rules.length:Int) > (64:Int))))then
  some false
 else
  Loop (bO.b2 p) ((0:Int),[])
def gm(x:ah)(r:Int):Option Int:=
 if (decide (x.High < r))then
  some (-1:Int)
 else
  if (decide (x.Low > r))then
   some (1:Int)
  else
   some (0:Int)
def ao.k1(x:List ah)(target:Int)(cmp:ah→Int→Option Int)(i:Int):Option ((Int×Bool)):=
 (if (decide (i < (x.length:Int)))then
   (idx x i).bind fun x1=>
   (cmp x1 target).bind fun r=>
   some (r==(0:Int))
  else
   some false).bind fun v=>
 some (i,v)
def ao.k2(i2:Int)(j1:Int):OS ((Int×Int)) ((Int×Bool)):=
 some (Step.next (i2,j1))
def ao.b1(x:List ah)(target:Int)(cmp:ah→Int→Option Int):(Int×Int)→OS ((Int×Int)) ((Int×Bool))
 |(i1,j)=>
  if (decide (i1 < j))then
   (some (shR .u64 (IntKind.u64.wrap (IntKind.i64.wrap (i1+j))) (1:Int))).bind fun z=>
   (idx x (IntKind.i64.wrap z)).bind fun x2=>
   (cmp x2 target).bind fun r1=>
   if (decide (r1 < (0:Int)))then
    ao.k2 (IntKind.i64.wrap ((IntKind.i64.wrap z)+(1:Int))) j
   else
    ao.k2 i1 (IntKind.i64.wrap z)
  else
   (ao.k1 x target cmp i1).map Step.done
def ao(x:List ah)(target:Int)(cmp:ah→Int→Option Int):Option ((Int×Bool)):=
 Loop (ao.b1 x target cmp) ((0:Int),(x.length:Int))
def lG(a_:List ah)(r:Int):Option Bool:=
 (ao a_ r (gm)).bind fun r1=>
 some r1.2
def cr.k1(m:Int):Option Int:=
 some m
def cr.k2(v:Int)(m2:Int):OS ((Int×Int)) Int:=
 some (Step.next (m2,(IntKind.i64.wrap (v+(1:Int)))))
def cr.b1(sets:List (List ah))(r:Int):(Int×Int)→OS ((Int×Int)) Int
 |(m1,v)=>
  if (decide (v < (sets.length:Int)))then
   (idx sets v).bind fun xs=>
   (lG xs r).bind fun r1=>
   if r1 then
    (nat v).bind fun _=>
    cr.k2 v (bOr .u64 m1 (shL .u64 (1:Int) v))
   else
    cr.k2 v m1
  else
   (cr.k1 m1).map Step.done
def cr(sets:List (List ah))(r:Int):Option Int:=
 Loop (cr.b1 sets r) ((0:Int),(0:Int))
def aZ.k1(out:List Int):Option (List Int):=
 (tC out).bind fun l=>
 (cY l).bind fun r=>
 some r
def aZ.k2(v:Int)(out2:List Int):OS ((List Int×Int)) (List Int):=
 some (Step.next (out2,(IntKind.i64.wrap (v+(1:Int)))))
def aZ.k3(v1:Int)(out4:List Int):OS ((List Int×Int)) (Step ((List Int×Int)) (List Int)):=
 some (Step.next (out4,(IntKind.i64.wrap (v1+(1:Int)))))
def aZ.b2(v:Int)(xs:List ah):(List Int×Int)→OS ((List Int×Int)) (Step ((List Int×Int)) (List Int))
 |(out3,v1)=>
  if (decide (v1 < (xs.length:Int)))then
   (idx xs v1).bind fun x=>
   (room 8 (out3.length+1)).bind fun _=>
   if (decide (x.High < (1114111:Int)))then
    (room 8 (out3.length+1+1)).bind fun _=>
    aZ.k3 v1 ((out3++([x.Low]))++([(IntKind.i64.wrap (x.High+(1:Int)))]))
   else
    aZ.k3 v1 (out3++([x.Low]))
  else
   (aZ.k2 v out3).map Step.done
def aZ.b1(sets:List (List ah)):(List Int×Int)→OS ((List Int×Int)) (List Int)
 |(out1,v)=>
  if (decide (v < (sets.length:Int)))then
   (idx sets v).bind fun xs=>
   Loop (aZ.b2 v xs) (out1,(0:Int))
  else
   (aZ.k1 out1).map Step.done
def aZ(sets:List (List ah)):Option (List Int):=
 Loop (aZ.b1 sets) ([(0:Int)],(0:Int))
def iq(x:bZ):Option Bool:=
 some ((decide (x.Low < (0:Int)))||((decide (x.High > (1114111:Int)))||(decide (x.Low > x.High))))
def aM.k1:Option Int:=
 some (-1:Int)
def aM.b1(s:List bZ)(f:bZ→Option Bool):Int→OS Int Int
 |v=>
  if (decide (v < (s.length:Int)))then
   (idx s v).bind fun x=>
   (f x).bind fun r=>
   if r then
    some (Step.done v)
   else
    some (Step.next (IntKind.i64.wrap (v+(1:Int))))
  else
   (aM.k1).map Step.done
def aM(s:List bZ)(f:bZ→Option Bool):Option Int:=
 Loop (aM.b1 s f) (0:Int)
def cE(s:List bZ)(f:bZ→Option Bool):Option Bool:=
 (aM s f).bind fun r=>
 some (decide (r≥(0:Int)))
def cZ.k1(t:bQ)(k:Int)(i:Int)(like:List (Vector UInt8 256))(m:List (Vector UInt8 256×Int)):Option ((Bool×bQ×List (Vector UInt8 256×Int))):=
 (idx t.like.toList k).bind fun n=>
 some (true,(bQ.mk (xz t.like k (u8 (IntKind.u8.wrap i))) like),m)
def cZ(t:bQ)(k:Int)(b:Vector UInt8 256)(known:List (Vector UInt8 256×Int)):Option ((Bool×bQ×List (Vector UInt8 256×Int))):=
 if (!(oL b known).isSome)then
  if (decide ((t.first.length:Int)≥(256:Int)))then
   some (false,t,known)
  else
   (room 256 (t.first.length+1)).bind fun _=>
   cZ.k1 t k (t.first.length:Int) (t.first++([b])) (kF b (t.first.length:Int) known)
 else
  cZ.k1 t k ((oL b known).getD (0:Int)) t.first known
def aY.k1(like:Vector UInt8 4352)(like1:List (Vector UInt8 256)):Option ((Option bQ×Int)):=
 some ((some (bQ.mk like like1)),(0:Int))
def aY.k2(v:Int)(like4:Vector UInt8 4352)(like5:List (Vector UInt8 256))(m1:List (Vector UInt8 256×Int)):OS ((Int×Vector UInt8 4352×List (Vector UInt8 256)×List (Vector UInt8 256×Int))) ((Option bQ×Int)):=
 some (Step.next ((IntKind.i64.wrap (v+(1:Int))),like4,like5,m1))
def aY.k3(v:Int)(like2:Vector UInt8 4352)(like3:List (Vector UInt8 256))(m:List (Vector UInt8 256×Int))(v1:Vector UInt8 256):OS ((Int×Vector UInt8 4352×List (Vector UInt8 256)×List (Vector UInt8 256×Int))) ((Option bQ×Int)):=
 (cZ (bQ.mk like2 like3) v v1 m).bind fun r1=>
 if (!r1.1)then
  some (Step.done (none,(3:Int)))
 else
  aY.k2 v r1.2.1.like r1.2.1.first r1.2.2
def aY.k4(v2:Int)(v4:Vector UInt8 256):OS ((Int×Vector UInt8 256)) (Step ((Int×Vector UInt8 4352×List (Vector UInt8 256)×List (Vector UInt8 256×Int))) ((Option bQ×Int))):=
 some (Step.next ((IntKind.i64.wrap (v2+(1:Int))),v4))
def aY.b3(v:Int)(v2:Int)(x:bZ):(Int×Vector UInt8 256)→OS ((Int×Vector UInt8 256)) (Step ((Int×Vector UInt8 256)) (Step ((Int×Vector UInt8 4352×List (Vector UInt8 256)×List (Vector UInt8 256×Int))) ((Option bQ×Int))))
 |(r2,v5)=>
  if (decide (r2≤(mn x.High (IntKind.i64.wrap ((IntKind.i64.wrap ((IntKind.i64.wrap (v*(256:Int)))+(256:Int))) - (1:Int))))))then
   (idx v5.toList (IntKind.i64.wrap (r2 - (IntKind.i64.wrap (v*(256:Int)))))).bind fun n=>
   some (Step.next ((IntKind.i64.wrap (r2+(1:Int))),(xz v5 (IntKind.i64.wrap (r2 - (IntKind.i64.wrap (v*(256:Int))))) x.Value)))
  else
   (aY.k4 v2 v5).map Step.done
def aY.b2(l:List bZ)(v:Int)(like2:Vector UInt8 4352)(like3:List (Vector UInt8 256))(m:List (Vector UInt8 256×Int)):(Int×Vector UInt8 256)→OS ((Int×Vector UInt8 256)) (Step ((Int×Vector UInt8 4352×List (Vector UInt8 256)×List (Vector UInt8 256×Int))) ((Option bQ×Int)))
 |(v2,v3)=>
  if (decide (v2 < (l.length:Int)))then
   (idx l v2).bind fun x=>
   Loop (aY.b3 v v2 x) ((mx x.Low (IntKind.i64.wrap (v*(256:Int)))),v3)
  else
   (aY.k3 v like2 like3 m v3).map Step.done
def aY.b1(l:List bZ):(Int×Vector UInt8 4352×List (Vector UInt8 256)×List (Vector UInt8 256×Int))→OS ((Int×Vector UInt8 4352×List (Vector UInt8 256)×List (Vector UInt8 256×Int))) ((Option bQ×Int))
 |(v,like2,like3,m)=>
  if (decide (v < (4352:Int)))then
   Loop (aY.b2 l v like2 like3 m) ((0:Int),(Vector.replicate 256 (0:UInt8)))
  else
   (aY.k1 like2 like3).map Step.done
def aY(l:List bZ):Option ((Option bQ×Int)):=
 if (decide ((l.length:Int) > (4096:Int)))then
  some (none,(3:Int))
 else
  (cE l (iq)).bind fun r=>
  if r then
   some (none,(1:Int))
  else
   Loop (aY.b1 l) ((0:Int),(Vector.replicate 4352 (0:UInt8)),[],[])
def gh(t:bQ)(r:Int):Option UInt8:=
 if ((decide (r < (0:Int)))||(decide (r > (1114111:Int))))then
  some (u8 (0:Int))
 else
  (idx t.like.toList (IntKind.i64.wrap (Int.tdiv r (256:Int)))).bind fun n=>
  (idx t.first (n.toNat:Int)).bind fun y=>
  (idx y.toList (Int.tmod r (256:Int))).bind fun n1=>
  some n1
def aP.k2(props:List bZ)(masks:List Int)(least:List Int):Option ((Option aQ×Int)):=
 (aY props).bind fun r1=>
 (match r1.1 with
 |none=>
  if (r1.2 != (0:Int))then
   some (none,(3:Int))
  else
   none
 |some y=>
  if (r1.2 != (0:Int))then
   some (none,(3:Int))
  else
   some ((some (aQ.mk y masks least)),(0:Int)))
def aP.k4(props1:List bZ)(v:Int)(n:Int)(class_:Int)(masks2:List Int)(least2:List Int)(m1:List (Int×Int))(high:Int):OS ((List bZ×Int×List Int×List Int×List (Int×Int))) ((Option aQ×Int)):=
 (room 24 (props1.length+1)).bind fun _=>
 some (Step.next ((props1++([(bZ.mk n high (u8 (IntKind.u8.wrap class_)))])),(IntKind.i64.wrap (v+(1:Int))),masks2,least2,m1))
def aP.k3(r:List Int)(props1:List bZ)(v:Int)(n:Int)(class_:Int)(masks2:List Int)(least2:List Int)(m1:List (Int×Int)):OS ((List bZ×Int×List Int×List Int×List (Int×Int))) ((Option aQ×Int)):=
 if (decide ((m1.length:Int) > (200:Int)))then
  some (Step.done (none,(3:Int)))
 else
  if (decide ((IntKind.i64.wrap (v+(1:Int))) < (r.length:Int)))then
   (idx r (IntKind.i64.wrap (v+(1:Int)))).bind fun n1=>
   aP.k4 props1 v n class_ masks2 least2 m1 (IntKind.i64.wrap (n1 - (1:Int)))
  else
   aP.k4 props1 v n class_ masks2 least2 m1 (1114111:Int)
def aP.b1(sets:List (List ah))(r:List Int):(List bZ×Int×List Int×List Int×List (Int×Int))→OS ((List bZ×Int×List Int×List Int×List (Int×Int))) ((Option aQ×Int))
 |(props1,v,masks1,least1,m)=>
  if (decide (v < (r.length:Int)))then
   (idx r v).bind fun n=>
   (cr sets n).bind fun r2=>
   if (!(oL r2 m).isSome)then
    (room 8 (masks1.length+1)).bind fun _=>
    (room 8 (least1.length+1)).bind fun _=>
    aP.k3 r props1 v n (m.length:Int) (masks1++([r2])) (least1++([n])) (kF r2 (m.length:Int) m)
   else
    aP.k3 r props1 v n ((oL r2 m).getD (0:Int)) masks1 least1 m
  else
   (aP.k2 props1 masks1 least1).map Step.done
def aP.k1(sets:List (List ah)):Option ((Option aQ×Int)):=
 (aZ sets).bind fun r=>
 Loop (aP.b1 sets r) ([],(0:Int),[],[],[])
def aP.b2(sets:List (List ah)):Int→OS Int ((Option aQ×Int))
 |v1=>
  if (decide (v1 < (sets.length:Int)))then
   (idx sets v1).bind fun xs=>
   (cW xs).bind fun r3=>
   (if (r3.2 != (0:Int))then
     some true
    else
     (bw r3.1 xs).bind fun r4=>
     some (!r4)).bind fun v2=>
   if v2 then
    some (Step.done (none,(1:Int)))
   else
    some (Step.next (IntKind.i64.wrap (v1+(1:Int))))
  else
   (aP.k1 sets).map Step.done
def aP(sets:List (List ah)):Option ((Option aQ×Int)):=
 if (decide ((sets.length:Int) > (60:Int)))then
  some (none,(3:Int))
 else
  Loop (aP.b2 sets) (0:Int)
def eH(a_:aQ)(r:Int):Option Int:=
 if ((decide (r < (0:Int)))||(decide (r > (1114111:Int))))then
  some (-1:Int)
 else
  (gh a_.trie r).bind fun r1=>
  some (IntKind.i64.wrap (r1.toNat:Int))
def dS(a_:aQ):Option Int:=
 some (a_.masks.length:Int)
def cV(a_:aQ):Option (List Int):=
 (dz a_.masks).bind fun r=>
 some r
def bS.k1(l:List Int)(n:Int)(at_:Int):Option (List Int):=
 (if (decide (at_ < (l.length:Int)))then
   (idx l at_).bind fun n1=>
   some (n1==n)
  else
   some false).bind fun v=>
 if v then
  some l
 else
  (cutH l at_).bind fun _=>
  (room 8 (0+(List.take (Int.toNat at_) l).length)).bind fun _=>
  (room 8 ((List.take (Int.toNat at_) l).length+1)).bind fun _=>
  (cutL l at_).bind fun _=>
  (room 8 ((List.take (Int.toNat at_) l).length+1+(List.drop (Int.toNat at_) l).length)).bind fun _=>
  some (((List.take (Int.toNat at_) l)++([n]))++(List.drop (Int.toNat at_) l))
def bS.b1(l:List Int)(n:Int):Int→OS Int (List Int)
 |at_1=>
  (if (decide (at_1 < (l.length:Int)))then
    (idx l at_1).bind fun n2=>
    some (decide (n2 < n))
   else
    some false).bind fun v1=>
  if v1 then
   some (Step.next (IntKind.i64.wrap (at_1+(1:Int))))
  else
   (bS.k1 l n at_1).map Step.done
def bS(l:List Int)(n:Int):Option (List Int):=
 Loop (bS.b1 l n) (0:Int)
def bG.k1(out:List Int):Option (List Int):=
 some out
def bG.k2(i:Int)(out2:List Int):OS ((List Int×Int)) (List Int):=
 some (Step.next (out2,(IntKind.i64.wrap (i+(1:Int)))))
def bG.b1(a_:List ah)(b:List ah):(List Int×Int)→OS ((List Int×Int)) (List Int)
 |(out1,i)=>
  if (decide (i < ((a_++b).length:Int)))then
   (idx (a_++b) i).bind fun x=>
   (bS out1 x.Low).bind fun r=>
   if (decide (x.High < (1114111:Int)))then
    (bS r (IntKind.i64.wrap (x.High+(1:Int)))).bind fun r1=>
    bG.k2 i r1
   else
    bG.k2 i r
  else
   (bG.k1 out1).map Step.done
def bG(a_:List ah)(b:List ah):Option (List Int):=
 (room 16 (0+a_.length)).bind fun _=>
 (room 16 (a_.length+b.length)).bind fun _=>
 Loop (bG.b1 a_ b) ([(0:Int)],(0:Int))
def bY.k1:Option Bool:=
 some false
def bY.b1(a_:List ah)(r:Int):Int→OS Int Bool
 |i=>
  if (decide (i < (a_.length:Int)))then
   ((idx a_ i).bind fun x=>
     if (decide (r≥x.Low))then
      some (decide (r≤x.High))
     else
      some false).bind fun v=>
   if v then
    some (Step.done true)
   else
    some (Step.next (IntKind.i64.wrap (i+(1:Int))))
  else
   (bY.k1).map Step.done
def bY(a_:List ah)(r:Int):Option Bool:=
 Loop (bY.b1 a_ r) (0:Int)
def dV(l:List ah)(low:Int)(high:Int):Option (List ah):=
 (if (decide ((l.length:Int) > (0:Int)))then
   (idx l (IntKind.i64.wrap ((l.length:Int) - (1:Int)))).bind fun x=>
   some (x.High==(IntKind.i64.wrap (low - (1:Int))))
  else
   some false).bind fun v=>
 if v then
  (idx l (IntKind.i64.wrap ((l.length:Int) - (1:Int)))).bind fun x1=>
  some (List.set l (Int.toNat (IntKind.i64.wrap ((l.length:Int) - (1:Int)))) (ah.mk x1.Low high))
 else
  (room 16 (l.length+1)).bind fun _=>
  some (l++([(ah.mk low high)]))
def aA.k1(out:List ah):Option (List ah):=
 some out
def aA.k2(i:Int)(out2:List ah):OS ((List ah×Int)) (List ah):=
 some (Step.next (out2,(IntKind.i64.wrap (i+(1:Int)))))
def aA.k4(out1:List ah)(i:Int)(high:Int)(n:Int)(is1:Bool):OS ((List ah×Int)) (List ah):=
 if is1 then
  (dV out1 n high).bind fun r3=>
  aA.k2 i r3
 else
  aA.k2 i out1
def aA.k3(a_:List ah)(b:List ah)(kind:Int)(r:List Int)(out1:List ah)(i:Int)(high:Int):OS ((List ah×Int)) (List ah):=
 (idx r i).bind fun n=>
 (bY a_ n).bind fun r1=>
 (bY b n).bind fun r2=>
 if (kind==(1:Int))then
  if r1 then
   aA.k4 out1 i high n r2
  else
   aA.k4 out1 i high n false
 else
  if (kind==(2:Int))then
   if r1 then
    aA.k4 out1 i high n (!r2)
   else
    aA.k4 out1 i high n false
  else
   if (kind==(3:Int))then
    if (!r1)then
     aA.k4 out1 i high n (!r2)
    else
     aA.k4 out1 i high n false
   else
    aA.k4 out1 i high n (r1||r2)
def aA.b1(a_:List ah)(b:List ah)(kind:Int)(r:List Int):(List ah×Int)→OS ((List ah×Int)) (List ah)
 |(out1,i)=>
  if (decide (i < (r.length:Int)))then
   if (decide ((IntKind.i64.wrap (i+(1:Int))) < (r.length:Int)))then
    (idx r (IntKind.i64.wrap (i+(1:Int)))).bind fun n1=>
    aA.k3 a_ b kind r out1 i (IntKind.i64.wrap (n1 - (1:Int)))
   else
    aA.k3 a_ b kind r out1 i (1114111:Int)
  else
   (aA.k1 out1).map Step.done
def aA(a_:List ah)(b:List ah)(kind:Int):Option (List ah):=
 (bG a_ b).bind fun r=>
 Loop (aA.b1 a_ b kind r) ([],(0:Int))
def bH.k1(l:List ah):Option ((List ah×Int)):=
 (aA l [] (0:Int)).bind fun r=>
 some (r,(0:Int))
def bH.b1(l:List ah):Int→OS Int ((List ah×Int))
 |i=>
  if (decide (i < (l.length:Int)))then
   ((idx l i).bind fun x=>
     if (decide (x.Low < (0:Int)))then
      some true
     else
      if (decide (x.High > (1114111:Int)))then
       some true
      else
       some (decide (x.Low > x.High))).bind fun v=>
   if v then
    some (Step.done (([]:List ah),(1:Int)))
   else
    some (Step.next (IntKind.i64.wrap (i+(1:Int))))
  else
   (bH.k1 l).map Step.done
def bH(l:List ah):Option ((List ah×Int)):=
 Loop (bH.b1 l) (0:Int)
def bV.k1:Option Bool:=
 some true
def bV.b1(a_:List ah)(b:List ah):Int→OS Int Bool
 |i=>
  if (decide (i < (a_.length:Int)))then
   (idx a_ i).bind fun x=>
   (idx b i).bind fun x1=>
   if (!(x.Low==x1.Low&&(x.High==x1.High&&true)))then
    some (Step.done false)
   else
    some (Step.next (IntKind.i64.wrap (i+(1:Int))))
  else
   (bV.k1).map Step.done
def bV(a_:List ah)(b:List ah):Option Bool:=
 if ((a_.length:Int) != (b.length:Int))then
  some false
 else
  Loop (bV.b1 a_ b) (0:Int)
def cx.k1(l:List Int)(n:Int)(at_:Int):Option (List Int):=
 (if (decide (at_ < (l.length:Int)))then
   (idx l at_).bind fun n1=>
   some (n1==n)
  else
   some false).bind fun v=>
 if v then
  some l
 else
  (cutH l at_).bind fun _=>
  (room 8 (0+(List.take (Int.toNat at_) l).length)).bind fun _=>
  (room 8 ((List.take (Int.toNat at_) l).length+1)).bind fun _=>
  (cutL l at_).bind fun _=>
  (room 8 ((List.take (Int.toNat at_) l).length+1+(List.drop (Int.toNat at_) l).length)).bind fun _=>
  some (((List.take (Int.toNat at_) l)++([n]))++(List.drop (Int.toNat at_) l))
def cx.b1(l:List Int)(n:Int):Int→OS Int (List Int)
 |at_1=>
  (if (decide (at_1 < (l.length:Int)))then
    (idx l at_1).bind fun n2=>
    some (decide (n2 < n))
   else
    some false).bind fun v1=>
  if v1 then
   some (Step.next (IntKind.i64.wrap (at_1+(1:Int))))
  else
   (cx.k1 l n at_1).map Step.done
def cx(l:List Int)(n:Int):Option (List Int):=
 Loop (cx.b1 l n) (0:Int)
def aF.k1(out:List Int):Option (List Int):=
 some out
def aF.k2(i:Int)(out2:List Int):OS ((List Int×Int)) (List Int):=
 some (Step.next (out2,(IntKind.i64.wrap (i+(1:Int)))))
def aF.k3(k:Int)(out4:List Int):OS ((List Int×Int)) (Step ((List Int×Int)) (List Int)):=
 some (Step.next (out4,(IntKind.i64.wrap (k+(1:Int)))))
def aF.b2(sets:List (List ah))(i:Int):(List Int×Int)→OS ((List Int×Int)) (Step ((List Int×Int)) (List Int))
 |(out3,k)=>
  (idx sets i).bind fun xs=>
  if (decide (k < (xs.length:Int)))then
   (idx xs k).bind fun x=>
   (cx out3 x.Low).bind fun r=>
   if (decide (x.High < (1114111:Int)))then
    (cx r (IntKind.i64.wrap (x.High+(1:Int)))).bind fun r1=>
    aF.k3 k r1
   else
    aF.k3 k r
  else
   (aF.k2 i out3).map Step.done
def aF.b1(sets:List (List ah)):(List Int×Int)→OS ((List Int×Int)) (List Int)
 |(out1,i)=>
  if (decide (i < (sets.length:Int)))then
   Loop (aF.b2 sets i) (out1,(0:Int))
  else
   (aF.k1 out1).map Step.done
def aF(sets:List (List ah)):Option (List Int):=
 Loop (aF.b1 sets) ([(0:Int)],(0:Int))
def bC.k1(m:Int):Option Int:=
 some m
def bC.k2(i:Int)(m2:Int):OS ((Int×Int)) Int:=
 some (Step.next (m2,(IntKind.i64.wrap (i+(1:Int)))))
def bC.b1(sets:List (List ah))(r:Int):(Int×Int)→OS ((Int×Int)) Int
 |(m1,i)=>
  if (decide (i < (sets.length:Int)))then
   (idx sets i).bind fun xs=>
   (bY xs r).bind fun r1=>
   if r1 then
    (nat (IntKind.u64.wrap i)).bind fun _=>
    bC.k2 i (bOr .u64 m1 (shL .u64 (1:Int) (IntKind.u64.wrap i)))
   else
    bC.k2 i m1
  else
   (bC.k1 m1).map Step.done
def bC(sets:List (List ah))(r:Int):Option Int:=
 Loop (bC.b1 sets r) ((0:Int),(0:Int))
def bi.k1:Option Int:=
 some (-1:Int)
def bi.b1(a_:aS)(m:Int):Int→OS Int Int
 |i=>
  if (decide (i < (a_.M.length:Int)))then
   (idx a_.M i).bind fun n=>
   if (n==m)then
    some (Step.done i)
   else
    some (Step.next (IntKind.i64.wrap (i+(1:Int))))
  else
   (bi.k1).map Step.done
def bi(a_:aS)(m:Int):Option Int:=
 Loop (bi.b1 a_ m) (0:Int)
def bJ.k1(v:UInt8):Option UInt8:=
 some v
def bJ.k2(i:Int)(v2:UInt8):OS ((UInt8×Int)) UInt8:=
 some (Step.next (v2,(IntKind.i64.wrap (i+(1:Int)))))
def bJ.b1(l:List bZ)(r:Int):(UInt8×Int)→OS ((UInt8×Int)) UInt8
 |(v1,i)=>
  if (decide (i < (l.length:Int)))then
   ((idx l i).bind fun x=>
     if (decide (r≥x.Low))then
      some (decide (r≤x.High))
     else
      some false).bind fun v3=>
   if v3 then
    (idx l i).bind fun x1=>
    bJ.k2 i x1.Value
   else
    bJ.k2 i v1
  else
   (bJ.k1 v1).map Step.done
def bJ(l:List bZ)(r:Int):Option UInt8:=
 Loop (bJ.b1 l r) ((u8 (0:Int)),(0:Int))
def bv.k1(out:List bZ):Option (List bZ):=
 some out
def bv.k2(i:Int)(out2:List bZ):OS ((List bZ×Int)) (List bZ):=
 some (Step.next (out2,(IntKind.i64.wrap (i+(1:Int)))))
def bv.b1(l:List bZ)(k:Int):(List bZ×Int)→OS ((List bZ×Int)) (List bZ)
 |(out1,i)=>
  if (decide (i < (l.length:Int)))then
   ((idx l i).bind fun x=>
     if (decide (x.High≥(IntKind.i64.wrap (k*(256:Int)))))then
      some (decide (x.Low < (IntKind.i64.wrap ((IntKind.i64.wrap (k+(1:Int)))*(256:Int)))))
     else
      some false).bind fun v=>
   if v then
    (idx l i).bind fun x1=>
    (room 24 (out1.length+1)).bind fun _=>
    bv.k2 i (out1++([x1]))
   else
    bv.k2 i out1
  else
   (bv.k1 out1).map Step.done
def bv(l:List bZ)(k:Int):Option (List bZ):=
 Loop (bv.b1 l k) ([],(0:Int))
def cg.k1(t:ba)(k:Int)(First:List UInt8):Option ba:=
 (room 8 (t.Like.length+1)).bind fun _=>
 some (ba.mk First (t.Like++([k])))
def cg(t:ba)(b:List UInt8):Option ba:=
 (dc t b).bind fun r=>
 if (decide (r < (0:Int)))then
  (room 1 (t.First.length+b.length)).bind fun _=>
  cg.k1 t (IntKind.i64.wrap (Int.tdiv (t.First.length:Int) (256:Int))) (t.First++b)
 else
  cg.k1 t r t.First
def aq.k2(First:List UInt8)(Like:List Int):Option ((Option ba×Int)):=
 some ((some (ba.mk First Like)),(0:Int))
def aq.k3(k:Int)(First2:List UInt8)(Like2:List Int):OS ((Int×List UInt8×List Int)) ((Option ba×Int)):=
 some (Step.next ((IntKind.i64.wrap (k+(1:Int))),First2,Like2))
def aq.k4(k:Int)(First1:List UInt8)(Like1:List Int)(b:List UInt8):OS ((Int×List UInt8×List Int)) ((Option ba×Int)):=
 (cg (ba.mk First1 Like1) b).bind fun r1=>
 if (decide ((r1.First.length:Int) > (65536:Int)))then
  some (Step.done (none,(3:Int)))
 else
  aq.k3 k r1.First r1.Like
def aq.b2(k:Int)(First1:List UInt8)(Like1:List Int)(r:List bZ):(List UInt8×Int)→OS ((List UInt8×Int)) (Step ((Int×List UInt8×List Int)) ((Option ba×Int)))
 |(b1,i)=>
  if ((decide (i < (256:Int)))&&(decide ((r.length:Int) > (0:Int))))then
   (bJ r (IntKind.i64.wrap ((IntKind.i64.wrap (k*(256:Int)))+i))).bind fun r2=>
   (idx b1 i).bind fun n=>
   some (Step.next ((List.set b1 (Int.toNat i) r2),(IntKind.i64.wrap (i+(1:Int)))))
  else
   (aq.k4 k First1 Like1 b1).map Step.done
def aq.b1(l:List bZ):(Int×List UInt8×List Int)→OS ((Int×List UInt8×List Int)) ((Option ba×Int))
 |(k,First1,Like1)=>
  if (decide (k < (4352:Int)))then
   (bv l k).bind fun r=>
   (mk 1 (0:UInt8) (256:Int)).bind fun _=>
   Loop (aq.b2 k First1 Like1 r) ((List.replicate (Int.toNat (256:Int)) (0:UInt8)),(0:Int))
  else
   (aq.k2 First1 Like1).map Step.done
def aq.k1(l:List bZ):Option ((Option ba×Int)):=
 Loop (aq.b1 l) ((0:Int),[],[])
def aq.b3(l:List bZ):Int→OS Int ((Option ba×Int))
 |i1=>
  if (decide (i1 < (l.length:Int)))then
   ((idx l i1).bind fun x=>
     if (decide (x.Low < (0:Int)))then
      some true
     else
      if (decide (x.High > (1114111:Int)))then
       some true
      else
       some (decide (x.Low > x.High))).bind fun v1=>
   if v1 then
    some (Step.done (none,(1:Int)))
   else
    some (Step.next (IntKind.i64.wrap (i1+(1:Int))))
  else
   (aq.k1 l).map Step.done
def aq(l:List bZ):Option ((Option ba×Int)):=
 if (decide ((l.length:Int) > (4096:Int)))then
  some (none,(3:Int))
 else
  Loop (aq.b3 l) (0:Int)
def av.k2(t:List (List ah))(v:List bZ)(M:List Int)(First:List Int):Option ((Option aS×Int)):=
 (aq v).bind fun r1=>
 (match r1.1 with
 |none=>
  if (r1.2 != (0:Int))then
   some (none,(3:Int))
  else
   some ((some (aS.mk t M First)),(0:Int))
 |some y=>
  if (r1.2 != (0:Int))then
   some (none,(3:Int))
  else
   some ((some (aS.mk t M First)),(0:Int)))
def av.k4(v1:List bZ)(v2:Int)(n:Int)(v3:Int)(M2:List Int)(First2:List Int)(v4:Int):OS ((List bZ×Int×List Int×List Int)) ((Option aS×Int)):=
 (room 24 (v1.length+1)).bind fun _=>
 some (Step.next ((v1++([(bZ.mk n v4 (u8 (IntKind.u8.wrap v3)))])),(IntKind.i64.wrap (v2+(1:Int))),M2,First2))
def av.k3(r:List Int)(v1:List bZ)(v2:Int)(n:Int)(v3:Int)(M2:List Int)(First2:List Int):OS ((List bZ×Int×List Int×List Int)) ((Option aS×Int)):=
 if (decide ((M2.length:Int) > (200:Int)))then
  some (Step.done (none,(3:Int)))
 else
  if (decide ((IntKind.i64.wrap (v2+(1:Int))) < (r.length:Int)))then
   (idx r (IntKind.i64.wrap (v2+(1:Int)))).bind fun n1=>
   av.k4 v1 v2 n v3 M2 First2 (IntKind.i64.wrap (n1 - (1:Int)))
  else
   av.k4 v1 v2 n v3 M2 First2 (1114111:Int)
def av.b1(t:List (List ah))(r:List Int):(List bZ×Int×List Int×List Int)→OS ((List bZ×Int×List Int×List Int)) ((Option aS×Int))
 |(v1,v2,M1,First1)=>
  if (decide (v2 < (r.length:Int)))then
   (idx r v2).bind fun n=>
   (bC t n).bind fun r2=>
   (bi (aS.mk t M1 First1) r2).bind fun r3=>
   if (decide (r3 < (0:Int)))then
    (room 8 (M1.length+1)).bind fun _=>
    (room 8 (First1.length+1)).bind fun _=>
    av.k3 r v1 v2 n (M1.length:Int) (M1++([r2])) (First1++([n]))
   else
    av.k3 r v1 v2 n r3 M1 First1
  else
   (av.k2 t v1 M1 First1).map Step.done
def av.k1(t:List (List ah)):Option ((Option aS×Int)):=
 (aF t).bind fun r=>
 Loop (av.b1 t r) ([],(0:Int),[],[])
def av.b2(t:List (List ah)):Int→OS Int ((Option aS×Int))
 |r4=>
  if (decide (r4 < (t.length:Int)))then
   (idx t r4).bind fun xs=>
   (bH xs).bind fun r5=>
   (bV r5.1 xs).bind fun r6=>
   if ((r5.2 != (0:Int))||(!r6))then
    some (Step.done (none,(1:Int)))
   else
    some (Step.next (IntKind.i64.wrap (r4+(1:Int))))
  else
   (av.k1 t).map Step.done
def av(t:List (List ah)):Option ((Option aS×Int)):=
 if (decide ((t.length:Int) > (60:Int)))then
  some (none,(3:Int))
 else
  Loop (av.b2 t) (0:Int)
def aK.k1(out:List Int):Option (List Int):=
 some out
def aK.k2(i:Int)(out2:List Int):OS ((List Int×Int)) (List Int):=
 some (Step.next (out2,(IntKind.i64.wrap (i+(1:Int)))))
def aK.b1(a_:aS)(l:List Int):(List Int×Int)→OS ((List Int×Int)) (List Int)
 |(out1,i)=>
  if (decide (i < (l.length:Int)))then
   ((idx l i).bind fun n=>
     if (decide (n < (0:Int)))then
      some true
     else
      some (decide (n > (1114111:Int)))).bind fun v=>
   if v then
    (room 8 (out1.length+1)).bind fun _=>
    aK.k2 i (out1++([(0:Int)]))
   else
    (idx l i).bind fun n1=>
    (bC a_.Sets n1).bind fun r=>
    (room 8 (out1.length+1)).bind fun _=>
    aK.k2 i (out1++([r]))
  else
   (aK.k1 out1).map Step.done
def aK(a_:aS)(l:List Int):Option (List Int):=
 Loop (aK.b1 a_ l) ([],(0:Int))
def cy.k2(n:aD)(kids1:List aD):Option aD:=
 some (aD.mk n.Kind n.Set kids1)
def cy.k1(n:aD)(kids:List aD):Option aD:=
 if (n.Kind==(0:Int))then
  (at1 kids).bind fun l=>
  cy.k2 n l
 else
  cy.k2 n kids
def cy.b1(self:aD→Option aD)(n:aD):(List aD×Int)→OS ((List aD×Int)) aD
 |(kids2,v)=>
  if (decide (v < (n.Kids.length:Int)))then
   (idx n.Kids v).bind fun x=>
   (self x).bind fun r=>
   (room 40 (kids2.length+1)).bind fun _=>
   some (Step.next ((kids2++([r])),(IntKind.i64.wrap (v+(1:Int)))))
  else
   (cy.k1 n kids2).map Step.done
def cy.r:Nat→aD→Option aD
 |0,_=>none
 |fu+1,n=>
  Loop (cy.b1 (cy.r fu) n) ([],(0:Int))
def cy(n:aD):Option aD:=lim fun fuZ=>cy.r fuZ n
def iZ(self:aD→Option Bool)(n:aD):Option Bool:=
 (self n).bind fun r=>
 some (!r)
def aL.k1:Option Int:=
 some (-1:Int)
def aL.b1(s:List aD)(f:aD→Option Bool):Int→OS Int Int
 |v=>
  if (decide (v < (s.length:Int)))then
   (idx s v).bind fun x=>
   (f x).bind fun r=>
   if r then
    some (Step.done v)
   else
    some (Step.next (IntKind.i64.wrap (v+(1:Int))))
  else
   (aL.k1).map Step.done
def aL(s:List aD)(f:aD→Option Bool):Option Int:=
 Loop (aL.b1 s f) (0:Int)
def cC(s:List aD)(f:aD→Option Bool):Option Bool:=
 (aL s f).bind fun r=>
 some (decide (r≥(0:Int)))
def bB.k1(self:aD→Option Bool)(n:aD)(fits:Bool):Option Bool:=
 (if fits then
   (cC n.Kids (fun x0=>iZ self x0)).bind fun r=>
   some (!r)
  else
   some false).bind fun v=>
 some v
def bB.k2(self:aD→Option Bool)(n:aD)(v1:Bool):Option Bool:=
 if v1 then
  bB.k1 self n ((n.Kids.length:Int)==(1:Int))
 else
  bB.k1 self n false
def bB.r:Nat→aD→Option Bool
 |0,_=>none
 |fu+1,n=>
  if (n.Kind==(1:Int))then
   if ((n.Kids.length:Int)==(0:Int))then
    if (decide (n.Set≥(0:Int)))then
     bB.k1 (bB.r fu) n (decide (n.Set≤(63:Int)))
    else
     bB.k1 (bB.r fu) n false
   else
    bB.k1 (bB.r fu) n false
  else
   if (n.Kind==(0:Int))then
    bB.k1 (bB.r fu) n true
   else
    if (n.Kind==(2:Int))then
     bB.k1 (bB.r fu) n (decide ((n.Kids.length:Int) > (0:Int)))
    else
     if (n.Kind==(3:Int))then
      bB.k2 (bB.r fu) n (n.Kind==(3:Int))
     else
      if (n.Kind==(4:Int))then
       bB.k2 (bB.r fu) n (n.Kind==(4:Int))
      else
       bB.k2 (bB.r fu) n (n.Kind==(5:Int))
def bB(n:aD):Option Bool:=lim fun fuZ=>bB.r fuZ n
def bN.k1(k:Int):Option Int:=
 some k
def bN.b1(self:aD→Option Int)(n:aD):(Int×Int)→OS ((Int×Int)) Int
 |(k1,v)=>
  if (decide (v < (n.Kids.length:Int)))then
   (idx n.Kids v).bind fun x=>
   (self x).bind fun r=>
   some (Step.next ((IntKind.i64.wrap (k1+r)),(IntKind.i64.wrap (v+(1:Int)))))
  else
   (bN.k1 k1).map Step.done
def bN.r:Nat→aD→Option Int
 |0,_=>none
 |fu+1,n=>
  if (n.Kind==(1:Int))then
   some (1:Int)
  else
   Loop (bN.b1 (bN.r fu) n) ((0:Int),(0:Int))
def bN(n:aD):Option Int:=lim fun fuZ=>bN.r fuZ n
def an.k2(newslice:List Int):Option (List Int):=
 some newslice
def an.b1(slices:List (List Int)):(List Int×Int)→OS ((List Int×Int)) (List Int)
 |(newslice1,v)=>
  if (decide (v < (slices.length:Int)))then
   (idx slices v).bind fun xs=>
   (room 8 (newslice1.length+xs.length)).bind fun _=>
   some (Step.next ((newslice1++xs),(IntKind.i64.wrap (v+(1:Int)))))
  else
   (an.k2 newslice1).map Step.done
def an.k1(slices:List (List Int))(size:Int):Option (List Int):=
 (dI [] size).bind fun r=>
 Loop (an.b1 slices) (r,(0:Int))
def an.b2(slices:List (List Int)):(Int×Int)→OS ((Int×Int)) (List Int)
 |(size1,v1)=>
  if (decide (v1 < (slices.length:Int)))then
   (idx slices v1).bind fun xs1=>
   if (decide ((IntKind.i64.wrap (size1+(xs1.length:Int))) < (0:Int)))then
    none
   else
    some (Step.next ((IntKind.i64.wrap (size1+(xs1.length:Int))),(IntKind.i64.wrap (v1+(1:Int)))))
  else
   (an.k1 slices size1).map Step.done
def an(slices:List (List Int)):Option (List Int):=
 Loop (an.b2 slices) ((0:Int),(0:Int))
def ct(p:List Int)(more:List Int):Option (List Int):=
 (an ([p,more])).bind fun r=>
 (tC r).bind fun l=>
 (cG l).bind fun r1=>
 some r1
def cO.k1(a_:cM)(Follow:List (List Int)):Option cM:=
 some (cM.mk a_.Null a_.Sets a_.First a_.Last Follow)
def cO.b1(last:List Int)(first:List Int)(a_:cM):(Int×List (List Int))→OS ((Int×List (List Int))) cM
 |(v,Follow1)=>
  if (decide (v < (last.length:Int)))then
   (idx last v).bind fun n=>
   (idx Follow1 (IntKind.i64.wrap (n - (1:Int)))).bind fun xs=>
   (ct xs first).bind fun r=>
   some (Step.next ((IntKind.i64.wrap (v+(1:Int))),(List.set Follow1 (Int.toNat (IntKind.i64.wrap (n - (1:Int)))) r)))
  else
   (cO.k1 a_ Follow1).map Step.done
def cO(last:List Int)(first:List Int)(a_:cM):Option cM:=
 Loop (cO.b1 last first a_) ((0:Int),a_.Follow)
def ch.k2(x:aB)(y:aB)(r:cM)(first:List Int)(last:List Int):Option ((aB×cM)):=
 some ((aB.mk (x.null&&y.null) first last),r)
def ch.k1(x:aB)(y:aB)(r:cM)(first:List Int):Option ((aB×cM)):=
 if y.null then
  (ct x.last y.last).bind fun r1=>
  ch.k2 x y r first r1
 else
  ch.k2 x y r first y.last
def ch(x:aB)(y:aB)(a_:cM):Option ((aB×cM)):=
 (cO x.last y.first a_).bind fun r=>
 if x.null then
  (ct x.first y.first).bind fun r2=>
  ch.k1 x y r r2
 else
  ch.k1 x y r x.first
def fO(x:aB)(y:aB):Option aB:=
 (if x.null then
   (ct x.first y.first).bind fun r=>
   (ct x.last y.last).bind fun r1=>
   some (true,r,r1)
  else
   (ct x.first y.first).bind fun r2=>
   (ct x.last y.last).bind fun r3=>
   some (y.null,r2,r3)).bind fun(null,first,last)=>
 some (aB.mk null first last)
def aX.k2(n:aD)(r:(aB×cM))(Null:Bool)(Sets:List Int)(First:List Int)(Last:List Int)(Follow:List (List Int)):Option ((aB×cM)):=
 some ((aB.mk (r.1.null||(n.Kind != (4:Int))) r.1.first r.1.last),(cM.mk Null Sets First Last Follow))
def aX.k1(self:cM→aD→Option ((aB×cM)))(a_:cM)(n:aD):Option ((aB×cM)):=
 (n.Kids[0]?).bind fun x=>
 (self a_ x).bind fun r=>
 if (n.Kind != (5:Int))then
  (cO r.1.last r.1.first r.2).bind fun r1=>
  aX.k2 n r r1.Null r1.Sets r1.First r1.Last r1.Follow
 else
  aX.k2 n r r.2.Null r.2.Sets r.2.First r.2.Last r.2.Follow
def aX.k3(null1:Bool)(first:List Int)(last:List Int)(Null1:Bool)(Sets1:List Int)(First1:List Int)(Last1:List Int)(Follow1:List (List Int)):Option ((aB×cM)):=
 some ((aB.mk null1 first last),(cM.mk Null1 Sets1 First1 Last1 Follow1))
def aX.b1(self:cM→aD→Option ((aB×cM)))(n:aD):(Int×Bool×List Int×List Int×Bool×List Int×List Int×List Int×List (List Int))→OS ((Int×Bool×List Int×List Int×Bool×List Int×List Int×List Int×List (List Int))) ((aB×cM))
 |(v,null2,first1,last1,Null2,Sets2,First2,Last2,Follow2)=>
  if (decide (v < (n.Kids.length:Int)))then
   (idx n.Kids v).bind fun x1=>
   (self (cM.mk Null2 Sets2 First2 Last2 Follow2) x1).bind fun r2=>
   (ch (aB.mk null2 first1 last1) r2.1 r2.2).bind fun r3=>
   some (Step.next ((IntKind.i64.wrap (v+(1:Int))),r3.1.null,r3.1.first,r3.1.last,r3.2.Null,r3.2.Sets,r3.2.First,r3.2.Last,r3.2.Follow))
  else
   (aX.k3 null2 first1 last1 Null2 Sets2 First2 Last2 Follow2).map Step.done
def aX.k4(null3:Bool)(first2:List Int)(last2:List Int)(Null3:Bool)(Sets3:List Int)(First3:List Int)(Last3:List Int)(Follow3:List (List Int)):Option ((aB×cM)):=
 some ((aB.mk null3 first2 last2),(cM.mk Null3 Sets3 First3 Last3 Follow3))
def aX.b2(self:cM→aD→Option ((aB×cM)))(n:aD):(Int×Bool×List Int×List Int×Bool×List Int×List Int×List Int×List (List Int))→OS ((Int×Bool×List Int×List Int×Bool×List Int×List Int×List Int×List (List Int))) ((aB×cM))
 |(v1,null4,first3,last3,Null4,Sets4,First4,Last4,Follow4)=>
  if (decide (v1 < (n.Kids.length:Int)))then
   (idx n.Kids v1).bind fun x2=>
   (self (cM.mk Null4 Sets4 First4 Last4 Follow4) x2).bind fun r4=>
   (fO (aB.mk null4 first3 last3) r4.1).bind fun r5=>
   some (Step.next ((IntKind.i64.wrap (v1+(1:Int))),r5.null,r5.first,r5.last,r4.2.Null,r4.2.Sets,r4.2.First,r4.2.Last,r4.2.Follow))
  else
   (aX.k4 null4 first3 last3 Null4 Sets4 First4 Last4 Follow4).map Step.done
def aX.r:Nat→cM→aD→Option ((aB×cM))
 |0,_,_=>none
 |fu+1,a_,n=>
  if (n.Kind==(1:Int))then
   (room 8 (a_.Sets.length+1)).bind fun _=>
   (room 24 (a_.Follow.length+1)).bind fun _=>
   some ((aB.mk false ([((a_.Sets++([n.Set])).length:Int)]) ([((a_.Sets++([n.Set])).length:Int)])),(cM.mk a_.Null (a_.Sets++([n.Set])) a_.First a_.Last (a_.Follow++([[]]))))
  else
   if (n.Kind==(0:Int))then
    Loop (aX.b1 (aX.r fu) n) ((0:Int),true,[],[],a_.Null,a_.Sets,a_.First,a_.Last,a_.Follow)
   else
    if (n.Kind==(2:Int))then
     Loop (aX.b2 (aX.r fu) n) ((0:Int),false,[],[],a_.Null,a_.Sets,a_.First,a_.Last,a_.Follow)
    else
     aX.k1 (aX.r fu) a_ n
def aX(a_:cM)(n:aD):Option ((aB×cM)):=lim fun fuZ=>aX.r fuZ a_ n
def jr(n:aD):Option ((cM×Int)):=
 (bB n).bind fun r=>
 if (!r)then
  some ((cM.mk false ([]:List Int) ([]:List Int) ([]:List Int) ([]:List (List Int))),(1:Int))
 else
  (bN n).bind fun r1=>
  if (decide (r1 > (300:Int)))then
   some ((cM.mk false ([]:List Int) ([]:List Int) ([]:List Int) ([]:List (List Int))),(3:Int))
  else
   (aX (cM.mk false [] ([]:List Int) ([]:List Int) []) n).bind fun r2=>
   some ((cM.mk r2.1.null r2.2.Sets r2.1.first r2.1.last r2.2.Follow),(0:Int))
def iA:Option (List Int):=
 some ([(0:Int)])
def cQ.k1(a_:cM)(sign:Int)(all:List Int):Option (List Int):=
 (ct all []).bind fun r=>
 (cw r sign a_).bind fun r1=>
 some r1
def cQ.k2(v:Int)(all2:List Int):OS ((List Int×Int)) (List Int):=
 some (Step.next (all2,(IntKind.i64.wrap (v+(1:Int)))))
def cQ.b1(a_:cM)(at_:List Int)(sign:Int):(List Int×Int)→OS ((List Int×Int)) (List Int)
 |(all1,v)=>
  if (decide (v < (at_.length:Int)))then
   (idx at_ v).bind fun n=>
   if (n==(0:Int))then
    (room 8 (all1.length+a_.First.length)).bind fun _=>
    cQ.k2 v (all1++a_.First)
   else
    (idx a_.Follow (IntKind.i64.wrap (n - (1:Int)))).bind fun xs=>
    (room 8 (all1.length+xs.length)).bind fun _=>
    cQ.k2 v (all1++xs)
  else
   (cQ.k1 a_ sign all1).map Step.done
def cQ(a_:cM)(at_:List Int)(sign:Int):Option (List Int):=
 Loop (cQ.b1 a_ at_ sign) ([],(0:Int))
def bu.k1:Option Int:=
 some (-1:Int)
def bu.b1(s:List Int)(f:Int→Option Bool):Int→OS Int Int
 |v=>
  if (decide (v < (s.length:Int)))then
   (idx s v).bind fun n=>
   (f n).bind fun r=>
   if r then
    some (Step.done v)
   else
    some (Step.next (IntKind.i64.wrap (v+(1:Int))))
  else
   (bu.k1).map Step.done
def bu(s:List Int)(f:Int→Option Bool):Option Int:=
 Loop (bu.b1 s f) (0:Int)
def cz(s:List Int)(f:Int→Option Bool):Option Bool:=
 (bu s f).bind fun r=>
 some (decide (r≥(0:Int)))
def cD.k1:Option Int:=
 some (-1:Int)
def cD.b1(s:List Int)(v:Int):Int→OS Int Int
 |v1=>
  if (decide (v1 < (s.length:Int)))then
   (idx s v1).bind fun n=>
   if (v==n)then
    some (Step.done v1)
   else
    some (Step.next (IntKind.i64.wrap (v1+(1:Int))))
  else
   (cD.k1).map Step.done
def cD(s:List Int)(v:Int):Option Int:=
 Loop (cD.b1 s v) (0:Int)
def dh(s:List Int)(v:Int):Option Bool:=
 (cD s v).bind fun r=>
 some (decide (r≥(0:Int)))
def ir(i:Int) (p1:cM):Option Bool:=
 (if (i==(0:Int))then
   if p1.Null then
    some true
   else
    (dh p1.Last i).bind fun r=>
    some r
  else
   (dh p1.Last i).bind fun r1=>
   some r1).bind fun v=>
 some v
def lP(a_:cM)(at_:List Int):Option Bool:=
 (cz at_ (fun x0=>ir x0 a_)).bind fun r=>
 some r
def bE.k2(newslice:List Int):Option (List Int):=
 some newslice
def bE.b1(slices:List (List Int)):(List Int×Int)→OS ((List Int×Int)) (List Int)
 |(newslice1,v)=>
  if (decide (v < (slices.length:Int)))then
   (idx slices v).bind fun xs=>
   (room 8 (newslice1.length+xs.length)).bind fun _=>
   some (Step.next ((newslice1++xs),(IntKind.i64.wrap (v+(1:Int)))))
  else
   (bE.k2 newslice1).map Step.done
def bE.k1(slices:List (List Int))(size:Int):Option (List Int):=
 (ie [] size).bind fun r=>
 Loop (bE.b1 slices) (r,(0:Int))
def bE.b2(slices:List (List Int)):(Int×Int)→OS ((Int×Int)) (List Int)
 |(size1,v1)=>
  if (decide (v1 < (slices.length:Int)))then
   (idx slices v1).bind fun xs1=>
   if (decide ((IntKind.i64.wrap (size1+(xs1.length:Int))) < (0:Int)))then
    none
   else
    some (Step.next ((IntKind.i64.wrap (size1+(xs1.length:Int))),(IntKind.i64.wrap (v1+(1:Int)))))
  else
   (bE.k1 slices size1).map Step.done
def bE(slices:List (List Int)):Option (List Int):=
 Loop (bE.b2 slices) ((0:Int),(0:Int))
def eh.k1(b:List UInt8):Option Str:=
 some b
def eh.b1(at_:List Int):(List UInt8×Int)→OS ((List UInt8×Int)) Str
 |(b1,v)=>
  if (decide (v < (at_.length:Int)))then
   (idx at_ v).bind fun n=>
   (room 1 (b1.length+2)).bind fun _=>
   some (Step.next ((b1++([(u8 (IntKind.u8.wrap (shR .i64 n (8:Int)))),(u8 (IntKind.u8.wrap n))])),(IntKind.i64.wrap (v+(1:Int)))))
  else
   (eh.k1 b1).map Step.done
def eh(at_:List Int):Option Str:=
 Loop (eh.b1 at_) ([],(0:Int))
def dw.k1(s:Int)(m:List (Str×Int))(v:List (List Int)):Option ((Int×List (Str×Int)×List (List Int))):=
 some (s,m,v)
def dw(at_:List Int)(p1:List (Str×Int))(p2:List (List Int)):Option ((Int×List (Str×Int)×List (List Int))):=
 (eh at_).bind fun r=>
 if (!(oL r p1).isSome)then
  (room 24 (p2.length+1)).bind fun _=>
  dw.k1 (p2.length:Int) (kF r (p2.length:Int) p1) (p2++([at_]))
 else
  dw.k1 ((oL r p1).getD (0:Int)) p1 p2
def bh.k1(Next:List (List Int))(Final:List Bool):Option ((fG×Int)):=
 some ((fG.mk Next Final),(0:Int))
def bh.k2(s:Int)(Next2:List (List Int))(Final2:List Bool)(v2:List (List Int))(m1:List (Str×Int)):OS ((Int×List (List Int)×List Bool×List (List Int)×List (Str×Int))) ((fG×Int)):=
 some (Step.next ((IntKind.i64.wrap (s+(1:Int))),Next2,Final2,v2,m1))
def bh.k3(a_:cM)(s:Int)(Next1:List (List Int))(Final1:List Bool)(row:List Int)(v3:List (List Int))(m2:List (Str×Int)):OS ((Int×List (List Int)×List Bool×List (List Int)×List (Str×Int))) ((fG×Int)):=
 (idx v3 s).bind fun xs=>
 (room 24 (Next1.length+1)).bind fun _=>
 (lP a_ xs).bind fun r2=>
 (room 1 (Final1.length+1)).bind fun _=>
 bh.k2 s (Next1++([row])) (Final1++([r2])) v3 m2
def bh.k4(limit:Int)(row1:List Int)(v4:Int)(v5:List (List Int))(m3:List (Str×Int))(at_:List Int):OS ((List Int×Int×List (List Int)×List (Str×Int))) (Step ((Int×List (List Int)×List Bool×List (List Int)×List (Str×Int))) ((fG×Int))):=
 (dw at_ m3 v5).bind fun r4=>
 (room 8 (row1.length+1)).bind fun _=>
 if (decide ((r4.2.2.length:Int) > limit))then
  some (Step.done (Step.done ((fG.mk ([]:List (List Int)) ([]:List Bool)),(8:Int))))
 else
  some (Step.next ((row1++([r4.1])),(IntKind.i64.wrap (v4+(1:Int))),r4.2.2,r4.2.1))
def bh.b2(a_:cM)(masks:List Int)(free:Bool)(limit:Int)(s:Int)(Next1:List (List Int))(Final1:List Bool):(List Int×Int×List (List Int)×List (Str×Int))→OS ((List Int×Int×List (List Int)×List (Str×Int))) (Step ((Int×List (List Int)×List Bool×List (List Int)×List (Str×Int))) ((fG×Int)))
 |(row1,v4,v5,m3)=>
  if (decide (v4 < (masks.length:Int)))then
   (idx masks v4).bind fun n=>
   (idx v5 s).bind fun xs1=>
   (cQ a_ xs1 n).bind fun r3=>
   if free then
    iA.bind fun r5=>
    (bE ([r5,r3])).bind fun r6=>
    bh.k4 limit row1 v4 v5 m3 r6
   else
    bh.k4 limit row1 v4 v5 m3 r3
  else
   (bh.k3 a_ s Next1 Final1 row1 v5 m3).map Step.done
def bh.b1(a_:cM)(masks:List Int)(free:Bool)(limit:Int):(Int×List (List Int)×List Bool×List (List Int)×List (Str×Int))→OS ((Int×List (List Int)×List Bool×List (List Int)×List (Str×Int))) ((fG×Int))
 |(s,Next1,Final1,v1,m)=>
  if (decide (s < (v1.length:Int)))then
   Loop (bh.b2 a_ masks free limit s Next1 Final1) ([],(0:Int),v1,m)
  else
   (bh.k1 Next1 Final1).map Step.done
def bh(a_:cM)(masks:List Int)(free:Bool)(limit:Int):Option ((fG×Int)):=
 if ((decide ((masks.length:Int) < (1:Int)))||((decide ((masks.length:Int) > (200:Int)))||((decide (limit < (1:Int)))||(decide (limit > (5000:Int))))))then
  some ((fG.mk ([]:List (List Int)) ([]:List Bool)),(1:Int))
 else
  iA.bind fun r=>
  (dw r [] []).bind fun r1=>
  Loop (bh.b1 a_ masks free limit) ((0:Int),[],[],r1.2.2,r1.2.1)
def fp(s:Int)(p1:Int):Option Bool:=
 some ((decide (s < (0:Int)))||(decide (s≥p1)))
def fP(row:List Int)(p1:Int)(p2:Int→Option Bool):Option Bool:=
 (if ((row.length:Int) != p1)then
   some true
  else
   (cz row p2).bind fun r=>
   some r).bind fun v=>
 some v
def bb.k1:Option Int:=
 some (-1:Int)
def bb.b1(s:List (List Int))(f:(List Int)→Option Bool):Int→OS Int Int
 |v=>
  if (decide (v < (s.length:Int)))then
   (idx s v).bind fun xs=>
   (f xs).bind fun r=>
   if r then
    some (Step.done v)
   else
    some (Step.next (IntKind.i64.wrap (v+(1:Int))))
  else
   (bb.k1).map Step.done
def bb(s:List (List Int))(f:(List Int)→Option Bool):Option Int:=
 Loop (bb.b1 s f) (0:Int)
def de(s:List (List Int))(f:(List Int)→Option Bool):Option Bool:=
 (bb s f).bind fun r=>
 some (decide (r≥(0:Int)))
def jq(d:fG):Option Bool:=
 if ((decide ((d.Next.length:Int) < (1:Int)))||((decide ((d.Next.length:Int) > (5000:Int)))||((d.Final.length:Int) != (d.Next.length:Int))))then
  some false
 else
  (d.Next[0]?).bind fun xs=>
  (if (decide ((xs.length:Int)≥(1:Int)))then
    if (decide ((xs.length:Int)≤(200:Int)))then
     (de d.Next (fun x0=>fP x0 (xs.length:Int) (fun x0=>fp x0 (d.Next.length:Int)))).bind fun r=>
     some (!r)
    else
     some false
   else
    some false).bind fun v1=>
  some v1
def eR.k1(b:List UInt8):Option Str:=
 some b
def eR.b1(kind:List Int)(row:List Int):(List UInt8×Int)→OS ((List UInt8×Int)) Str
 |(b1,v)=>
  if (decide (v < (row.length:Int)))then
   (idx row v).bind fun n1=>
   (idx kind n1).bind fun n2=>
   (room 1 (b1.length+2)).bind fun _=>
   some (Step.next ((b1++([(u8 (IntKind.u8.wrap (shR .i64 n2 (8:Int)))),(u8 (IntKind.u8.wrap n2))])),(IntKind.i64.wrap (v+(1:Int)))))
  else
   (eR.k1 b1).map Step.done
def eR(kind:List Int)(i:Int)(row:List Int):Option Str:=
 (idx kind i).bind fun n=>
 Loop (eR.b1 kind row) ([(u8 (IntKind.u8.wrap (shR .i64 n (8:Int)))),(u8 (IntKind.u8.wrap n))],(0:Int))
def aH.k2(kind2:List Int)(many1:Int):OS ((List Int×Int)) (List Int):=
 some (Step.next (kind2,many1))
def aH.k3(many:Int)(next:List Int)(m:List (Str×Int)):OS ((List Int×Int)) (List Int):=
 if ((m.length:Int)==many)then
  some (Step.done next)
 else
  aH.k2 next (m.length:Int)
def aH.k4(kind3:List Int)(next1:List Int)(v:Int)(n:Int)(m2:List (Str×Int)):OS ((List Int×List Int×Int×List (Str×Int))) (Step ((List Int×Int)) (List Int)):=
 (idx next1 v).bind fun n1=>
 some (Step.next (kind3,(List.set next1 (Int.toNat v) n),(IntKind.i64.wrap (v+(1:Int))),m2))
def aH.b2(d:fG)(kind1:List Int)(many:Int):(List Int×List Int×Int×List (Str×Int))→OS ((List Int×List Int×Int×List (Str×Int))) (Step ((List Int×Int)) (List Int))
 |(kind3,next1,v,m1)=>
  if (decide (v < (kind1.length:Int)))then
   (idx d.Next v).bind fun xs=>
   (eR kind3 v xs).bind fun r=>
   if (!(oL r m1).isSome)then
    aH.k4 kind3 next1 v (m1.length:Int) (kF r (m1.length:Int) m1)
   else
    aH.k4 kind3 next1 v ((oL r m1).getD (0:Int)) m1
  else
   (aH.k3 many next1 m1).map Step.done
def aH.b1(d:fG):(List Int×Int)→OS ((List Int×Int)) (List Int)
 |(kind1,many)=>
  (mk 8 (0:Int) (kind1.length:Int)).bind fun _=>
  Loop (aH.b2 d kind1 many) (kind1,(List.replicate (Int.toNat (kind1.length:Int)) (0:Int)),(0:Int),[])
def aH.k1(d:fG)(kind:List Int):Option (List Int):=
 Loop (aH.b1 d) (kind,(0:Int))
def aH.k5(v1:Int)(kind5:List Int):OS ((List Int×Int)) (List Int):=
 some (Step.next (kind5,(IntKind.i64.wrap (v1+(1:Int)))))
def aH.b3(d:fG):(List Int×Int)→OS ((List Int×Int)) (List Int)
 |(kind4,v1)=>
  if (decide (v1 < ((List.replicate (Int.toNat (d.Next.length:Int)) (0:Int)).length:Int)))then
   (idx d.Final v1).bind fun b=>
   if b then
    (idx kind4 v1).bind fun n2=>
    aH.k5 v1 (List.set kind4 (Int.toNat v1) (1:Int))
   else
    aH.k5 v1 kind4
  else
   (aH.k1 d kind4).map Step.done
def aH(d:fG):Option (List Int):=
 (mk 8 (0:Int) (d.Next.length:Int)).bind fun _=>
 Loop (aH.b3 d) ((List.replicate (Int.toNat (d.Next.length:Int)) (0:Int)),(0:Int))
def dx.k1(n1:Int)(m:List (Int×Int))(v:List Int):Option ((Int×List (Int×Int)×List Int)):=
 some (n1,m,v)
def dx(s:Int)(p1:List (Int×Int))(p2:List Int)(p3:List Int):Option ((Int×List (Int×Int)×List Int)):=
 (idx p2 s).bind fun n=>
 if (!(oL n p1).isSome)then
  (room 8 (p3.length+1)).bind fun _=>
  dx.k1 (p3.length:Int) (kF n (p3.length:Int) p1) (p3++([s]))
 else
  dx.k1 ((oL n p1).getD (0:Int)) p1 p3
def bT.k1(Next:List (List Int))(Final:List Bool):Option ((fG×Int)):=
 some ((fG.mk Next Final),(0:Int))
def bT.k2(i:Int)(m1:List (Int×Int))(v1:List Int)(Next2:List (List Int))(Final2:List Bool):OS ((Int×List (Int×Int)×List Int×List (List Int)×List Bool)) ((fG×Int)):=
 some (Step.next ((IntKind.i64.wrap (i+(1:Int))),m1,v1,Next2,Final2))
def bT.k3(d:fG)(i:Int)(Next1:List (List Int))(Final1:List Bool)(row:List Int)(m2:List (Int×Int))(v2:List Int):OS ((Int×List (Int×Int)×List Int×List (List Int)×List Bool)) ((fG×Int)):=
 (idx v2 i).bind fun n1=>
 (idx d.Final n1).bind fun b=>
 (room 24 (Next1.length+1)).bind fun _=>
 (room 1 (Final1.length+1)).bind fun _=>
 bT.k2 i m2 v2 (Next1++([row])) (Final1++([b]))
def bT.b2(d:fG)(r1:List Int)(i:Int)(Next1:List (List Int))(Final1:List Bool)(xs:List Int):(List Int×Int×List (Int×Int)×List Int)→OS ((List Int×Int×List (Int×Int)×List Int)) (Step ((Int×List (Int×Int)×List Int×List (List Int)×List Bool)) ((fG×Int)))
 |(row1,v3,m3,v4)=>
  if (decide (v3 < (xs.length:Int)))then
   (idx xs v3).bind fun n2=>
   (dx n2 m3 r1 v4).bind fun r3=>
   (room 8 (row1.length+1)).bind fun _=>
   some (Step.next ((row1++([r3.1])),(IntKind.i64.wrap (v3+(1:Int))),r3.2.1,r3.2.2))
  else
   (bT.k3 d i Next1 Final1 row1 m3 v4).map Step.done
def bT.b1(d:fG)(r1:List Int):(Int×List (Int×Int)×List Int×List (List Int)×List Bool)→OS ((Int×List (Int×Int)×List Int×List (List Int)×List Bool)) ((fG×Int))
 |(i,m,v,Next1,Final1)=>
  if (decide (i < (v.length:Int)))then
   (idx v i).bind fun n=>
   (idx d.Next n).bind fun xs=>
   Loop (bT.b2 d r1 i Next1 Final1 xs) ([],(0:Int),m,v)
  else
   (bT.k1 Next1 Final1).map Step.done
def bT(d:fG):Option ((fG×Int)):=
 (jq d).bind fun r=>
 if (!r)then
  some ((fG.mk ([]:List (List Int)) ([]:List Bool)),(1:Int))
 else
  (aH d).bind fun r1=>
  (dx (0:Int) [] r1 []).bind fun r2=>
  Loop (bT.b1 d r1) ((0:Int),r2.2.1,r2.2.2,[],[])
def ec(n:aD)(masks:List Int)(limit:Int):Option ((fG×Int)):=
 (jr n).bind fun r=>
 if (r.2 != (0:Int))then
  some ((fG.mk ([]:List (List Int)) ([]:List Bool)),r.2)
 else
  (bh r.1 masks true limit).bind fun r1=>
  if (r1.2 != (0:Int))then
   some ((fG.mk ([]:List (List Int)) ([]:List Bool)),r1.2)
  else
   (bT r1.1).bind fun r2=>
   some (r2.1,r2.2)
def aI.k2(props:List bZ):Option (Option bQ):=
 (aY props).bind fun r1=>
 (match r1.1 with
 |none=>
  some none
 |some y=>
  some (some y))
def aI.k3(v:Int)(props2:List bZ):OS ((List bZ×Int)) (Option bQ):=
 some (Step.next (props2,(IntKind.i64.wrap (v+(1:Int)))))
def aI.b1(a_:aQ)(r:List Int):(List bZ×Int)→OS ((List bZ×Int)) (Option bQ)
 |(props1,v)=>
  if (decide (v < (r.length:Int)))then
   (idx r v).bind fun n=>
   if (decide (n≤(1114111:Int)))then
    (eH a_ n).bind fun r2=>
    (room 24 (props1.length+1)).bind fun _=>
    aI.k3 v (props1++([(bZ.mk n (1114111:Int) (u8 (IntKind.u8.wrap r2)))]))
   else
    aI.k3 v props1
  else
   (aI.k2 props1).map Step.done
def aI.k1(a_:aQ)(edges:List Int):Option (Option bQ):=
 (tC edges).bind fun l=>
 (cY l).bind fun r=>
 Loop (aI.b1 a_ r) ([],(0:Int))
def aI.k4(v1:Int)(edges2:List Int):OS ((List Int×Int)) (Option bQ):=
 some (Step.next (edges2,(IntKind.i64.wrap (v1+(1:Int)))))
def aI.b3(v1:Int)(xs:List ah):(List Int×Int)→OS ((List Int×Int)) (Step ((List Int×Int)) (Option bQ))
 |(edges3,v2)=>
  if (decide (v2 < (xs.length:Int)))then
   (idx xs v2).bind fun x=>
   (room 8 (edges3.length+2)).bind fun _=>
   some (Step.next ((edges3++([x.Low,(IntKind.i64.wrap (x.High+(1:Int)))])),(IntKind.i64.wrap (v2+(1:Int)))))
  else
   (aI.k4 v1 edges3).map Step.done
def aI.b2(a_:aQ)(sets:List (List ah)):(List Int×Int)→OS ((List Int×Int)) (Option bQ)
 |(edges1,v1)=>
  if (decide (v1 < (sets.length:Int)))then
   (idx sets v1).bind fun xs=>
   Loop (aI.b3 v1 xs) (edges1,(0:Int))
  else
   (aI.k1 a_ edges1).map Step.done
def aI(a_:aQ)(sets:List (List ah)):Option (Option bQ):=
 Loop (aI.b2 a_ sets) ([(0:Int)],(0:Int))
def aR.k1(rules:List bP):Option ((Option aV×Int)):=
 none
def aR.k2(v1:Int)(rules2:List bP):OS ((Int×List bP)) ((Option aV×Int)):=
 some (Step.next ((IntKind.i64.wrap (v1+(1:Int))),rules2))
def aR.k3(v1:Int)(rules1:List bP)(x:nG)(Next:List (List Int))(Final:List Bool)(Next1:List (List Int))(Final1:List Bool):OS ((Int×List bP)) ((Option aV×Int)):=
 (room 104 (rules1.length+1)).bind fun _=>
 aR.k2 v1 (rules1++([(bP.mk x.Break (vK.mk (fG.mk Next Final) (fG.mk Next1 Final1)))]))
def aR.b1(p:bL)(limit:Int)(y:aQ):(Int×List bP)→OS ((Int×List bP)) ((Option aV×Int))
 |(v1,rules1)=>
  if (decide (v1 < (p.Rules.length:Int)))then
   (idx p.Rules v1).bind fun x=>
   (cy x.Right).bind fun r5=>
   (cV y).bind fun r6=>
   (ec ((mW.mk x.Left r5).v0) r6 limit).bind fun r7=>
   if (r7.2 != (0:Int))then
    some (Step.done (none,r7.2))
   else
    (cV y).bind fun r8=>
    (ec ((mW.mk x.Left r5).v1) r8 limit).bind fun r9=>
    if (r9.2 != (0:Int))then
     some (Step.done (none,r9.2))
    else
     aR.k3 v1 rules1 x r7.1.Next r7.1.Final r9.1.Next r9.1.Final
  else
   (aR.k1 rules1).map Step.done
def aR.k4(y1:bQ)(r4:Int)(rules3:List bP):Option ((Option aV×Int)):=
 some ((some (aV.mk rules3 y1 r4)),(0:Int))
def aR.k5(v2:Int)(rules5:List bP):OS ((Int×List bP)) ((Option aV×Int)):=
 some (Step.next ((IntKind.i64.wrap (v2+(1:Int))),rules5))
def aR.k6(v2:Int)(rules4:List bP)(x1:nG)(Next2:List (List Int))(Final2:List Bool)(Next3:List (List Int))(Final3:List Bool):OS ((Int×List bP)) ((Option aV×Int)):=
 (room 104 (rules4.length+1)).bind fun _=>
 aR.k5 v2 (rules4++([(bP.mk x1.Break (vK.mk (fG.mk Next2 Final2) (fG.mk Next3 Final3)))]))
def aR.b2(p:bL)(limit:Int)(y:aQ)(y1:bQ)(r4:Int):(Int×List bP)→OS ((Int×List bP)) ((Option aV×Int))
 |(v2,rules4)=>
  if (decide (v2 < (p.Rules.length:Int)))then
   (idx p.Rules v2).bind fun x1=>
   (cy x1.Right).bind fun r10=>
   (cV y).bind fun r11=>
   (ec ((mW.mk x1.Left r10).v0) r11 limit).bind fun r12=>
   if (r12.2 != (0:Int))then
    some (Step.done (none,r12.2))
   else
    (cV y).bind fun r13=>
    (ec ((mW.mk x1.Left r10).v1) r13 limit).bind fun r14=>
    if (r14.2 != (0:Int))then
     some (Step.done (none,r14.2))
    else
     aR.k6 v2 rules4 x1 r12.1.Next r12.1.Final r14.1.Next r14.1.Final
  else
   (aR.k4 y1 r4 rules4).map Step.done
def aR(p:bL) (limit:Int):Option ((Option aV×Int)):=
 ((bO p).bind fun r=>
   if (!r)then
    some true
   else
    if (decide (limit < (1:Int)))then
     some true
    else
     some (decide (limit > (5000:Int)))).bind fun v=>
 if v then
  some (none,(1:Int))
 else
  (aP p.Sets).bind fun r1=>
  (match r1.1 with
  |none=>
   if (r1.2 != (0:Int))then
    some (none,r1.2)
   else
    none
  |some y=>
   if (r1.2 != (0:Int))then
    some (none,r1.2)
   else
    (aI y p.Sets).bind fun r2=>
    (match r2 with
    |none=>
     (dS y).bind fun r3=>
     Loop (aR.b1 p limit y) ((0:Int),[])
    |some y1=>
     (dS y).bind fun r4=>
     Loop (aR.b2 p limit y y1 r4) ((0:Int),[])))
def ju(r:Int):Option Bool:=
 some ((decide (r < (0:Int)))||(decide (r > (1114111:Int))))
def jT(l:List Int):Option Bool:=
 (cz l (ju)).bind fun r=>
 some (!r)
def dE(i:Int)(p1:Int)(p2:List Int):Option Int:=
 if (p1==(1:Int))then
  some (IntKind.i64.wrap ((p2.length:Int) - i))
 else
  some i
def bm.k1(out:List Bool):Option (List Bool):=
 some out
def bm.k2(v:Int)(out2:List Bool)(s1:Int):OS ((List Bool×Int×Int)) (List Bool):=
 some (Step.next (out2,s1,(IntKind.i64.wrap (v+(1:Int)))))
def bm.b1(m:aV)(l:List Int)(d:fG)(which:Int):(List Bool×Int×Int)→OS ((List Bool×Int×Int)) (List Bool)
 |(out1,s,v)=>
  if (decide (v < ((List.replicate (Int.toNat (IntKind.i64.wrap ((l.length:Int)+(1:Int)))) false).length:Int)))then
   (idx d.Final s).bind fun b=>
   (dE v which l).bind fun r=>
   (idx out1 r).bind fun b1=>
   if (decide (v < (l.length:Int)))then
    (idx d.Next s).bind fun xs=>
    (dE v which l).bind fun r1=>
    (dE (IntKind.i64.wrap (v+(1:Int))) which l).bind fun r2=>
    (idx l (mn r1 r2)).bind fun n=>
    (gh m.trie n).bind fun r3=>
    (idx xs (r3.toNat:Int)).bind fun n1=>
    bm.k2 v (List.set out1 (Int.toNat r) b) n1
   else
    bm.k2 v (List.set out1 (Int.toNat r) b) s
  else
   (bm.k1 out1).map Step.done
def bm(m:aV)(l:List Int)(d:fG)(which:Int):Option (List Bool):=
 (mk 1 false (IntKind.i64.wrap ((l.length:Int)+(1:Int)))).bind fun _=>
 Loop (bm.b1 m l d which) ((List.replicate (Int.toNat (IntKind.i64.wrap ((l.length:Int)+(1:Int)))) false),(0:Int),(0:Int))
def ax.k2(out1:List Int):Option (List Int):=
 some out1
def ax.k3(k:Int)(out3:List Int):OS ((List Int×Int)) (List Int):=
 some (Step.next (out3,(IntKind.i64.wrap (k - (1:Int)))))
def ax.k4(v:Int)(out5:List Int):OS ((List Int×Int)) (Step ((List Int×Int)) (List Int)):=
 some (Step.next (out5,(IntKind.i64.wrap (v+(1:Int)))))
def ax.b2(out2:List Int)(k:Int)(r:List Bool)(r1:List Bool):(List Int×Int)→OS ((List Int×Int)) (Step ((List Int×Int)) (List Int))
 |(out4,v)=>
  if (decide (v < (out2.length:Int)))then
   ((idx r v).bind fun b=>
     if b then
      (idx r1 v).bind fun b1=>
      some b1
     else
      some false).bind fun v1=>
   if v1 then
    (idx out4 v).bind fun n=>
    ax.k4 v (List.set out4 (Int.toNat v) k)
   else
    ax.k4 v out4
  else
   (ax.k3 k out4).map Step.done
def ax.b1(m:aV)(l:List Int):(List Int×Int)→OS ((List Int×Int)) (List Int)
 |(out2,k)=>
  if (decide (k≥(0:Int)))then
   (idx m.rules k).bind fun x=>
   (bm m l x.states.v0 (0:Int)).bind fun r=>
   (bm m l x.states.v1 (1:Int)).bind fun r1=>
   Loop (ax.b2 out2 k r r1) (out2,(0:Int))
  else
   (ax.k2 out2).map Step.done
def ax.k1(m:aV)(l:List Int)(out:List Int):Option (List Int):=
 Loop (ax.b1 m l) (out,(IntKind.i64.wrap ((m.rules.length:Int) - (1:Int))))
def ax.b3(m:aV)(l:List Int):(List Int×Int)→OS ((List Int×Int)) (List Int)
 |(out6,v2)=>
  if (decide (v2 < ((List.replicate (Int.toNat (IntKind.i64.wrap ((l.length:Int)+(1:Int)))) (0:Int)).length:Int)))then
   (idx out6 v2).bind fun n1=>
   some (Step.next ((List.set out6 (Int.toNat v2) (-1:Int)),(IntKind.i64.wrap (v2+(1:Int)))))
  else
   (ax.k1 m l out6).map Step.done
def ax(m:aV)(l:List Int):Option (List Int):=
 (mk 8 (0:Int) (IntKind.i64.wrap ((l.length:Int)+(1:Int)))).bind fun _=>
 Loop (ax.b3 m l) ((List.replicate (Int.toNat (IntKind.i64.wrap ((l.length:Int)+(1:Int)))) (0:Int)),(0:Int))
def bj.k1(out:List Int):Option (List Int):=
 some out
def bj.k2(v:Int)(out2:List Int):OS ((List Int×Int)) (List Int):=
 some (Step.next (out2,(IntKind.i64.wrap (v+(1:Int)))))
def bj.b1(m:aV)(l:List Int)(r1:List Int):(List Int×Int)→OS ((List Int×Int)) (List Int)
 |(out1,v)=>
  if (decide (v < (r1.length:Int)))then
   (idx r1 v).bind fun n=>
   (if (v==(0:Int))then
     some true
    else
     if (v==(l.length:Int))then
      some true
     else
      if (decide (n < (0:Int)))then
       some true
      else
       (idx m.rules n).bind fun x=>
       some x.breaks).bind fun v1=>
   if v1 then
    (room 8 (out1.length+1)).bind fun _=>
    bj.k2 v (out1++([v]))
   else
    bj.k2 v out1
  else
   (bj.k1 out1).map Step.done
def bj(m:aV)(l:List Int):Option (List Int):=
 (jT l).bind fun r=>
 if (!r)then
  some ([]:List Int)
 else
  (ax m l).bind fun r1=>
  Loop (bj.b1 m l r1) ([],(0:Int))
def dv(m:aV)(l:List Int)(i:Int):Option Bool:=
 (bj m l).bind fun r=>
 (dh r i).bind fun r1=>
 some r1
def dF(m:aV) (l:List Int) (i:Int):Option Int:=
 ((jT l).bind fun r=>
   if (!r)then
    some true
   else
    if (decide (i < (0:Int)))then
     some true
    else
     some (decide (i > (l.length:Int)))).bind fun v=>
 if v then
  some (-1:Int)
 else
  (ax m l).bind fun r1=>
  (idx r1 i).bind fun n=>
  some n
def ar.k2:Option Bool:=
 some true
def ar.b1(self:aD→Option Bool)(n:aD):Int→OS Int Bool
 |i=>
  if (decide (i < (n.Kids.length:Int)))then
   (idx n.Kids i).bind fun x=>
   (self x).bind fun r=>
   if (!r)then
    some (Step.done false)
   else
    some (Step.next (IntKind.i64.wrap (i+(1:Int))))
  else
   (ar.k2).map Step.done
def ar.k1(self:aD→Option Bool)(n:aD):Option Bool:=
 Loop (ar.b1 self n) (0:Int)
def ar.k3(self:aD→Option Bool)(n:aD)(v1:Bool):Option Bool:=
 if v1 then
  if ((n.Kids.length:Int) != (1:Int))then
   some false
  else
   ar.k1 self n
 else
  some false
def ar.r:Nat→aD→Option Bool
 |0,_=>none
 |fu+1,n=>
  if (n.Kind==(1:Int))then
   some (((n.Kids.length:Int)==(0:Int))&&((decide (n.Set≥(0:Int)))&&(decide (n.Set≤(63:Int)))))
  else
   if (n.Kind==(0:Int))then
    ar.k1 (ar.r fu) n
   else
    if (n.Kind==(2:Int))then
     if ((n.Kids.length:Int)==(0:Int))then
      some false
     else
      ar.k1 (ar.r fu) n
    else
     if (n.Kind==(3:Int))then
      ar.k3 (ar.r fu) n (n.Kind==(3:Int))
     else
      if (n.Kind==(4:Int))then
       ar.k3 (ar.r fu) n (n.Kind==(4:Int))
      else
       ar.k3 (ar.r fu) n (n.Kind==(5:Int))
def ar(n:aD):Option Bool:=lim fun fuZ=>ar.r fuZ n
def bD.k1(is:Bool):Option Bool:=
 some is
def bD.k2(i:Int)(is2:Bool):OS ((Bool×Int)) Bool:=
 some (Step.next (is2,(IntKind.i64.wrap (i+(1:Int)))))
def bD.b1(a_:List Bool):(Bool×Int)→OS ((Bool×Int)) Bool
 |(is1,i)=>
  if (decide (i < (a_.length:Int)))then
   if is1 then
    bD.k2 i true
   else
    (idx a_ i).bind fun b=>
    bD.k2 i b
  else
   (bD.k1 is1).map Step.done
def bD(a_:List Bool):Option Bool:=
 Loop (bD.b1 a_) (false,(0:Int))
def bc.k1(out:List Bool):Option (List Bool):=
 some out
def bc.k2(i:Int)(out2:List Bool):OS ((List Bool×Int)) (List Bool):=
 some (Step.next (out2,(IntKind.i64.wrap (i+(1:Int)))))
def bc.b1(a_:List Bool)(b:List Bool):(List Bool×Int)→OS ((List Bool×Int)) (List Bool)
 |(out1,i)=>
  if (decide (i < (a_.length:Int)))then
   (idx a_ i).bind fun b1=>
   if b1 then
    (idx out1 i).bind fun b2=>
    bc.k2 i (List.set out1 (Int.toNat i) true)
   else
    (idx b i).bind fun b3=>
    (idx out1 i).bind fun b4=>
    bc.k2 i (List.set out1 (Int.toNat i) b3)
  else
   (bc.k1 out1).map Step.done
def bc(a_:List Bool)(b:List Bool):Option (List Bool):=
 (mk 1 false (a_.length:Int)).bind fun _=>
 Loop (bc.b1 a_ b) ((List.replicate (Int.toNat (a_.length:Int)) false),(0:Int))
def ab.k1(v:List Bool):Option (List Bool):=
 some v
def ab.k2(v2:Int)(v3:List Bool):OS ((List Bool×Int)) (List Bool):=
 some (Step.next (v3,(IntKind.i64.wrap (v2+(1:Int)))))
def ab.b1(t:aD)(o:List Int)(A:List Bool):(List Bool×Int)→OS ((List Bool×Int)) (List Bool)
 |(v1,v2)=>
  if (decide (v2 < (o.length:Int)))then
   (idx A v2).bind fun b=>
   if b then
    (idx o v2).bind fun n=>
    (nat (IntKind.u64.wrap t.Set)).bind fun _=>
    (idx v1 (IntKind.i64.wrap (v2+(1:Int)))).bind fun b1=>
    ab.k2 v2 (List.set v1 (Int.toNat (IntKind.i64.wrap (v2+(1:Int)))) ((amL .u64 (shR .u64 n (IntKind.u64.wrap t.Set)) (1:Int))==(1:Int)))
   else
    (idx v1 (IntKind.i64.wrap (v2+(1:Int)))).bind fun b2=>
    ab.k2 v2 (List.set v1 (Int.toNat (IntKind.i64.wrap (v2+(1:Int)))) false)
  else
   (ab.k1 v1).map Step.done
def ab.b2(self:aD→(List Int)→(List Bool)→Option (List Bool))(t:aD)(o:List Int):(List Bool×Int)→OS ((List Bool×Int)) (List Bool)
 |(v4,v5)=>
  if (decide (v5 < (t.Kids.length:Int)))then
   (idx t.Kids v5).bind fun x=>
   (self x o v4).bind fun r1=>
   some (Step.next (r1,(IntKind.i64.wrap (v5+(1:Int)))))
  else
   (ab.k1 v4).map Step.done
def ab.b3(self:aD→(List Int)→(List Bool)→Option (List Bool))(t:aD)(o:List Int)(A:List Bool):(List Bool×Int)→OS ((List Bool×Int)) (List Bool)
 |(v6,v7)=>
  if (decide (v7 < (t.Kids.length:Int)))then
   (idx t.Kids v7).bind fun x1=>
   (self x1 o A).bind fun r2=>
   (bc v6 r2).bind fun r3=>
   some (Step.next (r3,(IntKind.i64.wrap (v7+(1:Int)))))
  else
   (ab.k1 v6).map Step.done
def ab.k4(v11:List Bool)(v12:List Bool):OS ((List Bool×List Bool)) (List Bool):=
 some (Step.next (v11,v12))
def ab.k5(v9:List Bool)(r8:List Bool)(v13:List Bool):OS ((List Bool×List Bool)) (List Bool):=
 (bc v9 r8).bind fun r9=>
 ab.k4 r9 v13
def ab.k6(v15:Int)(v16:List Bool):OS ((List Bool×Int)) (Step ((List Bool×List Bool)) (List Bool)):=
 some (Step.next (v16,(IntKind.i64.wrap (v15+(1:Int)))))
def ab.b5(v9:List Bool)(r8:List Bool):(List Bool×Int)→OS ((List Bool×Int)) (Step ((List Bool×List Bool)) (List Bool))
 |(v14,v15)=>
  if (decide (v15 < (v9.length:Int)))then
   (idx r8 v15).bind fun b3=>
   if b3 then
    (idx v9 v15).bind fun b4=>
    (idx v14 v15).bind fun b5=>
    ab.k6 v15 (List.set v14 (Int.toNat v15) (!b4))
   else
    (idx v14 v15).bind fun b6=>
    ab.k6 v15 (List.set v14 (Int.toNat v15) false)
  else
   (ab.k5 v9 r8 v14).map Step.done
def ab.b4(self:aD→(List Int)→(List Bool)→Option (List Bool))(o:List Int)(x3:aD):(List Bool×List Bool)→OS ((List Bool×List Bool)) (List Bool)
 |(v9,v10)=>
  (bD v10).bind fun r7=>
  if r7 then
   (self x3 o v10).bind fun r8=>
   (mk 1 false (v9.length:Int)).bind fun _=>
   Loop (ab.b5 v9 r8) ((List.replicate (Int.toNat (v9.length:Int)) false),(0:Int))
  else
   (ab.k1 v9).map Step.done
def ab.k3(self:aD→(List Int)→(List Bool)→Option (List Bool))(o:List Int)(x3:aD)(v8:List Bool):Option (List Bool):=
 Loop (ab.b4 self o x3) (v8,v8)
def ab.r:Nat→aD→(List Int)→(List Bool)→Option (List Bool)
 |0,_,_,_=>none
 |fu+1,t,o,A=>
  (mk 1 false (IntKind.i64.wrap ((o.length:Int)+(1:Int)))).bind fun _=>
  (bD A).bind fun r=>
  if (!r)then
   some (List.replicate (Int.toNat (IntKind.i64.wrap ((o.length:Int)+(1:Int)))) false)
  else
   if (t.Kind==(1:Int))then
    Loop (ab.b1 t o A) ((List.replicate (Int.toNat (IntKind.i64.wrap ((o.length:Int)+(1:Int)))) false),(0:Int))
   else
    if (t.Kind==(0:Int))then
     Loop (ab.b2 (ab.r fu) t o) (A,(0:Int))
    else
     if (t.Kind==(2:Int))then
      Loop (ab.b3 (ab.r fu) t o A) ((List.replicate (Int.toNat (IntKind.i64.wrap ((o.length:Int)+(1:Int)))) false),(0:Int))
     else
      if (t.Kind==(5:Int))then
       (t.Kids[0]?).bind fun x2=>
       ((ab.r fu) x2 o A).bind fun r4=>
       (bc A r4).bind fun r5=>
       ab.k1 r5
      else
       (t.Kids[0]?).bind fun x3=>
       ((ab.r fu) x3 o A).bind fun r6=>
       if (t.Kind==(3:Int))then
        (bc r6 A).bind fun r10=>
        ab.k3 (ab.r fu) o x3 r10
       else
        ab.k3 (ab.r fu) o x3 r6
def ab(t:aD)(o:List Int)(A:List Bool):Option (List Bool):=lim fun fuZ=>ab.r fuZ t o A
def bR.k1(n:aD)(word:List Int)(at_:List Bool):Option Bool:=
 (ab n word at_).bind fun r1=>
 (idx r1 (word.length:Int)).bind fun b=>
 some b
def bR.b1(n:aD)(word:List Int):(List Bool×Int)→OS ((List Bool×Int)) Bool
 |(at_1,i)=>
  if (decide (i≤(word.length:Int)))then
   (idx at_1 i).bind fun b1=>
   some (Step.next ((List.set at_1 (Int.toNat i) true),(IntKind.i64.wrap (i+(1:Int)))))
  else
   (bR.k1 n word at_1).map Step.done
def bR(n:aD)(word:List Int):Option Bool:=
 (ar n).bind fun r=>
 if (!r)then
  some false
 else
  (mk 1 false (IntKind.i64.wrap ((word.length:Int)+(1:Int)))).bind fun _=>
  Loop (bR.b1 n word) ((List.replicate (Int.toNat (IntKind.i64.wrap ((word.length:Int)+(1:Int)))) false),(0:Int))
def eG(n:aD)(word:List Int):Option Bool:=
 (ar n).bind fun r=>
 if (!r)then
  some false
 else
  (mk 1 false (IntKind.i64.wrap ((word.length:Int)+(1:Int)))).bind fun _=>
  ((List.replicate (Int.toNat (IntKind.i64.wrap ((word.length:Int)+(1:Int)))) false)[0]?).bind fun b=>
  (ab n word (List.set (List.replicate (Int.toNat (IntKind.i64.wrap ((word.length:Int)+(1:Int)))) false) (Int.toNat (0:Int)) true)).bind fun r1=>
  (bD r1).bind fun r2=>
  some r2
def bX.k1:Option Int:=
 some (-1:Int)
def bX.b1(p:bL)(i:Int)(r1:List Int):Int→OS Int Int
 |k=>
  if (decide (k < (p.Rules.length:Int)))then
   (idx p.Rules k).bind fun x=>
   (cutH r1 i).bind fun _=>
   (bR x.Left (List.take (Int.toNat i) r1)).bind fun r2=>
   (cutL r1 i).bind fun _=>
   (eG x.Right (List.drop (Int.toNat i) r1)).bind fun r3=>
   if (r2&&r3)then
    some (Step.done k)
   else
    some (Step.next (IntKind.i64.wrap (k+(1:Int))))
  else
   (bX.k1).map Step.done
def bX(p:bL)(l:List Int)(i:Int):Option Int:=
 (av p.Sets).bind fun r=>
 (match r.1 with
 |none=>
  if (r.2 != (0:Int))then
   some (-1:Int)
  else
   none
 |some y=>
  if (r.2 != (0:Int))then
   some (-1:Int)
  else
   (aK y l).bind fun r1=>
   Loop (bX.b1 p i r1) (0:Int))
def bI.k1:Option Bool:=
 some true
def bI.b1(a_:List Int)(b:List Int):Int→OS Int Bool
 |i=>
  if (decide (i < (a_.length:Int)))then
   (idx a_ i).bind fun n=>
   (idx b i).bind fun n1=>
   if (n != n1)then
    some (Step.done false)
   else
    some (Step.next (IntKind.i64.wrap (i+(1:Int))))
  else
   (bI.k1).map Step.done
def bI(a_:List Int)(b:List Int):Option Bool:=
 if ((a_.length:Int) != (b.length:Int))then
  some false
 else
  Loop (bI.b1 a_ b) (0:Int)
def eV:Option Bool:=
 (ee ([(u8 (115:Int)),(u8 (101:Int)),(u8 (116:Int)),(u8 (32:Int)),(u8 (97:Int)),(u8 (32:Int)),(u8 (61:Int)),(u8 (32:Int)),(u8 (91:Int)),(u8 (97:Int)),(u8 (45:Int)),(u8 (122:Int)),(u8 (93:Int)),(u8 (59:Int)),(u8 (32:Int)),(u8 (107:Int)),(u8 (101:Int)),(u8 (101:Int)),(u8 (112:Int)),(u8 (32:Int)),(u8 (97:Int)),(u8 (32:Int)),(u8 (47:Int)),(u8 (32:Int)),(u8 (97:Int)),(u8 (59:Int))])).bind fun r=>
 (aR r.1 (100:Int)).bind fun r1=>
 (match r1.1 with
 |none=>
  some false
 |some y=>
  (if (r.2.2==(0:Int))then
    if (r1.2==(0:Int))then
     (ef ([(u8 (97:Int)),(u8 (98:Int)),(u8 (32:Int)),(u8 (99:Int))])).bind fun r2=>
     (bj y r2).bind fun r3=>
     (bI r3 ([(0:Int),(2:Int),(3:Int),(4:Int)])).bind fun r4=>
     some r4
    else
     some false
   else
    some false).bind fun v=>
  some v)
def af.k2:Option Bool:=
 none
def af.b1(p:bL)(l:List Int):Unit→OS Unit Bool
 |()=>
  if (decide ((0:Int)≤(l.length:Int)))then
   (bX p l (0:Int)).bind fun r3=>
   (if ((0:Int)==(0:Int))then
     some true
    else
     if ((0:Int)==(l.length:Int))then
      some true
     else
      if (decide (r3 < (0:Int)))then
       some true
      else
       (idx p.Rules r3).bind fun x=>
       some x.Break).bind fun is=>
   none
  else
   (af.k2).map Step.done
def af.k1(p:bL)(l:List Int):Option Bool:=
 Loop (af.b1 p l) ()
def af.b2(p:bL)(l:List Int):Int→OS Int Bool
 |i=>
  if (decide (i < (l.length:Int)))then
   ((idx l i).bind fun n=>
     if (decide (n < (0:Int)))then
      some true
     else
      some (decide (n > (1114111:Int)))).bind fun v1=>
   if v1 then
    none
   else
    some (Step.next (IntKind.i64.wrap (i+(1:Int))))
  else
   (af.k1 p l).map Step.done
def af.k4(l:List Int)(y:aV)(want:List Int):Option Bool:=
 (bj y l).bind fun r4=>
 (bI r4 want).bind fun r5=>
 some r5
def af.k5(i1:Int)(want2:List Int):OS ((List Int×Int)) Bool:=
 some (Step.next (want2,(IntKind.i64.wrap (i1+(1:Int)))))
def af.b3(p:bL)(l:List Int)(y:aV):(List Int×Int)→OS ((List Int×Int)) Bool
 |(want1,i1)=>
  if (decide (i1≤(l.length:Int)))then
   (bX p l i1).bind fun r6=>
   (if (i1==(0:Int))then
     some true
    else
     if (i1==(l.length:Int))then
      some true
     else
      if (decide (r6 < (0:Int)))then
       some true
      else
       (idx p.Rules r6).bind fun x1=>
       some x1.Break).bind fun is1=>
   ((dF y l i1).bind fun r7=>
     if (r7 != r6)then
      some true
     else
      (dv y l i1).bind fun r8=>
      some (!(r8==is1))).bind fun v2=>
   if v2 then
    some (Step.done false)
   else
    if is1 then
     (room 8 (want1.length+1)).bind fun _=>
     af.k5 i1 (want1++([i1]))
    else
     af.k5 i1 want1
  else
   (af.k4 l y want1).map Step.done
def af.k3(p:bL)(l:List Int)(y:aV):Option Bool:=
 Loop (af.b3 p l y) ([],(0:Int))
def af.b4(p:bL)(l:List Int)(y:aV):Int→OS Int Bool
 |i2=>
  if (decide (i2 < (l.length:Int)))then
   ((idx l i2).bind fun n1=>
     if (decide (n1 < (0:Int)))then
      some true
     else
      some (decide (n1 > (1114111:Int)))).bind fun v3=>
   if v3 then
    ((bj y l).bind fun r9=>
      if ((r9.length:Int)==(0:Int))then
       (dF y l (0:Int)).bind fun r10=>
       if (r10==(-1:Int))then
        (dv y l (0:Int)).bind fun r11=>
        some (!r11)
       else
        some false
      else
       some false).bind fun v4=>
    some (Step.done v4)
   else
    some (Step.next (IntKind.i64.wrap (i2+(1:Int))))
  else
   (af.k3 p l y).map Step.done
def af(p:bL) (l:List Int):Option Bool:=
 eV.bind fun r=>
 (aW p).bind fun r1=>
 if ((!r)||((!r1)||(decide ((l.length:Int) > (12:Int)))))then
  some r
 else
  (aR p (40:Int)).bind fun r2=>
  (match r2.1 with
  |none=>
   if (r2.2 != (0:Int))then
    some true
   else
    Loop (af.b2 p l) (0:Int)
  |some y=>
   if (r2.2 != (0:Int))then
    some false
   else
    Loop (af.b4 p l y) (0:Int))
end
end Go.Val
namespace Go.Val
set_option maxRecDepth 20000
open Go.Proofs
theorem kJ:∀(fu:Nat) (n:aD) (most:Int) (deep:Int) {h:bn} {a:Int} (e:bf.r fu n most deep=some a),
  cq CT 30 [.cv (.val (.agg [.int .i64 n.Kind,.int .i64 n.Set,.sl (List.map bW n.Kids)])),vI most,vI deep] h fun o h'=>o=[vI a]∧h'=h:=by
 intro fu
 induction fu with
 |zero=>intros;rename_i e;simp[bf.r]at e
 |succ fu ih=>
  intro n most deep h a e
  refine bg Tryz.func30 fun hwf hu=>?_
  obtain⟨D,hD,hr⟩:=Holds.one e
  dsimp only[bf.r]at hr
  change aO _ _ _ _ _ ⟨[(0,.cv (.val (.agg [.int .i64 n.Kind,.int .i64 n.Set,.sl (List.map bW n.Kids)]))),(1,vI most),(2,vI deep)],h.on []⟩
  iterate 2 refine A_s ?_
  refine al (A_s ?_)
  refine w_K (D:=D) (fun xX:Int=>⟨[(1,vI most),(7,vI xX)],h.on []⟩) (fun xX:Int=>bf.k1 most xX) (fun k s' hr ht=>?_) ?_
  ·dsimp only[bf.k1]at hr ht
   refine(dG ht ?_)
   refine A_s ?_
   refine bk ?_
   obtain rfl:=hD _ hr
   exact(aN (aU (os':=[]) (sl:=[(6,vI (mn k most))]) hwf) ⟨rfl,aE hwf⟩)
  ·refine aw (cb (fun xX:(Int×Int)=>⟨[(1,vI most),(2,vI deep),(3,vP (h.n+0)),(7,vI xX.1),(8,vI xX.2)],h.on [some (.cells [wI n.Kind,wI n.Set,wL bW n.Kids])]⟩) hr A_c (fun W1 xX hr=>?_))
   obtain⟨k1,i⟩:=xX
   dsimp only[bf.b1]at hr
   refine al (A_s ?_)
   refine ak hr (fun cF1 hr=>?_) (fun cF1 hr=>?_)
   ·refine az (w_n (al (aw (al (cf (sj:=⟨[(1,vI most),(2,vI deep),(3,vP (h.n+0)),(7,vI k1),(8,vI i),(22,vB ((decide (k1≥most))||(decide (deep≤(0:Int)))))],h.on [some (.cells [wI n.Kind,wI n.Set,wL bW n.Kids])]⟩) (cB ?_) ?_)))))
    ·refine aG 4 ?_
     rcases Bool.eq_false_or_eq_true (decide (k1≥most))with cF2|cF2
     ·refine aj ?_
      exact w_k A_c
     ·refine aj ?_
      exact w_k A_c
    refine ak hr (fun cF3 hr=>?_) (fun cF3 hr=>?_)
    ·refine A_s ?_
     refine bk ?_
     obtain rfl:=hD _ hr
     exact(cm (fa (cm (cm (fa (cm (cm (aN (aU (os':=[]) (sl:=[(6,vI most)]) hwf) ⟨rfl,aE hwf⟩))))))))
    ·refine az (w_n (cB ?_))
     obtain⟨x,nF4,eF5,gF6,hr⟩:=hr.idx
     refine aG 11 ?_
     obtain⟨r,eF7,hr⟩:=hr.bind
     refine aT (out:=?o7) (hp:=?p7) ?c7 ?d7 ?_
     case c7=>exact ih x (IntKind.i64.wrap (most - k1)) (IntKind.i64.wrap (deep - (1:Int))) eF7
     case d7=>rfl
     refine aj ?_
     refine(dC (w_n ?_))
     refine aC ?_
     exact(w_k ⟨((IntKind.i64.wrap (k1+r)),(IntKind.i64.wrap (i+(1:Int)))),hr,A_c⟩)
   ·exact ca (cX (cX (fm (w_k ⟨k1,(hr).map,A_c⟩))))
theorem iu(n:aD)(most:Int)(deep:Int){h:bn}{a:Int}(e:bf n most deep=some a):
  cq CT 30 [.cv (.val (.agg [.int .i64 n.Kind,.int .i64 n.Set,.sl (List.map bW n.Kids)])),vI most,vI deep] h fun o h'=>o=[vI a]∧h'=h:=by
 obtain⟨fuN,fuH⟩:=jK e
 exact kJ fuN n most deep (fuH fuN (nR fuN))
theorem nd(p:bL) {h:bn} {a:Bool} (e:aW p=some a):
  cq CT 10 [.cv (.val (.agg [.sl (List.map (eL ay) p.Sets),.sl (List.map eu p.Rules)]))] h fun o h'=>o=[vB a]∧h'=h:=by
 refine bg Tryz.func10 fun hwf hu=>?_
 obtain⟨D,hD,hr⟩:=Holds.one e
 dsimp only[aW]at hr
 change aO _ _ _ _ _ ⟨[(0,.cv (.val (.agg [.sl (List.map (eL ay) p.Sets),.sl (List.map eu p.Rules)])))],h.on []⟩
 refine A_s ?_
 refine al (cf (sj:=⟨[(1,vP (h.n+0)),(14,vB ((decide ((p.Sets.length:Int) > (8:Int)))||(decide ((p.Rules.length:Int) > (6:Int)))))],h.on [some (.cells [wL (eL ay) p.Sets,wL eu p.Rules])]⟩) (cB ?_) ?_)
 ·refine aG 5 ?_
  rcases Bool.eq_false_or_eq_true (decide ((p.Sets.length:Int) > (8:Int)))with cF1|cF1
  ·refine aj ?_
   exact w_k A_c
  ·refine aj ?_
   exact w_k A_c
 refine ak hr (fun cF2 hr=>?_) (fun cF2 hr=>?_)
 ·refine A_s ?_
  refine bk ?_
  obtain rfl:=hD _ hr
  exact(cm (aN (aU (os':=[]) (sl:=[(2,vB false)]) hwf) ⟨rfl,aE hwf⟩))
 ·refine az (w_n (al (A_s ?_)))
  refine w_K (D:=D) (fun xX:Unit=>⟨[(1,vP (h.n+0))],h.on [some (.cells [wL (eL ay) p.Sets,wL eu p.Rules])]⟩) (fun xX:Unit=>aW.k1 p) (fun xX s' hr ht=>?_) ?_
  ·dsimp only[aW.k1]at hr ht
   refine(dG ht ?_)
   refine al (A_s ?_)
   refine w_K (D:=D) (fun xX:Unit=>⟨[],h.on []⟩) (fun xX:Unit=>aW.k2) (fun xX s' hr ht=>?_) ?_
   ·dsimp only[aW.k2]at hr ht
    refine(dG ht ?_)
    refine A_s ?_
    refine bk ?_
    obtain rfl:=hD _ hr
    exact(aN (aU (os':=[]) (sl:=[(2,vB true)]) hwf) ⟨rfl,aE hwf⟩)
   ·refine aw (cb (fun xX:Int=>⟨[(1,vP (h.n+0)),(4,vI xX)],h.on [some (.cells [wL (eL ay) p.Sets,wL eu p.Rules])]⟩) hr A_c (fun W1 i hr=>?_))
    dsimp only[aW.b1]at hr
    refine al (A_s ?_)
    refine ak hr (fun cF3 hr=>?_) (fun cF3 hr=>?_)
    ·refine az (w_n (al (aw ?_)))
     obtain⟨v1,vF10,hr⟩:=hr.bind
     refine cf (sj:=⟨[(1,vP (h.n+0)),(4,vI i),(53,vB v1)],h.on [some (.cells [wL (eL ay) p.Sets,wL eu p.Rules])]⟩) (cB ?_) ?_
     ·have hr:=Holds.intro (D:=fun z=>z=v1) vF10 rfl
      obtain⟨x,nF4,eF5,gF6,hr⟩:=hr.idx
      refine aG 6 ?_
      obtain⟨r,eF7,hr⟩:=hr.bind
      refine aT (out:=?o7) (hp:=?p7) ?c7 ?d7 ?_
      case c7=>exact iu x.Left (15:Int) (10:Int) eF7
      case d7=>rfl
      refine aG 2 ?_
      rcases hr.ite with⟨cF8,hr⟩|⟨cF8,hr⟩
      ·refine aG 6 ?_
       refine iF ?_
       refine aj ?_
       obtain rfl:_=v1:=hr
       exact w_k A_c
      ·refine aG 6 ?_
       obtain⟨r1,eF9,hr⟩:=hr.bind
       refine aT (out:=?o9) (hp:=?p9) ?c9 ?d9 ?_
       case c9=>exact iu x.Right (15:Int) (10:Int) eF9
       case d9=>rfl
       refine aj ?_
       obtain rfl:_=v1:=hr
       exact w_k A_c
     refine ak hr (fun cF11 hr=>?_) (fun cF11 hr=>?_)
     ·refine A_s ?_
      refine bk ?_
      obtain rfl:=hD _ hr
      exact(fa (cm (cm (fa (cm (cm (aN (aU (os':=[]) (sl:=[(2,vB false)]) hwf) ⟨rfl,aE hwf⟩)))))))
     ·refine az (dC (w_n ?_))
      refine aC ?_
      exact(w_k ⟨(IntKind.i64.wrap (i+(1:Int))),hr,A_c⟩)
    ·exact ca (cX (cX (fm (w_k ⟨(),(hr).map,A_c⟩))))
  ·refine aw (cb (fun xX:Int=>⟨[(1,vP (h.n+0)),(3,vI xX)],h.on [some (.cells [wL (eL ay) p.Sets,wL eu p.Rules])]⟩) hr A_c (fun W2 i1 hr=>?_))
   dsimp only[aW.b2]at hr
   refine al (A_s ?_)
   refine ak hr (fun cF12 hr=>?_) (fun cF12 hr=>?_)
   ·refine az (w_n (al (aw (al ?_))))
    obtain⟨xs,nF13,eF14,gF15,hr⟩:=hr.idx
    refine A_n ?_
    refine ak hr (fun cF16 hr=>?_) (fun cF16 hr=>?_)
    ·refine A_s ?_
     refine bk ?_
     obtain rfl:=hD _ hr
     exact(fa (cm (cm (fa (cm (cm (aN (aU (os':=[]) (sl:=[(2,vB false)]) hwf) ⟨rfl,aE hwf⟩)))))))
    ·refine az (dC (w_n ?_))
     refine aC ?_
     exact(w_k ⟨(IntKind.i64.wrap (i1+(1:Int))),hr,A_c⟩)
   ·exact ca (cX (cX (fm (w_k ⟨(),(hr).map,A_c⟩))))
theorem pG(x:ah){h:bn}{a:Bool}(e:gA x=some a):
  cq CT 142 [.cv (.val (.agg [.int .i64 x.Low,.int .i64 x.High]))] h fun o h'=>o=[vB a]∧h'=h:=by
 refine bg Tryz.func142 fun hwf hu=>?_
 obtain⟨D,hD,hr⟩:=Holds.one e
 dsimp only[gA]at hr
 change aO _ _ _ _ _ ⟨[(0,.cv (.val (.agg [.int .i64 x.Low,.int .i64 x.High])))],h.on []⟩
 refine A_s ?_
 refine cf (sj:=⟨[(2,vB ((decide (x.Low < (0:Int)))||((decide (x.High > (1114111:Int)))||(decide (x.Low > x.High)))))],h.on []⟩) (cB ?_) ?_
 ·refine aG 4 ?_
  rcases Bool.eq_false_or_eq_true (decide (x.Low < (0:Int)))with cF1|cF1
  ·refine aj ?_
   exact w_k A_c
  ·refine aG 5 ?_
   rcases Bool.eq_false_or_eq_true (decide (x.High > (1114111:Int)))with cF2|cF2
   ·refine aj ?_
    exact w_k A_c
   ·refine aj ?_
    exact w_k A_c
 refine bk ?_
 obtain rfl:=hD _ hr
 exact(aN (aU (os':=[]) (sl:=[(2,vB ((decide (x.Low < (0:Int)))||((decide (x.High > (1114111:Int)))||(decide (x.Low > x.High)))))]) hwf) ⟨rfl,aE hwf⟩)
theorem fV(s:List ah)(f:ah→Option Bool)(fid_f:FuncId)(caps_f:List au){h:bn}(h_f:∀os x0 r,f x0=some r→cq CT fid_f ([.cv (.val (.agg [.int .i64 x0.Low,.int .i64 x0.High]))]++jI caps_f) (h.on os) fun o h'=>o=[vB r]∧h'=h.on os)(d_f:∀i,CT.how fid_f i= .data){a:Int}(e:aJ s f=some a):
  cq CT 202 [vL ay s,.cv (.val (.fn fid_f [] caps_f))] h fun o h'=>o=[vI a]∧h'=h:=by
 refine bg Tryz.func202 fun hwf hu=>?_
 have u_f:cc h.n caps_f:=(hu (.cv (.val (.fn fid_f [] caps_f))) (by simp)).2
 have vu_f:=fun k=>fN (k:=k) u_f
 obtain⟨D,hD,hr⟩:=Holds.one e
 dsimp only[aJ]at hr
 change aO _ _ _ _ _ ⟨[(0,vL ay s),(1,.cv (.val (.fn fid_f [] caps_f)))],h.on []⟩
 refine A_s ?_
 refine al (A_s ?_)
 refine w_K (D:=D) (fun xX:Unit=>⟨[],h.on []⟩) (fun xX:Unit=>aJ.k1) (fun xX s' hr ht=>?_) ?_
 ·dsimp only[aJ.k1]at hr ht
  refine(dG ht ?_)
  refine A_s ?_
  refine bk ?_
  obtain rfl:=hD _ hr
  exact(aN (aU (os':=[]) (sl:=[(4,vI (-1:Int))]) hwf) ⟨rfl,aE hwf⟩)
 ·refine aw (cb (fun xX:Int=>⟨[(0,vL ay s),(1,.cv (.val (.fn fid_f [] caps_f))),(7,vI (s.length:Int)),(8,vI xX)],h.on []⟩) hr A_c (fun W1 v hr=>?_))
  dsimp only[aJ.b1]at hr
  refine A_s ?_
  refine al (ak hr (fun cF1 hr=>?_) (fun cF1 hr=>?_))
  ·refine az (w_n (al (aw (A_s ?_))))
   refine al (cB ?_)
   obtain⟨x,nF2,eF3,gF4,hr⟩:=hr.idx
   refine aG 5 ?_
   obtain⟨r,eF5,hr⟩:=hr.bind
   refine aT (out:=?o5) (hp:=?p5) ?c5 ?d5 ?_
   case c5=>exact h_f _ _ _ eF5
   case d5=>rfl
   refine dA ?_
   refine w_n (ak hr (fun cF6 hr=>?_) (fun cF6 hr=>?_))
   ·refine A_s ?_
    refine bk ?_
    obtain rfl:=hD _ hr
    exact(fa (cm (cm (fa (cm (cm (aN (aU (os':=[]) (sl:=[(4,vI v)]) hwf) ⟨rfl,aE hwf⟩)))))))
   ·refine az (dC (w_n ?_))
    refine aC ?_
    exact(w_k ⟨(IntKind.i64.wrap (v+(1:Int))),hr,A_c⟩)
  ·exact ca (cX (cX (fm (w_k ⟨(),(hr).map,A_c⟩))))
theorem fA(s:List ah)(f:ah→Option Bool)(fid_f:FuncId)(caps_f:List au){h:bn}(h_f:∀os x0 r,f x0=some r→cq CT fid_f ([.cv (.val (.agg [.int .i64 x0.Low,.int .i64 x0.High]))]++jI caps_f) (h.on os) fun o h'=>o=[vB r]∧h'=h.on os)(d_f:∀i,CT.how fid_f i= .data){a:Bool}(e:cA s f=some a):
  cq CT 143 [vL ay s,.cv (.val (.fn fid_f [] caps_f))] h fun o h'=>o=[vB a]∧h'=h:=by
 refine bg Tryz.func143 fun hwf hu=>?_
 have u_f:cc h.n caps_f:=(hu (.cv (.val (.fn fid_f [] caps_f))) (by simp)).2
 have vu_f:=fun k=>fN (k:=k) u_f
 obtain⟨D,hD,hr⟩:=Holds.one e
 dsimp only[cA]at hr
 change aO _ _ _ _ _ ⟨[(0,vL ay s),(1,.cv (.val (.fn fid_f [] caps_f)))],h.on []⟩
 refine A_s ?_
 refine fD 2 ?_
 obtain⟨r,eF1,hr⟩:=hr.bind
 refine aT (out:=?o1) (hp:=?p1) ?c1 ?d1 ?_
 case c1=>(refine fV s f _ _ ?_ ?_ eF1;(exact(fun os x0 r e=>by rw[abD];exact h_f _ x0 r e));(exact d_f))
 case d1=>rfl
 refine fj ?_
 refine bk ?_
 obtain rfl:=hD _ hr
 exact(aN (aU (os':=[]) (sl:=[(4,vB (decide (r≥(0:Int))))]) hwf) ⟨rfl,aE hwf⟩)
theorem gK(s:List ah){h:bn}{a:List ah}(e:cF s=some a):
  cq CT 144 [vL ay s] h fun o h'=>o=[.cv (.row 147 (List.map ay a))]∧h'=h:=by
 refine bg Tryz.func144 fun hwf hu=>?_
 have hr:Holds (cF s) (fun z=>z=a):=Holds.intro e rfl
 unfold cF at hr
 obtain⟨nF1,hr⟩:=hr.room
 obtain rfl:s=a:=hr
 change aO _ _ _ _ _ ⟨[(0,vL ay s)],h.on []⟩
 refine A_s ?_
 refine al (fD 1 ?_)
 refine aef rfl Tryz.underlying59 (by simp (disch:=(apply dd.mk;decide)) only[go_sem,Nat.reduceAdd,Nat.reduceLT];rfl) (fun b hb=>?_)
 refine dA ?_
 refine w_n ?_
 cases b with
 |true=>
  have hs:s=[]:=by
   cases s with
   |nil=>rfl
   |cons x l=>exact absurd (hb (by simp)) (by simp)
  subst hs
  refine oE true (fun _=>?_) (fun e=>by cases e)
  refine A_s ?_
  exact bk (cm (aN (aU (os':=[]) (sl:=[(2,.cv (.row 147 (List.map ay ([]:List ah))))]) hwf) ⟨rfl,aE hwf⟩))
 |false=>
  refine oE false (fun e=>by cases e) (fun _=>?_)
  refine az (w_n (A_s ?_))
  exact bk (aN (aU (os':=[]) (sl:=[(2,.cv (.row 147 (List.map ay s)))]) hwf) ⟨rfl,aE hwf⟩)
theorem sZ(l:List ah)(x:ah){h:bn}{a:List ah}(e:jm l x=some a):
  cq CT 148 [.cv (.row 147 (List.map ay l)),.cv (.val (.agg [.int .i64 x.Low,.int .i64 x.High]))] h fun o h'=>o=[.cv (.row 147 (List.map ay a))]∧h'=h:=by
 refine bg Tryz.func148 fun hwf hu=>?_
 obtain⟨D,hD,hr⟩:=Holds.one e
 dsimp only[jm]at hr
 change aO _ _ _ _ _ ⟨[(0,.cv (.row 147 (List.map ay l))),(1,.cv (.val (.agg [.int .i64 x.Low,.int .i64 x.High])))],h.on []⟩
 iterate 2 refine A_s ?_
 refine al ?_
 obtain⟨v,vF5,hr⟩:=hr.bind
 refine cf (sj:=⟨[(0,.cv (.row 147 (List.map ay l))),(3,vP (h.n+0)),(5,vI (l.length:Int)),(21,vB v)],h.on [some (.cells [wI x.Low,wI x.High])]⟩) (cT [0,1,2,3,4,5,6,7,8,9,10,11,12,13] (by rfl) ?_) ?_
 ·have hr:=Holds.intro (D:=fun z=>z=v) vF5 rfl
  refine bU [0,1,2] [2,1,0] ?_
  rcases hr.ite with⟨cF1,hr⟩|⟨cF1,hr⟩
  ·obtain⟨x1,nF2,eF3,gF4,hr⟩:=hr.idx
   refine bU [3,4,5,6,7,8,9,10,11,12,13] [13,12,11,10,9,8,7,6,5,4,3,2,1,0] ?_
   refine df ?_
   obtain rfl:_=v:=hr
   exact w_k A_c
  ·refine bU [3,4,5,6,7,8,9,10,11,12,13] [13,12,11,10,9,8,7,6,5,4,3,2,1,0] ?_
   refine df ?_
   obtain rfl:_=v:=hr
   exact w_k A_c
 refine ak hr (fun cF6 hr=>?_) (fun cF6 hr=>?_)
 ·refine al (cT [0,1,2,3,4,5,6,7,8,9,10,11,12,13,14] (by rfl) ?_)
  obtain⟨x2,nF7,eF8,gF9,hr⟩:=hr.idx
  refine bU [0,1,2,3,4,5,6,7,8,9,10,11,12,13] [13,12,11,10,9,8,7,6,5,4,3,2,1,0] ?_
  refine dt [] ?_
  refine df ?_
  refine w_n (A_s ?_)
  refine bk ?_
  obtain rfl:=hD _ hr
  exact(cm (aN (aU (os':=[]) (sl:=[(4,.cv (.row 147 (List.map ay (List.set l (Int.toNat (IntKind.i64.wrap ((l.length:Int) - (1:Int)))) (ah.mk x2.Low (mx x2.High x.High))))))]) hwf) ⟨rfl,aE hwf⟩))
 ·refine az (w_n (al ?_))
  obtain⟨nF10,hr⟩:=hr.room
  refine A_n ?_
  refine bk ?_
  obtain rfl:=hD _ hr
  exact(aN (aU (os':=[]) (sl:=[(4,.cv (.row 147 (List.map ay (l++([x])))))]) hwf) ⟨rfl,aE hwf⟩)
theorem mY(l:List ah){h:bn}{a:(List ah×Int)}(e:cW l=some a):
  cq CT 78 [.cv (.val (.sl (List.map ay l)))] h fun o h'=>o=[.cv (.val (.sl (List.map ay a.1))),.cv (.val (.int .i64 a.2))]∧h'=h:=by
 refine bg Tryz.func78 fun hwf hu=>?_
 obtain⟨D,hD,hr⟩:=Holds.one e
 dsimp only[cW]at hr
 change aO _ _ _ _ _ ⟨[(0,.cv (.val (.sl (List.map ay l))))],h.on []⟩
 iterate 2 refine A_s ?_
 refine al (fD 2 ?_)
 obtain⟨r,eF1,hr⟩:=hr.bind
 refine aT (out:=?o1) (hp:=?p1) ?c1 ?d1 ?_
 case c1=>(refine fA l (gA) _ _ ?_ ?_ eF1;(exact(fun os x0 r e=>pG x0 e));(exact(fun i=>by simp[CT])))
 case d1=>rfl
 refine dA ?_
 refine w_n (ak hr (fun cF2 hr=>?_) (fun cF2 hr=>?_))
 ·refine A_s ?_
  refine bk ?_
  obtain rfl:=hD _ hr
  exact(cm (aN (aU (os':=[]) (sl:=[(2,.cv (.val (.sl (List.map ay ([]:List ah))))),(3,.cv (.val (.int .i64 (1:Int))))]) hwf) ⟨rfl,aE hwf⟩))
 ·refine az (w_n (fD 1 ?_))
  obtain⟨r1,eF3,hr⟩:=hr.bind
  refine aT (out:=?o3) (hp:=?p3) ?c3 ?d3 ?_
  case c3=>exact gK l eF3
  case d3=>rfl
  refine fj ?_
  refine fD 1 ?_
  obtain⟨l1,eF4,hr⟩:=hr.bind
  refine amf  rfl aaI rfl aaI aaI aaI (by rfl) (alG eF4) ?_
  refine dA ?_
  refine w_n (A_s ?_)
  refine al (A_s ?_)
  refine w_K (D:=D) (fun xX:List ah=>⟨[(6,.cv (.row 147 (List.map ay xX)))],h.on []⟩) (fun xX:List ah=>cW.k1 xX) (fun out s' hr ht=>?_) ?_
  ·dsimp only[cW.k1]at hr ht
   refine(dG ht ?_)
   refine A_s ?_
   refine bk ?_
   obtain rfl:=hD _ hr
   exact(aN (.fix _ _ (.slot 2) 147 _ kB (aU (os':=[]) (sl:=[(2,.cv (.val (.sl (List.map ay out)))),(3,.cv (.val (.int .i64 (0:Int))))]) hwf)) ⟨rfl,aE hwf⟩)
  ·refine aw (cb (fun xX:(List ah×Int)=>⟨[(5,.cv (.row 147 (List.map ay l1))),(6,.cv (.row 147 (List.map ay xX.1))),(16,.alias (.slot 5)),(17,.cv (.val (.int .i64 (l1.length:Int)))),(18,.cv (.val (.int .i64 xX.2)))],h.on []⟩) hr A_c (fun W1 xX hr=>?_))
   obtain⟨out1,v⟩:=xX
   dsimp only[cW.b1]at hr
   refine A_s ?_
   refine al (ak hr (fun cF5 hr=>?_) (fun cF5 hr=>?_))
   ·refine az (w_n (al (aw (al ?_))))
    obtain⟨x,nF6,eF7,gF8,hr⟩:=hr.idx
    refine A_n ?_
    refine cB ?_
    refine aG 2 ?_
    obtain⟨r2,eF9,hr⟩:=hr.bind
    refine aT (out:=?o9) (hp:=?p9) ?c9 ?d9 ?_
    case c9=>exact sZ out1 x eF9
    case d9=>rfl
    refine aj ?_
    refine(dC (w_n ?_))
    refine aC ?_
    exact(w_k ⟨(r2,(IntKind.i64.wrap (v+(1:Int)))),hr,A_c⟩)
   ·exact ca (cX (cX (fm (w_k ⟨out1,(hr).map,A_c⟩))))
theorem eF(s1:List ah)(s2:List ah){h:bn}{a:Bool}(e:bw s1 s2=some a):
  cq CT 79 [vL ay s1,vL ay s2] h fun o h'=>o=[vB a]∧h'=h:=by
 refine bg Tryz.func79 fun hwf hu=>?_
 obtain⟨D,hD,hr⟩:=Holds.one e
 dsimp only[bw]at hr
 change aO _ _ _ _ _ ⟨[(0,vL ay s1),(1,vL ay s2)],h.on []⟩
 refine A_s ?_
 refine al (A_s ?_)
 refine ak hr (fun cF1 hr=>?_) (fun cF1 hr=>?_)
 ·refine A_s ?_
  refine bk ?_
  obtain rfl:=hD _ hr
  exact(cm (aN (aU (os':=[]) (sl:=[(4,vB false)]) hwf) ⟨rfl,aE hwf⟩))
 ·refine az (w_n (al (A_s ?_)))
  refine w_K (D:=D) (fun xX:Unit=>⟨[],h.on []⟩) (fun xX:Unit=>bw.k1) (fun xX s' hr ht=>?_) ?_
  ·dsimp only[bw.k1]at hr ht
   refine(dG ht ?_)
   refine A_s ?_
   refine bk ?_
   obtain rfl:=hD _ hr
   exact(aN (aU (os':=[]) (sl:=[(4,vB true)]) hwf) ⟨rfl,aE hwf⟩)
  ·refine aw (cb (fun xX:Int=>⟨[(0,vL ay s1),(1,vL ay s2),(12,vI (s1.length:Int)),(13,vI xX)],h.on []⟩) hr A_c (fun W1 v hr=>?_))
   dsimp only[bw.b1]at hr
   refine A_s ?_
   refine al (ak hr (fun cF2 hr=>?_) (fun cF2 hr=>?_))
   ·refine az (w_n (al (aw (A_s ?_))))
    refine al (cT [0,1,2,3,4,5,6,7,8] (by rfl) ?_)
    obtain⟨x,nF3,eF4,gF5,hr⟩:=hr.idx
    obtain⟨x1,nF6,eF7,gF8,hr⟩:=hr.idx
    refine bU [0,1,2,3,4,5,6,7,8] [8,7,6,5,4,3,2,1,0] ?_
    refine df ?_
    refine w_n (ak hr (fun cF9 hr=>?_) (fun cF9 hr=>?_))
    ·refine A_s ?_
     refine bk ?_
     obtain rfl:=hD _ hr
     exact(fa (cm (cm (fa (cm (cm (aN (aU (os':=[]) (sl:=[(4,vB false)]) hwf) ⟨rfl,aE hwf⟩)))))))
    ·refine az (dC (w_n ?_))
     refine aC ?_
     exact(w_k ⟨(IntKind.i64.wrap (v+(1:Int))),hr,A_c⟩)
   ·exact ca (cX (cX (fm (w_k ⟨(),(hr).map,A_c⟩))))
theorem un(l:List ah){h:bn}{a:Bool}(e:lS l=some a):
  cq CT 75 [vL ay l] h fun o h'=>o=[vB a]∧h'=h:=by
 refine bg Tryz.func75 fun hwf hu=>?_
 obtain⟨D,hD,hr⟩:=Holds.one e
 dsimp only[lS]at hr
 change aO _ _ _ _ _ ⟨[(0,vL ay l)],h.on []⟩
 refine A_s ?_
 refine fD 1 ?_
 obtain⟨r,eF1,hr⟩:=hr.bind
 refine aT (out:=?o1) (hp:=?p1) ?c1 ?d1 ?_
 case c1=>exact mY l eF1
 case d1=>rfl
 refine fj ?_
 obtain⟨v,vF4,hr⟩:=hr.bind
 refine cf (sj:=⟨[(2,vB v)],h.on []⟩) (cB ?_) ?_
 ·have hr:=Holds.intro (D:=fun z=>z=v) vF4 rfl
  refine aG 3 ?_
  rcases hr.ite with⟨cF2,hr⟩|⟨cF2,hr⟩
  ·refine aG 2 ?_
   obtain⟨r1,eF3,hr⟩:=hr.bind
   refine aT (out:=?o3) (hp:=?p3) ?c3 ?d3 ?_
   case c3=>exact eF r.1 l eF3
   case d3=>rfl
   refine aj ?_
   obtain rfl:_=v:=hr
   exact w_k A_c
  ·refine aG 2 ?_
   refine iF ?_
   refine aj ?_
   obtain rfl:_=v:=hr
   exact w_k A_c
 refine bk ?_
 obtain rfl:=hD _ hr
 exact(aN (aU (os':=[]) (sl:=[(2,vB v)]) hwf) ⟨rfl,aE hwf⟩)
end Go.Val
namespace Go.Val
theorem yi(b:List ah){h:bn}{u:Str}(e:nI b=some u):
  cq CT 76 [vL ay b] h fun o h'=>o=[.cv (.val (.str (bs u)))]∧h'=h:=
 cq.hand (C:=CT) (show tU 76 _ h _ h from⟨rfl,.inr (.inr (.inl ⟨rfl,b,u,rfl,e,rfl⟩))⟩) ⟨rfl,rfl⟩
end Go.Val
namespace Go.Val
set_option maxRecDepth 20000
open Go.Proofs
theorem kL(n:aD){h:bn}{a:Bool}(e:iN n=some a):
  cq CT 139 [.cv (.val (.agg [.int .i64 n.Kind,.int .i64 n.Set,.sl (List.map bW n.Kids)]))] h fun o h'=>o=[vB a]∧h'=h:=by
 refine bg Tryz.func139 fun hwf hu=>?_
 obtain⟨D,hD,hr⟩:=Holds.one e
 dsimp only[iN]at hr
 change aO _ _ _ _ _ ⟨[(0,.cv (.val (.agg [.int .i64 n.Kind,.int .i64 n.Set,.sl (List.map bW n.Kids)])))],h.on []⟩
 refine A_s ?_
 refine cf (sj:=⟨[(2,vB ((decide (n.Kind≥(3:Int)))&&(decide (n.Kind≤(5:Int)))))],h.on []⟩) (cB ?_) ?_
 ·refine aG 4 ?_
  rcases Bool.eq_false_or_eq_true (decide (n.Kind≥(3:Int)))with cF1|cF1
  ·refine aj ?_
   exact w_k A_c
  ·refine aj ?_
   exact w_k A_c
 refine bk ?_
 obtain rfl:=hD _ hr
 exact(aN (aU (os':=[]) (sl:=[(2,vB ((decide (n.Kind≥(3:Int)))&&(decide (n.Kind≤(5:Int)))))]) hwf) ⟨rfl,aE hwf⟩)
theorem rZ(n:aD){h:bn}{a:Bool}(e:kg n=some a):
  cq CT 140 [.cv (.val (.agg [.int .i64 n.Kind,.int .i64 n.Set,.sl (List.map bW n.Kids)]))] h fun o h'=>o=[vB a]∧h'=h:=by
 refine bg Tryz.func140 fun hwf hu=>?_
 obtain⟨D,hD,hr⟩:=Holds.one e
 dsimp only[kg]at hr
 change aO _ _ _ _ _ ⟨[(0,.cv (.val (.agg [.int .i64 n.Kind,.int .i64 n.Set,.sl (List.map bW n.Kids)])))],h.on []⟩
 refine A_s ?_
 refine al (A_s ?_)
 refine aw (A_s ?_)
 refine ak hr (fun cF1 hr=>?_) (fun cF1 hr=>?_)
 ·refine A_s ?_
  refine bk ?_
  obtain rfl:=hD _ hr
  exact(fa (cm (aN (aU (os':=[]) (sl:=[(2,vB ((n.Kids.length:Int) != (1:Int)))]) hwf) ⟨rfl,aE hwf⟩)))
 ·refine A_s ?_
  refine ak hr (fun cF2 hr=>?_) (fun cF2 hr=>?_)
  ·refine A_s ?_
   refine bk ?_
   obtain rfl:=hD _ hr
   exact(fa (cm (aN (aU (os':=[]) (sl:=[(2,vB (decide ((n.Kids.length:Int) > (1:Int))))]) hwf) ⟨rfl,aE hwf⟩)))
  ·refine az (dC (w_n ?_))
   obtain⟨v,vF5,hr⟩:=hr.bind
   refine cf (sj:=⟨[(2,vB v)],h.on []⟩) (cB ?_) ?_
   ·have hr:=Holds.intro (D:=fun z=>z=v) vF5 rfl
    refine aG 1 ?_
    obtain⟨r,eF3,hr⟩:=hr.bind
    refine aT (out:=?o3) (hp:=?p3) ?c3 ?d3 ?_
    case c3=>exact kL n eF3
    case d3=>rfl
    refine aG 1 ?_
    rcases hr.ite with⟨cF4,hr⟩|⟨cF4,hr⟩
    ·refine aj ?_
     obtain rfl:_=v:=hr
     exact w_k A_c
    ·refine aj ?_
     obtain rfl:_=v:=hr
     exact w_k A_c
   refine bk ?_
   obtain rfl:=hD _ hr
   exact(aN (aU (os':=[]) (sl:=[(2,vB v)]) hwf) ⟨rfl,aE hwf⟩)
theorem se(of:aD)(n:aD){h:bn}{a:Bool}(e:mo of n=some a):
  cq CT 141 [.cv (.val (.agg [.int .i64 of.Kind,.int .i64 of.Set,.sl (List.map bW of.Kids)])),.cv (.val (.agg [.int .i64 n.Kind,.int .i64 n.Set,.sl (List.map bW n.Kids)]))] h fun o h'=>o=[vB a]∧h'=h:=by
 refine bg Tryz.func141 fun hwf hu=>?_
 obtain⟨D,hD,hr⟩:=Holds.one e
 dsimp only[mo]at hr
 change aO _ _ _ _ _ ⟨[(0,.cv (.val (.agg [.int .i64 of.Kind,.int .i64 of.Set,.sl (List.map bW of.Kids)]))),(1,.cv (.val (.agg [.int .i64 n.Kind,.int .i64 n.Set,.sl (List.map bW n.Kids)])))],h.on []⟩
 refine A_s ?_
 refine cf (sj:=⟨[(4,vB ((n.Kind==(2:Int))||((n.Kind==(0:Int))&&(of.Kind != (2:Int)))))],h.on []⟩) (cB ?_) ?_
 ·refine aG 4 ?_
  rcases Bool.eq_false_or_eq_true (n.Kind==(2:Int))with cF1|cF1
  ·refine aj ?_
   exact w_k A_c
  ·refine aG 4 ?_
   rcases Bool.eq_false_or_eq_true (n.Kind==(0:Int))with cF2|cF2
   ·refine aj ?_
    exact w_k A_c
   ·refine aj ?_
    exact w_k A_c
 refine bk ?_
 obtain rfl:=hD _ hr
 exact(aN (aU (os':=[]) (sl:=[(4,vB ((n.Kind==(2:Int))||((n.Kind==(0:Int))&&(of.Kind != (2:Int)))))]) hwf) ⟨rfl,aE hwf⟩)
theorem jZ:∀(fu:Nat) (c:be) (n:aD) (depth:Int) (signs:Int) (l0:Nat) {h:bn} (ha0:h.at_ l0=some (.cells [wI c.sets,wI c.met])) {a:(Bool×be)} (e:aa.r fu c n depth signs=some a),
  cq CT 77 [vP l0,.cv (.val (.agg [.int .i64 n.Kind,.int .i64 n.Set,.sl (List.map bW n.Kids)])),vI depth,vI signs] h fun o h'=>o=[vB a.1]∧h'=(h.upd l0 (.cells [wI a.2.sets,wI a.2.met])):=by
 intro fu
 induction fu with
 |zero=>intros;rename_i e;simp[aa.r]at e
 |succ fu ih=>
  intro c n depth signs l0 h ha0 a e
  refine bg Tryz.func77 fun hwf hu=>?_
  have hl0:=(hwf _ _ ha0).1
  have kl0:=kZ hl0
  have ku0:=aaK hl0 ha0
  obtain⟨D,hD,hr⟩:=Holds.one e
  dsimp only[aa.r]at hr
  change aO _ _ _ _ _ ⟨[(0,vP l0),(1,.cv (.val (.agg [.int .i64 n.Kind,.int .i64 n.Set,.sl (List.map bW n.Kids)]))),(2,vI depth),(3,vI signs)],h.on []⟩
  refine A_s ?_
  refine al (A_s ?_)
  refine ak hr (fun cF1 hr=>?_) (fun cF1 hr=>?_)
  ·refine cf (sj:=⟨[(0,vP l0),(5,vP (h.n+0)),(9,vB (((n.Kids.length:Int)==(0:Int))&&((decide (n.Set≥(0:Int)))&&((decide (n.Set < c.sets))&&(decide (n.Set≤c.met))))))],h.on [some (.cells [wI n.Kind,wI n.Set,wL bW n.Kids])]⟩) (cT [0,1,2,3,4,5,6,7,8,9,10,11,12,13,14,15,16,17,18,19,20,21,22,23,24,25,26,27] (by rfl) ?_) ?_
   ·refine bU [0,1,2,3,4] [4,3,2,1,0] ?_
    rcases Bool.eq_false_or_eq_true ((n.Kids.length:Int)==(0:Int))with cF2|cF2
    ·refine bU [5,6,7,8,9] [9,8,7,6,5,4,3,2,1,0] ?_
     rcases Bool.eq_false_or_eq_true (decide (n.Set≥(0:Int)))with cF3|cF3
     ·refine bU [10,11,12,13,14,15,16,17,18] [18,17,16,15,14,13,12,11,10,9,8,7,6,5,4,3,2,1,0] ?_
      rcases Bool.eq_false_or_eq_true (decide (n.Set < c.sets))with cF4|cF4
      ·refine bU [19,20,21,22,23,24,25,26] [26,25,24,23,22,21,20,19,18,17,16,15,14,13,12,11,10,9,8,7,6,5,4,3,2,1,0] ?_
       refine dt [] ?_
       refine df ?_
       exact w_k A_c
      ·refine bU [19,20,21,22,23,24,25,26] [26,25,24,23,22,21,20,19,18,17,16,15,14,13,12,11,10,9,8,7,6,5,4,3,2,1,0] ?_
       refine dt [] ?_
       refine df ?_
       exact w_k A_c
     ·refine bU [10,11,12,13,14,15,16,17,18,19,20,21,22,23,24,25,26] [26,25,24,23,22,21,20,19,18,17,16,15,14,13,12,11,10,9,8,7,6,5,4,3,2,1,0] ?_
      refine dt [] ?_
      refine df ?_
      exact w_k A_c
    ·refine bU [5,6,7,8,9,10,11,12,13,14,15,16,17,18,19,20,21,22,23,24,25,26] [26,25,24,23,22,21,20,19,18,17,16,15,14,13,12,11,10,9,8,7,6,5,4,3,2,1,0] ?_
     refine dt [] ?_
     refine df ?_
     exact w_k A_c
   refine al (cT [0,1,2,3,4,5,6,7,8,9,10,11,12,13,14,15,16] (by rfl) ?_)
   refine bU [0,1,2,3,4,5,6,7,8,9,10,11,12,13,14,15] [15,14,13,12,11,10,9,8,7,6,5,4,3,2,1,0] ?_
   refine dt [] ?_
   refine df ?_
   refine w_n (A_s ?_)
   refine bk ?_
   obtain rfl:=hD _ hr
   exact(cm (aN (aU (os':=[]) (sl:=[(8,vB (((n.Kids.length:Int)==(0:Int))&&((decide (n.Set≥(0:Int)))&&((decide (n.Set < c.sets))&&(decide (n.Set≤c.met))))))]) (h:=(h.upd l0 (.cells [wI c.sets,wI (mx c.met (IntKind.i64.wrap ((mn n.Set c.sets)+(1:Int))))]))) (ft hwf hl0)) ⟨rfl,aE (ft hwf hl0)⟩))
  ·refine az (w_n (al (A_s ?_)))
   refine fD 1 ?_
   obtain⟨r,eF5,hr⟩:=hr.bind
   refine aT (out:=?o5) (hp:=?p5) ?c5 ?d5 ?_
   case c5=>exact kL n eF5
   case d5=>rfl
   refine fj ?_
   refine w_K (D:=D) (fun xX:Int=>⟨[(0,vP l0),(2,vI depth),(3,vI xX),(5,vP (h.n+0))],h.on [some (.cells [wI n.Kind,wI n.Set,wL bW n.Kids])]⟩) (fun xX:Int=>aa.k1 (aa.r fu) c n depth xX) (fun signs1 s' hr ht=>?_) ?_
   ·dsimp only[aa.k1]at hr ht
    refine(dG ht ?_)
    refine al ?_
    obtain⟨v,vF9,hr⟩:=hr.bind
    refine cf (sj:=⟨[(0,vP l0),(2,vI depth),(3,vI signs1),(5,vP (h.n+0)),(76,vB v)],h.on [some (.cells [wI n.Kind,wI n.Set,wL bW n.Kids])]⟩) (cB ?_) ?_
    ·have hr:=Holds.intro (D:=fun z=>z=v) vF9 rfl
     refine aG 1 ?_
     obtain⟨r1,eF6,hr⟩:=hr.bind
     refine aT (out:=?o6) (hp:=?p6) ?c6 ?d6 ?_
     case c6=>exact rZ n eF6
     case d6=>rfl
     refine aG 2 ?_
     rcases hr.ite with⟨cF7,hr⟩|⟨cF7,hr⟩
     ·refine aj ?_
      obtain rfl:_=v:=hr
      exact w_k A_c
     ·refine aG 5 ?_
      rcases hr.ite with⟨cF8,hr⟩|⟨cF8,hr⟩
      ·refine aj ?_
       obtain rfl:_=v:=hr
       exact w_k A_c
      ·refine aj ?_
       obtain rfl:_=v:=hr
       exact w_k A_c
    refine ak hr (fun cF10 hr=>?_) (fun cF10 hr=>?_)
    ·refine A_s ?_
     refine bk ?_
     obtain rfl:=hD _ hr
     exact(cm (aN (aU (os':=[]) (sl:=[(8,vB false)]) (h:=(h.upd l0 (.cells [wI c.sets,wI c.met]))) (ft hwf hl0)) ⟨rfl,aE (ft hwf hl0)⟩))
    ·refine az (w_n (al (A_s ?_)))
     refine w_K (D:=D) (fun xX:(Int×Int)=>⟨[],(h.upd l0 (.cells [wI xX.1,wI xX.2])).on []⟩) (fun xX:(Int×Int)=>aa.k2 xX.1 xX.2) (fun xX s' hr ht=>?_) ?_
     ·obtain⟨sets,met⟩:=xX
      dsimp only[aa.k2]at hr ht
      refine(dG ht ?_)
      refine A_s ?_
      refine bk ?_
      obtain rfl:=hD _ hr
      exact(aN (aU (os':=[]) (sl:=[(8,vB true)]) (h:=(h.upd l0 (.cells [wI sets,wI met]))) (ft hwf hl0)) ⟨rfl,aE (ft hwf hl0)⟩)
     ·refine aw (cb (fun xX:(Int×Int×Int)=>⟨[(0,vP l0),(2,vI depth),(3,vI signs1),(5,vP (h.n+0)),(78,vL bW n.Kids),(79,vI (n.Kids.length:Int)),(80,vI xX.1)],(h.upd l0 (.cells [wI xX.2.1,wI xX.2.2])).on [some (.cells [wI n.Kind,wI n.Set,wL bW n.Kids])]⟩) hr (aU (ft hwf hl0)) (fun W1 xX hr=>?_))
      obtain⟨v1,sets1,met1⟩:=xX
      dsimp only[aa.b1]at hr
      refine A_s ?_
      refine al (ak hr (fun cF11 hr=>?_) (fun cF11 hr=>?_))
      ·refine az (w_n (al (aw (al ?_))))
       obtain⟨x,nF12,eF13,gF14,hr⟩:=hr.idx
       refine A_n ?_
       refine A_s ?_
       refine al (fD 2 ?_)
       obtain⟨r2,eF15,hr⟩:=hr.bind
       refine aT (out:=?o15) (hp:=?p15) ?c15 ?d15 ?_
       case c15=>exact se n x eF15
       case d15=>rfl
       refine dA ?_
       refine w_n (w_K (D:=(Aft W1 D)) (fun xX:Int=>⟨[(0,vP l0),(2,vI depth),(3,vI signs1),(5,vP (h.n+0)),(11,vP (h.n+1)),(12,vI xX),(78,vL bW n.Kids),(79,vI (n.Kids.length:Int)),(80,vI v1)],(h.upd l0 (.cells [wI sets1,wI met1])).on [some (.cells [wI n.Kind,wI n.Set,wL bW n.Kids]),some (.cells [wI x.Kind,wI x.Set,wL bW x.Kids])]⟩) (fun xX:Int=>aa.k3 (aa.r fu) signs1 v1 sets1 met1 x xX) (fun more s' hr ht=>?_) ?_)
       ·dsimp only[aa.k3]at hr ht
        refine(dG ht ?_)
        obtain⟨⟨v2,sets2,met2⟩,vF18,hr⟩:=hr.bind
        dsimp only at hr
        refine cf (sj:=⟨[(0,vP l0),(2,vI depth),(3,vI signs1),(5,vP (h.n+0)),(78,vL bW n.Kids),(79,vI (n.Kids.length:Int)),(80,vI v1),(99,vB v2)],(h.upd l0 (.cells [wI sets2,wI met2])).on [some (.cells [wI n.Kind,wI n.Set,wL bW n.Kids])]⟩) (cB ?_) ?_
        ·have hr:=Holds.intro (D:=fun z=>z=(v2,sets2,met2)) vF18 rfl
         refine aG 3 ?_
         rcases hr.ite with⟨cF16,hr⟩|⟨cF16,hr⟩
         ·refine aG 4 ?_
          refine iF ?_
          refine aj ?_
          cases (show(_,_,_)=(v2,sets2,met2) from hr)
          exact w_k (aU (ft hwf hl0))
         ·refine aG 4 ?_
          obtain⟨r3,eF17,hr⟩:=hr.bind
          refine aT (out:=?o17) (hp:=?p17) ?c17 ?d17 ?_
          case c17=>(refine ih (be.mk sets1 met1) x more signs1 (l0) ?_ eF17;exact cN)
          case d17=>rfl
          refine aj ?_
          cases (show(_,_,_)=(v2,sets2,met2) from hr)
          exact w_k (aU (ft hwf hl0))
        refine ak hr (fun cF19 hr=>?_) (fun cF19 hr=>?_)
        ·refine A_s ?_
         refine bk ?_
         obtain rfl:=hD _ hr
         exact(fa (cm (cm (fa (cm (cm (aN (aU (os':=[]) (sl:=[(8,vB false)]) (h:=(h.upd l0 (.cells [wI sets2,wI met2]))) (ft hwf hl0)) ⟨rfl,aE (ft hwf hl0)⟩)))))))
        ·refine az (dC (w_n ?_))
         refine aC ?_
         exact(w_k ⟨((IntKind.i64.wrap (v1+(1:Int))),sets2,met2),hr,(aU (ft hwf hl0))⟩)
       ·refine ak hr (fun cF20 hr=>?_) (fun cF20 hr=>?_)
        ·refine aC ?_
         exact(w_k ⟨(IntKind.i64.wrap (depth+(1:Int))),hr,(aU (ft hwf hl0))⟩)
        ·exact az (w_k ⟨depth,hr,(aU (ft hwf hl0))⟩)
      ·exact ca (cX (cX (fm (w_k ⟨(sets1,met1),(hr).map,(aU (ft hwf hl0))⟩))))
   ·refine ak hr (fun cF21 hr=>?_) (fun cF21 hr=>?_)
    ·refine aC ?_
     exact(w_k ⟨(0:Int),hr,A_c⟩)
    ·exact az (w_k ⟨(IntKind.i64.wrap (signs+(1:Int))),hr,A_c⟩)
theorem gQ(c:be)(n:aD)(depth:Int)(signs:Int)(l0:Nat){h:bn}(ha0:h.at_ l0=some (.cells [wI c.sets,wI c.met])){a:(Bool×be)}(e:aa c n depth signs=some a):
  cq CT 77 [vP l0,.cv (.val (.agg [.int .i64 n.Kind,.int .i64 n.Set,.sl (List.map bW n.Kids)])),vI depth,vI signs] h fun o h'=>o=[vB a.1]∧h'=(h.upd l0 (.cells [wI a.2.sets,wI a.2.met])):=by
 obtain⟨fuN,fuH⟩:=jK e
 exact jZ fuN c n depth signs l0 ha0 (fuH fuN (nR fuN))
theorem ra(p:bL) {h:bn} {a:Bool} (e:bO p=some a):
  cq CT 31 [.cv (.val (.agg [.sl (List.map (eL ay) p.Sets),.sl (List.map eu p.Rules)]))] h fun o h'=>o=[vB a]∧h'=h:=by
 refine bg Tryz.func31 fun hwf hu=>?_
 obtain⟨D,hD,hr⟩:=Holds.one e
 dsimp only[bO]at hr
 change aO _ _ _ _ _ ⟨[(0,.cv (.val (.agg [.sl (List.map (eL ay) p.Sets),.sl (List.map eu p.Rules)])))],h.on []⟩
 refine A_s ?_
 refine al (cf (sj:=⟨[(1,vP (h.n+0)),(18,vB ((decide ((p.Sets.length:Int) > (60:Int)))||(decide ((p.Rules.length:Int) > (64:Int)))))],h.on [some (.cells [wL (eL ay) p.Sets,wL eu p.Rules])]⟩) (cB ?_) ?_)
 ·refine aG 5 ?_
  rcases Bool.eq_false_or_eq_true (decide ((p.Sets.length:Int) > (60:Int)))with cF1|cF1
  ·refine aj ?_
   exact w_k A_c
  ·refine aj ?_
   exact w_k A_c
 refine ak hr (fun cF2 hr=>?_) (fun cF2 hr=>?_)
 ·refine A_s ?_
  refine bk ?_
  obtain rfl:=hD _ hr
  exact(cm (aN (aU (os':=[]) (sl:=[(2,vB false)]) hwf) ⟨rfl,aE hwf⟩))
 ·refine az (w_n (A_s ?_))
  refine al (A_s ?_)
  refine w_K (D:=D) (fun xX:List (Str×Bool)=>⟨[(1,vP (h.n+0)),(3,.cv (.val (.map (some (h.n+1)))))],h.on [some (.cells [wL (eL ay) p.Sets,wL eu p.Rules]),some (.map 9 (gy eS eB xX))]⟩) (fun xX:List (Str×Bool)=>bO.k1 p xX) (fun m s' hr ht=>?_) ?_
  ·dsimp only[bO.k1]at hr ht
   refine(dG ht ?_)
   refine A_s ?_
   refine al (A_s ?_)
   refine w_K (D:=D) (fun xX:(Int×Int)=>⟨[(1,vP (h.n+0)),(3,.cv (.val (.map (some (h.n+1))))),(6,vP (h.n+2))],h.on [some (.cells [wL (eL ay) p.Sets,wL eu p.Rules]),some (.map 9 (gy eS eB m)),some (.cells [wI xX.1,wI xX.2])]⟩) (fun xX:(Int×Int)=>bO.k2 p m xX.1 xX.2) (fun xX s' hr ht=>?_) ?_
   ·obtain⟨sets,met⟩:=xX
    dsimp only[bO.k2]at hr ht
    refine(dG ht ?_)
    refine cf (sj:=⟨[(2,vB (((m.length:Int)==(p.Sets.length:Int))&&(met==(p.Sets.length:Int))))],h.on []⟩) (cT [0,1,2,3,4,5,6,7,8,9,10,11,12,13,14,15,16] (by rfl) ?_) ?_
    ·refine bU [0,1,2,3,4,5,6] [6,5,4,3,2,1,0] ?_
     rcases Bool.eq_false_or_eq_true ((m.length:Int)==(p.Sets.length:Int))with cF3|cF3
     ·refine bU [7,8,9,10,11,12,13,14,15] [15,14,13,12,11,10,9,8,7,6,5,4,3,2,1,0] ?_
      refine dt [] ?_
      refine df ?_
      exact w_k A_c
     ·refine bU [7,8,9,10,11,12,13,14,15] [15,14,13,12,11,10,9,8,7,6,5,4,3,2,1,0] ?_
      refine dt [] ?_
      refine df ?_
      exact w_k A_c
    refine bk ?_
    obtain rfl:=hD _ hr
    exact(aN (aU (os':=[]) (sl:=[(2,vB (((m.length:Int)==(p.Sets.length:Int))&&(met==(p.Sets.length:Int))))]) hwf) ⟨rfl,aE hwf⟩)
   ·refine aw (cb (fun xX:(Int×Int×Int)=>⟨[(1,vP (h.n+0)),(3,.cv (.val (.map (some (h.n+1))))),(6,vP (h.n+2)),(40,vL eu p.Rules),(41,vI (p.Rules.length:Int)),(42,vI xX.1)],h.on [some (.cells [wL (eL ay) p.Sets,wL eu p.Rules]),some (.map 9 (gy eS eB m)),some (.cells [wI xX.2.1,wI xX.2.2])]⟩) hr A_c (fun W1 xX hr=>?_))
    obtain⟨v2,sets1,met1⟩:=xX
    dsimp only[bO.b1]at hr
    refine A_s ?_
    refine al (ak hr (fun cF4 hr=>?_) (fun cF4 hr=>?_))
    ·refine az (w_n (al (aw (al ?_))))
     obtain⟨x,nF5,eF6,gF7,hr⟩:=hr.idx
     refine A_n ?_
     obtain⟨⟨v3,sets2,met2⟩,vF11,hr⟩:=hr.bind
     dsimp only at hr
     refine cf (sj:=⟨[(1,vP (h.n+0)),(3,.cv (.val (.map (some (h.n+1))))),(6,vP (h.n+2)),(40,vL eu p.Rules),(41,vI (p.Rules.length:Int)),(42,vI v2),(57,vB v3)],h.on [some (.cells [wL (eL ay) p.Sets,wL eu p.Rules]),some (.map 9 (gy eS eB m)),some (.cells [wI sets2,wI met2])]⟩) (cB ?_) ?_
     ·have hr:=Holds.intro (D:=fun z=>z=(v3,sets2,met2)) vF11 rfl
      refine aG 3 ?_
      obtain⟨r,eF8,hr⟩:=hr.bind
      refine aT (out:=?o8) (hp:=?p8) ?c8 ?d8 ?_
      case c8=>(refine gQ (be.mk sets1 met1) x.Left (0:Int) (0:Int) (h.n+2) ?_ eF8;exact cN)
      case d8=>rfl
      refine aG 2 ?_
      rcases hr.ite with⟨cF9,hr⟩|⟨cF9,hr⟩
      ·refine aG 3 ?_
       refine iF ?_
       refine aj ?_
       cases (show(_,_,_)=(v3,sets2,met2) from hr)
       exact w_k A_c
      ·refine aG 3 ?_
       obtain⟨r1,eF10,hr⟩:=hr.bind
       refine aT (out:=?o10) (hp:=?p10) ?c10 ?d10 ?_
       case c10=>(refine gQ r.2 x.Right (0:Int) (0:Int) (h.n+2) ?_ eF10;exact cN)
       case d10=>rfl
       refine aj ?_
       cases (show(_,_,_)=(v3,sets2,met2) from hr)
       exact w_k A_c
     refine ak hr (fun cF12 hr=>?_) (fun cF12 hr=>?_)
     ·refine A_s ?_
      refine bk ?_
      obtain rfl:=hD _ hr
      exact(fa (cm (cm (fa (cm (cm (aN (aU (os':=[]) (sl:=[(2,vB false)]) hwf) ⟨rfl,aE hwf⟩)))))))
     ·refine az (dC (w_n ?_))
      refine aC ?_
      exact(w_k ⟨((IntKind.i64.wrap (v2+(1:Int))),sets2,met2),hr,A_c⟩)
    ·exact ca (cX (cX (fm (w_k ⟨(sets1,met1),(hr).map,A_c⟩))))
  ·refine aw (cb (fun xX:(Int×List (Str×Bool))=>⟨[(1,vP (h.n+0)),(3,.cv (.val (.map (some (h.n+1))))),(21,vL (eL ay) p.Sets),(22,vI (p.Sets.length:Int)),(23,vI xX.1)],h.on [some (.cells [wL (eL ay) p.Sets,wL eu p.Rules]),some (.map 9 (gy eS eB xX.2))]⟩) hr A_c (fun W2 xX hr=>?_))
   obtain⟨v4,m1⟩:=xX
   dsimp only[bO.b2]at hr
   refine A_s ?_
   refine al (ak hr (fun cF13 hr=>?_) (fun cF13 hr=>?_))
   ·refine az (w_n (al (aw (al ?_))))
    obtain⟨xs,nF14,eF15,gF16,hr⟩:=hr.idx
    refine A_n ?_
    refine al (fD 1 ?_)
    obtain⟨r2,eF17,hr⟩:=hr.bind
    refine aT (out:=?o17) (hp:=?p17) ?c17 ?d17 ?_
    case c17=>exact un xs eF17
    case d17=>rfl
    refine fj ?_
    refine ak hr (fun cF18 hr=>?_) (fun cF18 hr=>?_)
    ·refine A_s ?_
     refine bk ?_
     obtain rfl:=hD _ hr
     exact(cm (fa (cm (cm (fa (cm (cm (aN (aU (os':=[]) (sl:=[(2,vB false)]) hwf) ⟨rfl,aE hwf⟩))))))))
    ·refine az (w_n (cB ?_))
     refine aG 2 ?_
     obtain⟨r3,eF19,hr⟩:=hr.bind
     refine aT (out:=?o19) (hp:=?p19) ?c19 ?d19 ?_
     case c19=>exact yi xs eF19
     case d19=>rfl
     refine aj ?_
     refine(dC (w_n ?_))
     refine aC ?_
     exact(w_k ⟨((IntKind.i64.wrap (v4+(1:Int))),(kF r3 true m1)),hr,A_c⟩)
   ·exact ca (cX (cX (fm (w_k ⟨m1,(hr).map,A_c⟩))))
theorem qU(x:ah)(r:Int){h:bn}{a:Int}(e:gm x r=some a):
  cq CT 206 [.cv (.val (.agg [.int .i64 x.Low,.int .i64 x.High])),vI r] h fun o h'=>o=[vI a]∧h'=h:=by
 refine bg Tryz.func206 fun hwf hu=>?_
 obtain⟨D,hD,hr⟩:=Holds.one e
 dsimp only[gm]at hr
 change aO _ _ _ _ _ ⟨[(0,.cv (.val (.agg [.int .i64 x.Low,.int .i64 x.High]))),(1,vI r)],h.on []⟩
 refine A_s ?_
 refine al (aw (A_s ?_))
 refine ak hr (fun cF1 hr=>?_) (fun cF1 hr=>?_)
 ·refine A_s ?_
  refine bk ?_
  obtain rfl:=hD _ hr
  exact(fa (cm (aN (aU (os':=[]) (sl:=[(4,vI (-1:Int))]) hwf) ⟨rfl,aE hwf⟩)))
 ·refine A_s ?_
  refine ak hr (fun cF2 hr=>?_) (fun cF2 hr=>?_)
  ·refine A_s ?_
   refine bk ?_
   obtain rfl:=hD _ hr
   exact(fa (cm (aN (aU (os':=[]) (sl:=[(4,vI (1:Int))]) hwf) ⟨rfl,aE hwf⟩)))
  ·refine az (dC (w_n ?_))
   refine A_s ?_
   refine bk ?_
   obtain rfl:=hD _ hr
   exact(aN (aU (os':=[]) (sl:=[(4,vI (0:Int))]) hwf) ⟨rfl,aE hwf⟩)
theorem eO(x:List ah)(target:Int)(cmp:ah→Int→Option Int)(fid_cmp:FuncId)(caps_cmp:List au){h:bn}(h_cmp:∀os x0 x1 r,cmp x0 x1=some r→cq CT fid_cmp ([.cv (.val (.agg [.int .i64 x0.Low,.int .i64 x0.High])),vI x1]++jI caps_cmp) (h.on os) fun o h'=>o=[vI r]∧h'=h.on os)(d_cmp:∀i,CT.how fid_cmp i= .data){a:(Int×Bool)}(e:ao x target cmp=some a):
  cq CT 205 [vL ay x,vI target,.cv (.val (.fn fid_cmp [] caps_cmp))] h fun o h'=>o=[vI a.1,vB a.2]∧h'=h:=by
 refine bg Tryz.func205 fun hwf hu=>?_
 have u_cmp:cc h.n caps_cmp:=(hu (.cv (.val (.fn fid_cmp [] caps_cmp))) (by simp)).2
 have vu_cmp:=fun k=>fN (k:=k) u_cmp
 obtain⟨D,hD,hr⟩:=Holds.one e
 dsimp only[ao]at hr
 change aO _ _ _ _ _ ⟨[(0,vL ay x),(1,vI target),(2,.cv (.val (.fn fid_cmp [] caps_cmp)))],h.on []⟩
 iterate 3 refine A_s ?_
 refine al (w_K (D:=D) (fun xX:Int=>⟨[(0,vL ay x),(1,vI target),(2,.cv (.val (.fn fid_cmp [] caps_cmp))),(8,vI (x.length:Int)),(9,vI xX)],h.on []⟩) (fun xX:Int=>ao.k1 x target cmp xX) (fun i s' hr ht=>?_) ?_)
 ·dsimp only[ao.k1]at hr ht
  refine(dG ht ?_)
  obtain⟨v,vF6,hr⟩:=hr.bind
  refine cf (sj:=⟨[(6,vI i),(7,vB v)],h.on []⟩) (cB ?_) ?_
  ·have hr:=Holds.intro (D:=fun z=>z=v) vF6 rfl
   refine aG 5 ?_
   rcases hr.ite with⟨cF1,hr⟩|⟨cF1,hr⟩
   ·obtain⟨x1,nF2,eF3,gF4,hr⟩:=hr.idx
    refine aG 6 ?_
    obtain⟨r,eF5,hr⟩:=hr.bind
    refine aT (out:=?o5) (hp:=?p5) ?c5 ?d5 ?_
    case c5=>exact h_cmp _ _ _ _ eF5
    case d5=>rfl
    refine aj ?_
    obtain rfl:_=v:=hr
    exact w_k A_c
   ·refine aG 6 ?_
    refine iF ?_
    refine aj ?_
    obtain rfl:_=v:=hr
    exact w_k A_c
  refine bk ?_
  obtain rfl:=hD _ hr
  exact(aN (aU (os':=[]) (sl:=[(6,vI i),(7,vB v)]) hwf) ⟨rfl,aE hwf⟩)
 ·refine aw (cb (fun xX:(Int×Int)=>⟨[(0,vL ay x),(1,vI target),(2,.cv (.val (.fn fid_cmp [] caps_cmp))),(8,vI (x.length:Int)),(9,vI xX.1),(10,vI xX.2)],h.on []⟩) hr A_c (fun W1 xX hr=>?_))
  obtain⟨i1,j⟩:=xX
  dsimp only[ao.b1]at hr
  refine al (A_s ?_)
  refine ak hr (fun cF7 hr=>?_) (fun cF7 hr=>?_)
  ·refine az (w_n (w_K (D:=(Aft W1 D)) (fun xX:(Int×Int)=>⟨[(0,vL ay x),(1,vI target),(2,.cv (.val (.fn fid_cmp [] caps_cmp))),(8,vI (x.length:Int)),(9,vI xX.1),(10,vI xX.2)],h.on []⟩) (fun xX:(Int×Int)=>ao.k2 xX.1 xX.2) (fun xX s' hr ht=>?_) ?_))
   ·obtain⟨i2,j1⟩:=xX
    dsimp only[ao.k2]at hr ht
    exact(w_k ⟨(i2,j1),hr,(To.trans ht A_c)⟩)
   ·refine aw (al ?_)
    (obtain⟨z,eF8,hr⟩:=hr.bind;replace eF8:=sI eF8;simp only[shL,shR,amL,bOr,ax0,ax7,IntKind.bits,Int.reduceToNat]at eF8)
    refine kM rfl kB ?_
    refine w_n (al (cB ?_))
    obtain⟨x2,nF9,eF10,gF11,hr⟩:=hr.idx
    refine aG 6 ?_
    obtain⟨r1,eF12,hr⟩:=hr.bind
    refine aT (out:=?o12) (hp:=?p12) ?c12 ?d12 ?_
    case c12=>exact h_cmp _ _ _ _ eF12
    case d12=>rfl
    refine fj ?_
    refine ak hr (fun cF13 hr=>?_) (fun cF13 hr=>?_)
    ·refine aC ?_
     exact(dC (w_k ⟨((IntKind.i64.wrap ((IntKind.i64.wrap z)+(1:Int))),j),hr,A_c⟩))
    ·refine aC ?_
     exact(dC (w_k ⟨(i1,(IntKind.i64.wrap z)),hr,A_c⟩))
  ·exact ca (cX (cX (fm (w_k ⟨i1,(hr).map,A_c⟩))))
theorem uu(a_:List ah)(r:Int){h:bn}{a:Bool}(e:lG a_ r=some a):
  cq CT 149 [vL ay a_,vI r] h fun o h'=>o=[vB a]∧h'=h:=by
 refine bg Tryz.func149 fun hwf hu=>?_
 obtain⟨D,hD,hr⟩:=Holds.one e
 dsimp only[lG]at hr
 change aO _ _ _ _ _ ⟨[(0,vL ay a_),(1,vI r)],h.on []⟩
 refine A_s ?_
 refine fD 2 ?_
 obtain⟨r1,eF1,hr⟩:=hr.bind
 refine aT (out:=?o1) (hp:=?p1) ?c1 ?d1 ?_
 case c1=>(refine eO a_ r (gm) _ _ ?_ ?_ eF1;(exact(fun os x0 x1 r e=>qU x0 x1 e));(exact(fun i=>by simp[CT])))
 case d1=>rfl
 refine fj ?_
 refine A_s ?_
 refine bk ?_
 obtain rfl:=hD _ hr
 exact(aN (aU (os':=[]) (sl:=[(4,vB r1.2)]) hwf) ⟨rfl,aE hwf⟩)
theorem qu(sets:List (List ah))(r:Int){h:bn}{a:Int}(e:cr sets r=some a):
  cq CT 81 [vL (eL ay) sets,vI r] h fun o h'=>o=[.cv (.val (.int .u64 a))]∧h'=h:=by
 refine bg Tryz.func81 fun hwf hu=>?_
 obtain⟨D,hD,hr⟩:=Holds.one e
 dsimp only[cr]at hr
 change aO _ _ _ _ _ ⟨[(0,vL (eL ay) sets),(1,vI r)],h.on []⟩
 iterate 2 refine A_s ?_
 refine al (A_s ?_)
 refine w_K (D:=D) (fun xX:Int=>⟨[(5,.cv (.val (.int .u64 xX)))],h.on []⟩) (fun xX:Int=>cr.k1 xX) (fun m s' hr ht=>?_) ?_
 ·dsimp only[cr.k1]at hr ht
  refine(dG ht ?_)
  refine A_s ?_
  refine bk ?_
  obtain rfl:=hD _ hr
  exact(aN (aU (os':=[]) (sl:=[(4,.cv (.val (.int .u64 m)))]) hwf) ⟨rfl,aE hwf⟩)
 ·refine aw (cb (fun xX:(Int×Int)=>⟨[(0,vL (eL ay) sets),(1,vI r),(5,.cv (.val (.int .u64 xX.1))),(8,vI (sets.length:Int)),(9,vI xX.2)],h.on []⟩) hr A_c (fun W1 xX hr=>?_))
  obtain⟨m1,v⟩:=xX
  dsimp only[cr.b1]at hr
  refine A_s ?_
  refine al (ak hr (fun cF1 hr=>?_) (fun cF1 hr=>?_))
  ·refine az (w_n (al (w_K (D:=(Aft W1 D)) (fun xX:Int=>⟨[(0,vL (eL ay) sets),(1,vI r),(5,.cv (.val (.int .u64 xX))),(8,vI (sets.length:Int)),(9,vI v)],h.on []⟩) (fun xX:Int=>cr.k2 v xX) (fun m2 s' hr ht=>?_) ?_)))
   ·dsimp only[cr.k2]at hr ht
    refine(dG ht ?_)
    refine aC ?_
    exact(w_k ⟨(m2,(IntKind.i64.wrap (v+(1:Int)))),hr,A_c⟩)
   ·refine aw (A_s ?_)
    refine al (cB ?_)
    obtain⟨xs,nF2,eF3,gF4,hr⟩:=hr.idx
    refine aG 5 ?_
    obtain⟨r1,eF5,hr⟩:=hr.bind
    refine aT (out:=?o5) (hp:=?p5) ?c5 ?d5 ?_
    case c5=>exact uu xs r eF5
    case d5=>rfl
    refine dA ?_
    refine w_n (ak hr (fun cF6 hr=>?_) (fun cF6 hr=>?_))
    ·obtain⟨nF7,nF8,hr⟩:=hr.nat
     refine aC ?_
     exact(dC (w_k ⟨(bOr .u64 m1 (shL .u64 (1:Int) v)),hr,A_c⟩))
    ·exact az (dC (w_k ⟨m1,hr,A_c⟩))
  ·exact ca (cX (cX (fm (w_k ⟨m1,(hr).map,A_c⟩))))
end Go.Val
namespace Go.Val
theorem gn(s:List Int){h:bn}{a:List Int}(e:cY s=some a):
  cq CT 84 [rI s] h fun o h'=>o=[vL eI a]∧h'=h:=
 cq.hand (C:=CT) (show tU 84 _ h _ h from⟨rfl,.inl ⟨rfl,s,a,rfl,e,rfl⟩⟩) ⟨rfl,rfl⟩
end Go.Val
namespace Go.Val
set_option maxRecDepth 20000
open Go.Proofs
theorem pe(sets:List (List ah)) {h:bn} {a:List Int} (e:aZ sets=some a):
  cq CT 80 [vL (eL ay) sets] h fun o h'=>o=[vL eI a]∧h'=h:=by
 refine bg Tryz.func80 fun hwf hu=>?_
 obtain⟨D,hD,hr⟩:=Holds.one e
 dsimp only[aZ]at hr
 change aO _ _ _ _ _ ⟨[(0,vL (eL ay) sets)],h.on []⟩
 iterate 2 refine A_s ?_
 refine al (A_s ?_)
 refine w_K (D:=D) (fun xX:List Int=>⟨[(3,rI xX)],h.on []⟩) (fun xX:List Int=>aZ.k1 xX) (fun out s' hr ht=>?_) ?_
 ·dsimp only[aZ.k1]at hr ht
  refine(dG ht ?_)
  refine fD 1 ?_
  obtain⟨l,eF1,hr⟩:=hr.bind
  refine amf (g:=83) (ds:=[]) (k:=3) rfl aaI rfl aaI aaI aaI (by rfl) (zD eF1) ?_
  refine dA ?_
  refine w_n (fD 1 ?_)
  obtain⟨r,eF2,hr⟩:=hr.bind
  refine aT (out:=?o2) (hp:=?p2) ?c2 ?d2 ?_
  case c2=>exact gn l eF2
  case d2=>rfl
  refine fj ?_
  refine bk ?_
  obtain rfl:=hD _ hr
  exact(aN (aU (os':=[]) (sl:=[(2,vL eI r)]) hwf) ⟨rfl,aE hwf⟩)
 ·refine aw (cb (fun xX:(List Int×Int)=>⟨[(3,rI xX.1),(9,vL (eL ay) sets),(10,vI (sets.length:Int)),(11,vI xX.2)],h.on []⟩) hr A_c (fun W1 xX hr=>?_))
  obtain⟨out1,v⟩:=xX
  dsimp only[aZ.b1]at hr
  refine A_s ?_
  refine al (ak hr (fun cF3 hr=>?_) (fun cF3 hr=>?_))
  ·refine az (w_n (al (w_K (D:=(Aft W1 D)) (fun xX:List Int=>⟨[(3,rI xX),(9,vL (eL ay) sets),(10,vI (sets.length:Int)),(11,vI v)],h.on []⟩) (fun xX:List Int=>aZ.k2 v xX) (fun out2 s' hr ht=>?_) ?_)))
   ·dsimp only[aZ.k2]at hr ht
    refine(dG ht ?_)
    refine aC ?_
    exact(w_k ⟨(out2,(IntKind.i64.wrap (v+(1:Int)))),hr,A_c⟩)
   ·refine aw (al ?_)
    obtain⟨xs,nF4,eF5,gF6,hr⟩:=hr.idx
    refine A_n ?_
    refine A_s ?_
    refine aw (cb (fun xX:(List Int×Int)=>⟨[(3,rI xX.1),(9,vL (eL ay) sets),(10,vI (sets.length:Int)),(11,vI v),(15,vL ay xs),(16,vI (xs.length:Int)),(17,vI xX.2)],h.on []⟩) hr A_c (fun W2 xX hr=>?_))
    obtain⟨out3,v1⟩:=xX
    dsimp only[aZ.b2]at hr
    refine A_s ?_
    refine al (ak hr (fun cF7 hr=>?_) (fun cF7 hr=>?_))
    ·refine az (w_n (al (w_K (D:=(Aft W2 (Aft W1 D))) (fun xX:List Int=>⟨[(3,rI xX),(9,vL (eL ay) sets),(10,vI (sets.length:Int)),(11,vI v),(15,vL ay xs),(16,vI (xs.length:Int)),(17,vI v1)],h.on []⟩) (fun xX:List Int=>aZ.k3 v1 xX) (fun out4 s' hr ht=>?_) ?_)))
     ·dsimp only[aZ.k3]at hr ht
      refine(dG ht ?_)
      refine aC ?_
      exact(w_k ⟨(out4,(IntKind.i64.wrap (v1+(1:Int)))),hr,A_c⟩)
     ·refine aw (al ?_)
      obtain⟨x,nF8,eF9,gF10,hr⟩:=hr.idx
      refine A_n ?_
      refine al ?_
      obtain⟨nF11,hr⟩:=hr.room
      refine A_n ?_
      refine A_s ?_
      refine ak hr (fun cF12 hr=>?_) (fun cF12 hr=>?_)
      ·obtain⟨nF13,hr⟩:=hr.room
       refine aC ?_
       exact(dC (w_k ⟨((out3++([x.Low]))++([(IntKind.i64.wrap (x.High+(1:Int)))])),hr,A_c⟩))
      ·exact az (dC (w_k ⟨(out3++([x.Low])),hr,A_c⟩))
    ·exact ca (cX (cX (fm (dC (w_k ⟨out3,(hr).map,A_c⟩)))))
  ·exact ca (cX (cX (fm (w_k ⟨out1,(hr).map,A_c⟩))))
theorem qA(x:bZ){h:bn}{a:Bool}(e:iq x=some a):
  cq CT 150 [.cv (.val (.agg [.int .i64 x.Low,.int .i64 x.High,.int .u8 (x.Value.toNat:Int)]))] h fun o h'=>o=[vB a]∧h'=h:=by
 refine bg Tryz.func150 fun hwf hu=>?_
 obtain⟨D,hD,hr⟩:=Holds.one e
 dsimp only[iq]at hr
 change aO _ _ _ _ _ ⟨[(0,.cv (.val (.agg [.int .i64 x.Low,.int .i64 x.High,.int .u8 (x.Value.toNat:Int)])))],h.on []⟩
 refine A_s ?_
 refine cf (sj:=⟨[(2,vB ((decide (x.Low < (0:Int)))||((decide (x.High > (1114111:Int)))||(decide (x.Low > x.High)))))],h.on []⟩) (cB ?_) ?_
 ·refine aG 4 ?_
  rcases Bool.eq_false_or_eq_true (decide (x.Low < (0:Int)))with cF1|cF1
  ·refine aj ?_
   exact w_k A_c
  ·refine aG 5 ?_
   rcases Bool.eq_false_or_eq_true (decide (x.High > (1114111:Int)))with cF2|cF2
   ·refine aj ?_
    exact w_k A_c
   ·refine aj ?_
    exact w_k A_c
 refine bk ?_
 obtain rfl:=hD _ hr
 exact(aN (aU (os':=[]) (sl:=[(2,vB ((decide (x.Low < (0:Int)))||((decide (x.High > (1114111:Int)))||(decide (x.Low > x.High)))))]) hwf) ⟨rfl,aE hwf⟩)
theorem gr(s:List bZ)(f:bZ→Option Bool)(fid_f:FuncId)(caps_f:List au){h:bn}(h_f:∀os x0 r,f x0=some r→cq CT fid_f ([.cv (.val (.agg [.int .i64 x0.Low,.int .i64 x0.High,.int .u8 (x0.Value.toNat:Int)]))]++jI caps_f) (h.on os) fun o h'=>o=[vB r]∧h'=h.on os)(d_f:∀i,CT.how fid_f i= .data){a:Int}(e:aM s f=some a):
  cq CT 129 [vL dM s,.cv (.val (.fn fid_f [] caps_f))] h fun o h'=>o=[vI a]∧h'=h:=by
 refine bg Tryz.func129 fun hwf hu=>?_
 have u_f:cc h.n caps_f:=(hu (.cv (.val (.fn fid_f [] caps_f))) (by simp)).2
 have vu_f:=fun k=>fN (k:=k) u_f
 obtain⟨D,hD,hr⟩:=Holds.one e
 dsimp only[aM]at hr
 change aO _ _ _ _ _ ⟨[(0,vL dM s),(1,.cv (.val (.fn fid_f [] caps_f)))],h.on []⟩
 refine A_s ?_
 refine al (A_s ?_)
 refine w_K (D:=D) (fun xX:Unit=>⟨[],h.on []⟩) (fun xX:Unit=>aM.k1) (fun xX s' hr ht=>?_) ?_
 ·dsimp only[aM.k1]at hr ht
  refine(dG ht ?_)
  refine A_s ?_
  refine bk ?_
  obtain rfl:=hD _ hr
  exact(aN (aU (os':=[]) (sl:=[(4,vI (-1:Int))]) hwf) ⟨rfl,aE hwf⟩)
 ·refine aw (cb (fun xX:Int=>⟨[(0,vL dM s),(1,.cv (.val (.fn fid_f [] caps_f))),(7,vI (s.length:Int)),(8,vI xX)],h.on []⟩) hr A_c (fun W1 v hr=>?_))
  dsimp only[aM.b1]at hr
  refine A_s ?_
  refine al (ak hr (fun cF1 hr=>?_) (fun cF1 hr=>?_))
  ·refine az (w_n (al (aw (A_s ?_))))
   refine al (cB ?_)
   obtain⟨x,nF2,eF3,gF4,hr⟩:=hr.idx
   refine aG 5 ?_
   obtain⟨r,eF5,hr⟩:=hr.bind
   refine aT (out:=?o5) (hp:=?p5) ?c5 ?d5 ?_
   case c5=>exact h_f _ _ _ eF5
   case d5=>rfl
   refine dA ?_
   refine w_n (ak hr (fun cF6 hr=>?_) (fun cF6 hr=>?_))
   ·refine A_s ?_
    refine bk ?_
    obtain rfl:=hD _ hr
    exact(fa (cm (cm (fa (cm (cm (aN (aU (os':=[]) (sl:=[(4,vI v)]) hwf) ⟨rfl,aE hwf⟩)))))))
   ·refine az (dC (w_n ?_))
    refine aC ?_
    exact(w_k ⟨(IntKind.i64.wrap (v+(1:Int))),hr,A_c⟩)
  ·exact ca (cX (cX (fm (w_k ⟨(),(hr).map,A_c⟩))))
theorem fL(s:List bZ)(f:bZ→Option Bool)(fid_f:FuncId)(caps_f:List au){h:bn}(h_f:∀os x0 r,f x0=some r→cq CT fid_f ([.cv (.val (.agg [.int .i64 x0.Low,.int .i64 x0.High,.int .u8 (x0.Value.toNat:Int)]))]++jI caps_f) (h.on os) fun o h'=>o=[vB r]∧h'=h.on os)(d_f:∀i,CT.how fid_f i= .data){a:Bool}(e:cE s f=some a):
  cq CT 65 [vL dM s,.cv (.val (.fn fid_f [] caps_f))] h fun o h'=>o=[vB a]∧h'=h:=by
 refine bg Tryz.func65 fun hwf hu=>?_
 have u_f:cc h.n caps_f:=(hu (.cv (.val (.fn fid_f [] caps_f))) (by simp)).2
 have vu_f:=fun k=>fN (k:=k) u_f
 obtain⟨D,hD,hr⟩:=Holds.one e
 dsimp only[cE]at hr
 change aO _ _ _ _ _ ⟨[(0,vL dM s),(1,.cv (.val (.fn fid_f [] caps_f)))],h.on []⟩
 refine A_s ?_
 refine fD 2 ?_
 obtain⟨r,eF1,hr⟩:=hr.bind
 refine aT (out:=?o1) (hp:=?p1) ?c1 ?d1 ?_
 case c1=>(refine gr s f _ _ ?_ ?_ eF1;(exact(fun os x0 r e=>by rw[abD];exact h_f _ x0 r e));(exact d_f))
 case d1=>rfl
 refine fj ?_
 refine bk ?_
 obtain rfl:=hD _ hr
 exact(aN (aU (os':=[]) (sl:=[(4,vB (decide (r≥(0:Int))))]) hwf) ⟨rfl,aE hwf⟩)
theorem pA(t:bQ)(k:Int)(b:Vector UInt8 256)(known:List (Vector UInt8 256×Int))(l0:Nat)(l3:Nat){h:bn}(ha0:h.at_ l0=some (.cells (cH eU t.like++([.row 192 (List.map (eA eU) t.first)]:List CV))))(ha3:h.at_ l3=some (.map 192 (gy (eA eU) eI known)))(hn0_3:l0≠l3){a:(Bool×bQ×List (Vector UInt8 256×Int))}(e:cZ t k b known=some a):
  cq CT 128 [vP l0,vI k,.cv (.val (.agg (List.map eU b.toList))),.cv (.val (.map (some (l3))))] h fun o h'=>o=[vB a.1]∧h'=((h.upd l0 (.cells (cH eU a.2.1.like++([.row 192 (List.map (eA eU) a.2.1.first)]:List CV)))).upd l3 (.map 192 (gy (eA eU) eI a.2.2))):=by
 refine bg Tryz.func128 fun hwf hu=>?_
 have hl0:=(hwf _ _ ha0).1
 have kl0:=kZ hl0
 have hl3:=(hwf _ _ ha3).1
 have kl3:=kZ hl3
 have ku0:=aaK hl0 ha0
 have ku3:=aaK hl3 ha3
 have kp0_3:=aiC hn0_3
 obtain⟨D,hD,hr⟩:=Holds.one e
 dsimp only[cZ]at hr
 change aO _ _ _ _ _ ⟨[(0,vP l0),(1,vI k),(2,.cv (.val (.agg (List.map eU b.toList)))),(3,.cv (.val (.map (some (l3)))))],h.on []⟩
 iterate 2 refine A_s ?_
 refine al (A_s ?_)
 refine w_K (D:=D) (fun xX:(Int×List (Vector UInt8 256)×List (Vector UInt8 256×Int))=>⟨[(0,vP l0),(1,vI k),(9,vI xX.1)],((h.upd l0 (.cells (cH eU t.like++([.row 192 (List.map (eA eU) xX.2.1)]:List CV)))).upd l3 (.map 192 (gy (eA eU) eI xX.2.2))).on []⟩) (fun xX:(Int×List (Vector UInt8 256)×List (Vector UInt8 256×Int))=>cZ.k1 t k xX.1 xX.2.1 xX.2.2) (fun xX s' hr ht=>?_) ?_
 ·obtain⟨i,like,m⟩:=xX
  dsimp only[cZ.k1]at hr ht
  refine(dG ht ?_)
  refine al ?_
  obtain⟨n,nF1,eF2,gF3,hr⟩:=hr.idx
  have qF4:(Int.toNat k < 4352)=True:=eq_true (pQ eF2)
  have qF5:((cH eU t.like++([.row 192 (List.map (eA eU) like)]:List CV))).set (Int.toNat k) (.val (.int .u8 (IntKind.u8.wrap i)))=(cH eU (xz t.like k (u8 (IntKind.u8.wrap i)))++([.row 192 (List.map (eA eU) like)]:List CV)):=by have q:=(agI (e:=eU) (v:=t.like) (cs:=([.row 192 (List.map (eA eU) like)]:List CV)) (x:=(u8 (IntKind.u8.wrap i))) (pQ eF2));rw[aq9]at q;exact q
  have qF6:((cH eU t.like++([.row 192 (List.map (eA eU) like)]:List CV))).getD (Int.toNat k) .dead= .val (eU n):=adR eF2
  have qF7:((Int.toNat k)+1≤4352)=True:=eq_true (pQ eF2)
  have qF8:((Int.toNat k)≤4352)=True:=eq_true (Nat.le_of_lt (pQ eF2))
  refine kM rfl (by simp (disch:=(apply dd.mk;decide)) only[go_sem,Nat.reduceAdd,Nat.reduceLT,Nat.reduceMul,Nat.reduceLeDiff,Int.reduceToNat,Int.reduceLT,Int.reduceLE,ha0,fc hl0,fq hl0,jh hl0,ha3,fc hl3,fq hl3,jh hl3,fT hl0,jJ hl0,gI hl0,fh ha0,fT hl3,jJ hl3,gI hl3,fh ha3,ry hn0_3,ry (Ne.symm hn0_3),pB hn0_3,oZ hl0,oZ hl3,mS hl0,mS hl3,nF1,eF2,gF3,qF4,Nat.mul_one,Nat.zero_add,qF8,qF5,qF6,qF7,Nat.mul_one,Nat.zero_add];rfl) ?_
  refine w_n (A_s ?_)
  refine bk ?_
  obtain rfl:=hD _ hr
  exact(aN (aU (os':=[]) (sl:=[(8,vB true)]) (h:=((h.upd l0 (.cells (cH eU (xz t.like k (u8 (IntKind.u8.wrap i)))++([.row 192 (List.map (eA eU) like)]:List CV)))).upd l3 (.map 192 (gy (eA eU) eI m)))) (ft (ft hwf hl0) hl3)) ⟨rfl,aE (ft (ft hwf hl0) hl3)⟩)
 ·refine ak hr (fun cF10 hr=>?_) (fun cF10 hr=>?_)
  ·refine al (A_s ?_)
   refine ak hr (fun cF11 hr=>?_) (fun cF11 hr=>?_)
   ·refine A_s ?_
    refine bk ?_
    obtain rfl:=hD _ hr
    exact(cm (cm (cm (aN (aU (os':=[]) (sl:=[(8,vB false)]) (h:=((h.upd l0 (.cells (cH eU t.like++([.row 192 (List.map (eA eU) t.first)]:List CV)))).upd l3 (.map 192 (gy (eA eU) eI known)))) (ft (ft hwf hl0) hl3)) ⟨rfl,aE (ft (ft hwf hl0) hl3)⟩))))
   ·refine az (w_n ?_)
    iterate 2 refine A_s ?_
    refine cT [0,1,2,3,4,5,6,7,8,9,10] (by rfl) ?_
    obtain⟨nF12,hr⟩:=hr.room
    refine bU [0,1,2,3,4,5,6] [6,5,4,3,2,1,0] ?_
    refine dt [0] ?_
    refine bU [8,9] [9,8,0] ?_
    refine dt [] ?_
    refine df ?_
    exact(w_k ⟨((t.first.length:Int),(t.first++([b])),(kF b (t.first.length:Int) known)),hr,(aU (ft (ft hwf hl0) hl3))⟩)
  ·exact az (w_k ⟨(((oL b known).getD (0:Int)),t.first,known),hr,(aU (ft (ft hwf hl0) hl3))⟩)
theorem nK(l:List bZ) {h:bn} {a:(Option bQ×Int)} (e:aY l=some a):
  cq CT 82 [vL dM l] h fun o h'=>match a.1 with|none=>o=[.cv (.val (.ptr none)),vI a.2]∧h'=h|some y=>o=[vP (h.n+0),vI a.2]∧h'=h.on [some (.cells (cH eU y.like++([wL (eA eU) y.first]:List CV)))]:=by
 refine bg Tryz.func82 fun hwf hu=>?_
 obtain⟨D,hD,hr⟩:=Holds.one e
 dsimp only[aY]at hr
 change aO _ _ _ _ _ ⟨[(0,vL dM l)],h.on []⟩
 refine A_s ?_
 refine al (A_s ?_)
 refine ak hr (fun cF1 hr=>?_) (fun cF1 hr=>?_)
 ·refine A_s ?_
  refine bk ?_
  obtain rfl:=hD _ hr
  exact(cm (aN (aU (os':=[]) (sl:=[(2,.cv (.val (.ptr none))),(3,vI (3:Int))]) hwf) ⟨rfl,aE hwf⟩))
 ·refine az (w_n (A_s ?_))
  refine al (fD 2 ?_)
  obtain⟨r,eF2,hr⟩:=hr.bind
  refine aT (out:=?o2) (hp:=?p2) ?c2 ?d2 ?_
  case c2=>(refine fL l (iq) _ _ ?_ ?_ eF2;(exact(fun os x0 r e=>qA x0 e));(exact(fun i=>by simp[CT])))
  case d2=>rfl
  refine dA ?_
  refine w_n (ak hr (fun cF3 hr=>?_) (fun cF3 hr=>?_))
  ·refine A_s ?_
   refine bk ?_
   obtain rfl:=hD _ hr
   exact(cm (aN (aU (os':=[]) (sl:=[(2,.cv (.val (.ptr none))),(3,vI (1:Int))]) hwf) ⟨rfl,aE hwf⟩))
  ·refine az (w_n ?_)
   iterate 2 refine A_s ?_
   refine al (A_s ?_)
   refine w_K (D:=D) (fun xX:(Vector UInt8 4352×List (Vector UInt8 256))=>⟨[(5,vP (h.n+0))],h.on [some (.cells (cH eU xX.1++([.row 192 (List.map (eA eU) xX.2)]:List CV)))]⟩) (fun xX:(Vector UInt8 4352×List (Vector UInt8 256))=>aY.k1 xX.1 xX.2) (fun xX s' hr ht=>?_) ?_
   ·obtain⟨like,like1⟩:=xX
    dsimp only[aY.k1]at hr ht
    refine(dG ht ?_)
    refine A_s ?_
    refine bk ?_
    obtain rfl:=hD _ hr
    exact(rD (.fix _ _ (.cell (h.n+0) 4352) 192 _ (by simp (disch:=(apply dd.mk;decide)) only[go_sem,Nat.reduceAdd,Nat.reduceLT,Nat.reduceMul,Nat.reduceLeDiff,Int.reduceToNat,Int.reduceLT,Int.reduceLE,cF1,cF3];rfl) (aU (os':=[some (.cells (cH eU like++([wL (eA eU) like1]:List CV)))]) (sl:=[(2,vP (h.n+0)),(3,vI (0:Int))]) hwf)) (by simp (disch:=(apply dd.mk;decide)) only[go_sem,Nat.reduceAdd,Nat.reduceLT,Nat.reduceMul,Nat.reduceLeDiff,Int.reduceToNat,Int.reduceLT,Int.reduceLE,Tryz.results82,ai ahy,eT,fB.eq_2,dH,cF1,cF3]) ⟨rfl,rfl⟩)
   ·refine aw (cb (fun xX:(Int×Vector UInt8 4352×List (Vector UInt8 256)×List (Vector UInt8 256×Int))=>⟨[(0,vL dM l),(5,vP (h.n+0)),(6,.cv (.val (.map (some (h.n+1))))),(22,vI xX.1)],h.on [some (.cells (cH eU xX.2.1++([.row 192 (List.map (eA eU) xX.2.2.1)]:List CV))),some (.map 192 (gy (eA eU) eI xX.2.2.2))]⟩) hr A_c (fun W1 xX hr=>?_))
    obtain⟨v,like2,like3,m⟩:=xX
    dsimp only[aY.b1]at hr
    refine A_s ?_
    refine al (ak hr (fun cF4 hr=>?_) (fun cF4 hr=>?_))
    ·refine az (w_n (al (w_K (D:=(Aft W1 D)) (fun xX:(Vector UInt8 4352×List (Vector UInt8 256)×List (Vector UInt8 256×Int))=>⟨[(0,vL dM l),(5,vP (h.n+0)),(6,.cv (.val (.map (some (h.n+1))))),(22,vI v)],h.on [some (.cells (cH eU xX.1++([.row 192 (List.map (eA eU) xX.2.1)]:List CV))),some (.map 192 (gy (eA eU) eI xX.2.2))]⟩) (fun xX:(Vector UInt8 4352×List (Vector UInt8 256)×List (Vector UInt8 256×Int))=>aY.k2 v xX.1 xX.2.1 xX.2.2) (fun xX s' hr ht=>?_) ?_)))
     ·obtain⟨like4,like5,m1⟩:=xX
      dsimp only[aY.k2]at hr ht
      refine(dG ht ?_)
      refine aC ?_
      exact(w_k ⟨((IntKind.i64.wrap (v+(1:Int))),like4,like5,m1),hr,A_c⟩)
     ·refine aw ?_
      iterate 3 refine A_s ?_
      refine al (A_s ?_)
      refine w_K (D:=(Aft W1 D)) (fun xX:Vector UInt8 256=>⟨[(0,vL dM l),(5,vP (h.n+0)),(6,.cv (.val (.map (some (h.n+1))))),(7,vI v),(8,vP (h.n+2)),(22,vI v)],h.on [some (.cells (cH eU like2++([.row 192 (List.map (eA eU) like3)]:List CV))),some (.map 192 (gy (eA eU) eI m)),some (.cells (cH eU xX))]⟩) (fun xX:Vector UInt8 256=>aY.k3 v like2 like3 m xX) (fun v1 s' hr ht=>?_) ?_
      ·dsimp only[aY.k3]at hr ht
       refine(dG ht ?_)
       refine fD 4 ?_
       obtain⟨r1,eF5,hr⟩:=hr.bind
       refine aT (out:=?o5) (hp:=?p5) ?c5 ?d5 ?_
       case c5=>(refine pA (bQ.mk like2 like3) v v1 m (h.n+0) (h.n+1) ?_ ?_ ?_ eF5;exact xT;exact xT;(first|omega|assumption|exact Ne.symm (by assumption)))
       case d5=>rfl
       refine fj ?_
       refine ak hr (fun cF6 hr=>?_) (fun cF6 hr=>?_)
       ·refine A_s ?_
        refine bk ?_
        obtain rfl:=hD _ hr
        exact(fa (cm (cm (cm (fa (cm (cm (aN (aU (os':=[]) (sl:=[(2,.cv (.val (.ptr none))),(3,vI (3:Int))]) hwf) ⟨rfl,aE hwf⟩))))))))
       ·exact az (dC (w_k ⟨(r1.2.1.like,r1.2.1.first,r1.2.2),hr,A_c⟩))
      ·refine aw (cb (fun xX:(Int×Vector UInt8 256)=>⟨[(0,vL dM l),(5,vP (h.n+0)),(6,.cv (.val (.map (some (h.n+1))))),(7,vI v),(8,vP (h.n+2)),(9,vI (IntKind.i64.wrap (v*(256:Int)))),(22,vI v),(27,vL dM l),(28,vI (l.length:Int)),(29,vI xX.1)],h.on [some (.cells (cH eU like2++([.row 192 (List.map (eA eU) like3)]:List CV))),some (.map 192 (gy (eA eU) eI m)),some (.cells (cH eU xX.2))]⟩) hr A_c (fun W2 xX hr=>?_))
       obtain⟨v2,v3⟩:=xX
       dsimp only[aY.b2]at hr
       refine A_s ?_
       refine al (ak hr (fun cF7 hr=>?_) (fun cF7 hr=>?_))
       ·refine az (w_n (al (w_K (D:=(Aft W2 (Aft W1 D))) (fun xX:Vector UInt8 256=>⟨[(0,vL dM l),(5,vP (h.n+0)),(6,.cv (.val (.map (some (h.n+1))))),(7,vI v),(8,vP (h.n+2)),(9,vI (IntKind.i64.wrap (v*(256:Int)))),(22,vI v),(27,vL dM l),(28,vI (l.length:Int)),(29,vI v2)],h.on [some (.cells (cH eU like2++([.row 192 (List.map (eA eU) like3)]:List CV))),some (.map 192 (gy (eA eU) eI m)),some (.cells (cH eU xX))]⟩) (fun xX:Vector UInt8 256=>aY.k4 v2 xX) (fun v4 s' hr ht=>?_) ?_)))
        ·dsimp only[aY.k4]at hr ht
         refine(dG ht ?_)
         refine aC ?_
         exact(w_k ⟨((IntKind.i64.wrap (v2+(1:Int))),v4),hr,A_c⟩)
        ·refine aw (al ?_)
         obtain⟨x,nF8,eF9,gF10,hr⟩:=hr.idx
         refine A_n ?_
         refine A_s ?_
         refine aw (cb (fun xX:(Int×Vector UInt8 256)=>⟨[(0,vL dM l),(5,vP (h.n+0)),(6,.cv (.val (.map (some (h.n+1))))),(7,vI v),(8,vP (h.n+2)),(9,vI (IntKind.i64.wrap (v*(256:Int)))),(11,vP (h.n+3)),(12,vI xX.1),(22,vI v),(27,vL dM l),(28,vI (l.length:Int)),(29,vI v2)],h.on [some (.cells (cH eU like2++([.row 192 (List.map (eA eU) like3)]:List CV))),some (.map 192 (gy (eA eU) eI m)),some (.cells (cH eU xX.2)),some (.cells [wI x.Low,wI x.High,.val (.int .u8 (x.Value.toNat:Int))])]⟩) hr A_c (fun W3 xX hr=>?_))
         obtain⟨r2,v5⟩:=xX
         dsimp only[aY.b3]at hr
         refine al (A_s ?_)
         refine ak hr (fun cF11 hr=>?_) (fun cF11 hr=>?_)
         ·refine az (w_n (al (aw ?_)))
          obtain⟨n,nF12,eF13,gF14,hr⟩:=hr.idx
          have qF15:(Int.toNat (IntKind.i64.wrap (r2 - (IntKind.i64.wrap (v*(256:Int))))) < 256)=True:=eq_true (pQ eF13)
          have qF16:(cH eU v5).set (Int.toNat (IntKind.i64.wrap (r2 - (IntKind.i64.wrap (v*(256:Int)))))) (.val (.int .u8 (x.Value.toNat:Int)))=cH eU (xz v5 (IntKind.i64.wrap (r2 - (IntKind.i64.wrap (v*(256:Int))))) x.Value):=by have q:=(um (e:=eU) (v:=v5) (i:=(IntKind.i64.wrap (r2 - (IntKind.i64.wrap (v*(256:Int)))))) (x:=x.Value));exact q
          have qF17:(cH eU v5).getD (Int.toNat (IntKind.i64.wrap (r2 - (IntKind.i64.wrap (v*(256:Int)))))) .dead= .val (eU n):=ahx eF13
          have qF18:((Int.toNat (IntKind.i64.wrap (r2 - (IntKind.i64.wrap (v*(256:Int))))))+1≤256)=True:=eq_true (pQ eF13)
          have qF19:((Int.toNat (IntKind.i64.wrap (r2 - (IntKind.i64.wrap (v*(256:Int))))))≤256)=True:=eq_true (Nat.le_of_lt (pQ eF13))
          refine kM rfl (by simp (disch:=(apply dd.mk;decide)) only[go_sem,Nat.reduceAdd,Nat.reduceLT,Nat.reduceMul,Nat.reduceLeDiff,Int.reduceToNat,Int.reduceLT,Int.reduceLE,nF12,eF13,gF14,qF15,Nat.mul_one,Nat.zero_add,qF19,qF16,qF17,qF18,Nat.mul_one,Nat.zero_add,cF1,cF3,cF4,cF7,cF11];rfl) ?_
          refine(dC (w_n ?_))
          refine aC ?_
          exact(w_k ⟨((IntKind.i64.wrap (r2+(1:Int))),(xz v5 (IntKind.i64.wrap (r2 - (IntKind.i64.wrap (v*(256:Int))))) x.Value)),hr,A_c⟩)
         ·exact ca (cX (cX (fm (dC (w_k ⟨v5,(hr).map,A_c⟩)))))
       ·exact ca (cX (cX (fm (w_k ⟨v3,(hr).map,A_c⟩))))
    ·exact ca (cX (cX (fm (w_k ⟨(like2,like3),(hr).map,A_c⟩))))
theorem jG(l:List bZ){h:bn}{a:(Option bQ×Int)}(e:aY l=some a)(hx:a.1=none):
  cq CT 82 [vL dM l] h fun o h'=>o=[.cv (.val (.ptr none)),vI a.2]∧h'=h:=by
 have:=nK (h:=h) l e
 rw[hx]at this
 exact this
theorem jH(l:List bZ){h:bn}{a:(Option bQ×Int)}{y:bQ}(e:aY l=some a)(hx:a.1=some y):
  cq CT 82 [vL dM l] h fun o h'=>o=[vP (h.n+0),vI a.2]∧h'=h.on [some (.cells (cH eU y.like++([wL (eA eU) y.first]:List CV)))]:=by
 have:=nK (h:=h) l e
 rw[hx]at this
 exact this
theorem lQ(sets:List (List ah)) {h:bn} {a:(Option aQ×Int)} (e:aP sets=some a):
  cq CT 32 [vL (eL ay) sets] h fun o h'=>match a.1 with|none=>o=[.cv (.val (.ptr none)),vI a.2]∧h'=h|some y=>o=[vP (h.n+0),vI a.2]∧h'=h.on [some (.cells [wP (h.n+1),wL (eK .u64) y.masks,wL eI y.least]),some (.cells (cH eU y.trie.like++([wL (eA eU) y.trie.first]:List CV)))]:=by
 refine bg Tryz.func32 fun hwf hu=>?_
 obtain⟨D,hD,hr⟩:=Holds.one e
 dsimp only[aP]at hr
 change aO _ _ _ _ _ ⟨[(0,vL (eL ay) sets)],h.on []⟩
 refine A_s ?_
 refine al (A_s ?_)
 refine ak hr (fun cF1 hr=>?_) (fun cF1 hr=>?_)
 ·refine A_s ?_
  refine bk ?_
  obtain rfl:=hD _ hr
  exact(cm (aN (aU (os':=[]) (sl:=[(2,.cv (.val (.ptr none))),(3,vI (3:Int))]) hwf) ⟨rfl,aE hwf⟩))
 ·refine az (w_n (al (A_s ?_)))
  refine w_K (D:=D) (fun xX:Unit=>⟨[(0,vL (eL ay) sets)],h.on []⟩) (fun xX:Unit=>aP.k1 sets) (fun xX s' hr ht=>?_) ?_
  ·dsimp only[aP.k1]at hr ht
   refine(dG ht ?_)
   iterate 2 refine A_s ?_
   refine fD 1 ?_
   obtain⟨r,eF2,hr⟩:=hr.bind
   refine aT (out:=?o2) (hp:=?p2) ?c2 ?d2 ?_
   case c2=>exact pe sets eF2
   case d2=>rfl
   refine fj ?_
   refine A_s ?_
   refine al (A_s ?_)
   refine w_K (D:=D) (fun xX:(List bZ×List Int×List Int)=>⟨[(8,vP (h.n+0)),(11,.cv (.row 115 (List.map dM xX.1)))],h.on [some (.cells [.val (.ptr none),.row 152 (List.map (eK .u64) xX.2.1),.row 3 (List.map eI xX.2.2)])]⟩) (fun xX:(List bZ×List Int×List Int)=>aP.k2 xX.1 xX.2.1 xX.2.2) (fun xX s' hr ht=>?_) ?_
   ·obtain⟨props,masks,least⟩:=xX
    dsimp only[aP.k2]at hr ht
    refine(dG ht ?_)
    refine fD 1 ?_
    obtain⟨r1,eF3,hr⟩:=hr.bind
    try dsimp only at hr
    rcases xF6:r1.1 with _|y
    ·rw[xF6]at hr
     dsimp only at hr
     refine aT (out:=?o_eF3a) (hp:=?p_eF3a) ?c_eF3a ?d_eF3a ?_
     case c_eF3a=>exact jG props eF3 xF6
     case d_eF3a=>rfl
     refine fj ?_
     refine al (A_s ?_)
     refine ak hr (fun cF4 hr=>?_) (fun cF4 hr=>?_)
     ·refine A_s ?_
      refine bk ?_
      obtain rfl:=hD _ hr
      exact(cm (aN (aU (os':=[]) (sl:=[(2,.cv (.val (.ptr none))),(3,vI (3:Int))]) hwf) ⟨rfl,aE hwf⟩))
     ·refine az (w_n ?_)
      iterate 2 refine A_s ?_
      exact bk (hr.elim)
    ·rw[xF6]at hr
     dsimp only at hr
     refine aT (out:=?o_eF3b) (hp:=?p_eF3b) ?c_eF3b ?d_eF3b ?_
     case c_eF3b=>exact jH props eF3 xF6
     case d_eF3b=>rfl
     refine fj ?_
     refine al (A_s ?_)
     refine ak hr (fun cF5 hr=>?_) (fun cF5 hr=>?_)
     ·refine A_s ?_
      refine bk ?_
      obtain rfl:=hD _ hr
      exact(cm (aN (aU (os':=[]) (sl:=[(2,.cv (.val (.ptr none))),(3,vI (3:Int))]) hwf) ⟨rfl,aE hwf⟩))
     ·refine az (w_n ?_)
      iterate 2 refine A_s ?_
      refine bk ?_
      obtain rfl:=hD _ hr
      exact(rD (.fix _ _ (.cell (h.n+0) 1) 152 _ kB (.fix _ _ (.cell (h.n+0) 2) 3 _ kB (aU (os':=[some (.cells [wP (h.n+1),wL (eK .u64) masks,wL eI least]),some (.cells (cH eU y.like++([wL (eA eU) y.first]:List CV)))]) (sl:=[(2,vP (h.n+0)),(3,vI (0:Int))]) hwf))) cN ⟨rfl,rfl⟩)
   ·refine aw (cb (fun xX:(List bZ×Int×List Int×List Int×List (Int×Int))=>⟨[(0,vL (eL ay) sets),(8,vP (h.n+0)),(9,.cv (.val (.map (some (h.n+1))))),(10,vL eI r),(11,.cv (.row 115 (List.map dM xX.1))),(48,vL eI r),(49,vI (r.length:Int)),(50,vI xX.2.1)],h.on [some (.cells [.val (.ptr none),.row 152 (List.map (eK .u64) xX.2.2.1),.row 3 (List.map eI xX.2.2.2.1)]),some (.map 152 (gy (eK .u64) eI xX.2.2.2.2))]⟩) hr A_c (fun W1 xX hr=>?_))
    obtain⟨props1,v,masks1,least1,m⟩:=xX
    dsimp only[aP.b1]at hr
    refine A_s ?_
    refine al (ak hr (fun cF7 hr=>?_) (fun cF7 hr=>?_))
    ·refine az (w_n (al (aw (al ?_))))
     obtain⟨n,nF8,eF9,gF10,hr⟩:=hr.idx
     refine A_n ?_
     refine fD 2 ?_
     obtain⟨r2,eF11,hr⟩:=hr.bind
     refine aT (out:=?o11) (hp:=?p11) ?c11 ?d11 ?_
     case c11=>exact qu sets n eF11
     case d11=>rfl
     refine fj ?_
     refine A_s ?_
     refine al (A_s ?_)
     refine w_K (D:=(Aft W1 D)) (fun xX:(Int×List Int×List Int×List (Int×Int))=>⟨[(0,vL (eL ay) sets),(8,vP (h.n+0)),(9,.cv (.val (.map (some (h.n+1))))),(10,vL eI r),(11,.cv (.row 115 (List.map dM props1))),(12,vI v),(13,vI n),(15,vI xX.1),(48,vL eI r),(49,vI (r.length:Int)),(50,vI v)],h.on [some (.cells [.val (.ptr none),.row 152 (List.map (eK .u64) xX.2.1),.row 3 (List.map eI xX.2.2.1)]),some (.map 152 (gy (eK .u64) eI xX.2.2.2))]⟩) (fun xX:(Int×List Int×List Int×List (Int×Int))=>aP.k3 r props1 v n xX.1 xX.2.1 xX.2.2.1 xX.2.2.2) (fun xX s' hr ht=>?_) ?_
     ·obtain⟨class_,masks2,least2,m1⟩:=xX
      dsimp only[aP.k3]at hr ht
      refine(dG ht ?_)
      refine al (A_s ?_)
      refine ak hr (fun cF12 hr=>?_) (fun cF12 hr=>?_)
      ·refine A_s ?_
       refine bk ?_
       obtain rfl:=hD _ hr
       exact(cm (fa (cm (cm (fa (cm (cm (aN (aU (os':=[]) (sl:=[(2,.cv (.val (.ptr none))),(3,vI (3:Int))]) hwf) ⟨rfl,aE hwf⟩))))))))
      ·refine az (w_n (A_s ?_))
       refine al (A_s ?_)
       refine w_K (D:=(Aft W1 D)) (fun xX:Int=>⟨[(0,vL (eL ay) sets),(8,vP (h.n+0)),(9,.cv (.val (.map (some (h.n+1))))),(10,vL eI r),(11,.cv (.row 115 (List.map dM props1))),(13,vI n),(15,vI class_),(17,vI xX),(48,vL eI r),(49,vI (r.length:Int)),(50,vI v)],h.on [some (.cells [.val (.ptr none),.row 152 (List.map (eK .u64) masks2),.row 3 (List.map eI least2)]),some (.map 152 (gy (eK .u64) eI m1))]⟩) (fun xX:Int=>aP.k4 props1 v n class_ masks2 least2 m1 xX) (fun high s' hr ht=>?_) ?_
       ·dsimp only[aP.k4]at hr ht
        refine(dG ht ?_)
        obtain⟨nF13,hr⟩:=hr.room
        refine aC ?_
        refine(dC (w_n ?_))
        refine aC ?_
        exact(w_k ⟨((props1++([(bZ.mk n high (u8 (IntKind.u8.wrap class_)))])),(IntKind.i64.wrap (v+(1:Int))),masks2,least2,m1),hr,A_c⟩)
       ·refine ak hr (fun cF14 hr=>?_) (fun cF14 hr=>?_)
        ·obtain⟨n1,nF15,eF16,gF17,hr⟩:=hr.idx
         refine aC ?_
         exact(w_k ⟨(IntKind.i64.wrap (n1 - (1:Int))),hr,A_c⟩)
        ·exact az (w_k ⟨(1114111:Int),hr,A_c⟩)
     ·refine ak hr (fun cF18 hr=>?_) (fun cF18 hr=>?_)
      ·refine A_s ?_
       refine A_s ?_
       refine cT [0,1,2,3,4,5,6,7,9,10,11,12,13,14,8,15,16,17,18,19,20,21] (by rfl) ?_
       obtain⟨nF19,hr⟩:=hr.room
       obtain⟨nF20,hr⟩:=hr.room
       refine bU [0,1,2,3,4,5,6,7,9,10,11,12,13,14] [14,13,12,11,10,9,7,6,5,4,3,2,1,0] ?_
       refine dt [14,13,12,11,10,9,1,0] ?_
       refine dt [1,0] ?_
       refine bU [16,17] [17,16,1,0] ?_
       refine dt [1] ?_
       refine bU [19,20] [20,19,1] ?_
       refine dt [] ?_
       refine df ?_
       exact(w_k ⟨((m.length:Int),(masks1++([r2])),(least1++([n])),(kF r2 (m.length:Int) m)),hr,A_c⟩)
      ·exact az (w_k ⟨(((oL r2 m).getD (0:Int)),masks1,least1,m),hr,A_c⟩)
    ·exact ca (cX (cX (fm (w_k ⟨(props1,masks1,least1),(hr).map,A_c⟩))))
  ·refine aw (cb (fun xX:Int=>⟨[(0,vL (eL ay) sets),(23,vL (eL ay) sets),(24,vI (sets.length:Int)),(25,vI xX)],h.on []⟩) hr A_c (fun W2 v1 hr=>?_))
   dsimp only[aP.b2]at hr
   refine A_s ?_
   refine al (ak hr (fun cF21 hr=>?_) (fun cF21 hr=>?_))
   ·refine az (w_n (al (aw (al ?_))))
    obtain⟨xs,nF22,eF23,gF24,hr⟩:=hr.idx
    refine A_n ?_
    refine fD 1 ?_
    obtain⟨r3,eF25,hr⟩:=hr.bind
    refine aT (out:=?o25) (hp:=?p25) ?c25 ?d25 ?_
    case c25=>exact mY xs eF25
    case d25=>rfl
    refine fj ?_
    obtain⟨v2,vF28,hr⟩:=hr.bind
    refine cf (sj:=⟨[(0,vL (eL ay) sets),(23,vL (eL ay) sets),(24,vI (sets.length:Int)),(25,vI v1),(41,vB v2)],h.on []⟩) (cB ?_) ?_
    ·have hr:=Holds.intro (D:=fun z=>z=v2) vF28 rfl
     refine aG 3 ?_
     rcases hr.ite with⟨cF26,hr⟩|⟨cF26,hr⟩
     ·refine aG 2 ?_
      refine iF ?_
      refine aj ?_
      obtain rfl:_=v2:=hr
      exact w_k A_c
     ·refine aG 2 ?_
      obtain⟨r4,eF27,hr⟩:=hr.bind
      refine aT (out:=?o27) (hp:=?p27) ?c27 ?d27 ?_
      case c27=>exact eF r3.1 xs eF27
      case d27=>rfl
      refine aj ?_
      obtain rfl:_=v2:=hr
      exact w_k A_c
    refine ak hr (fun cF29 hr=>?_) (fun cF29 hr=>?_)
    ·refine A_s ?_
     refine bk ?_
     obtain rfl:=hD _ hr
     exact(fa (cm (cm (fa (cm (cm (aN (aU (os':=[]) (sl:=[(2,.cv (.val (.ptr none))),(3,vI (1:Int))]) hwf) ⟨rfl,aE hwf⟩)))))))
    ·refine az (dC (w_n ?_))
     refine aC ?_
     exact(w_k ⟨(IntKind.i64.wrap (v1+(1:Int))),hr,A_c⟩)
   ·exact ca (cX (cX (fm (w_k ⟨(),(hr).map,A_c⟩))))
theorem nc(sets:List (List ah)){h:bn}{a:(Option aQ×Int)}(e:aP sets=some a)(hx:a.1=none):
  cq CT 32 [vL (eL ay) sets] h fun o h'=>o=[.cv (.val (.ptr none)),vI a.2]∧h'=h:=by
 have:=lQ (h:=h) sets e
 rw[hx]at this
 exact this
theorem ng(sets:List (List ah)){h:bn}{a:(Option aQ×Int)}{y:aQ}(e:aP sets=some a)(hx:a.1=some y):
  cq CT 32 [vL (eL ay) sets] h fun o h'=>o=[vP (h.n+0),vI a.2]∧h'=h.on [some (.cells [wP (h.n+1),wL (eK .u64) y.masks,wL eI y.least]),some (.cells (cH eU y.trie.like++([wL (eA eU) y.trie.first]:List CV)))]:=by
 have:=lQ (h:=h) sets e
 rw[hx]at this
 exact this
theorem fX(a_:aQ)(l0:Nat)(l0p0:Nat){h:bn}(ha0:h.at_ l0=some (.cells [wP l0p0,wL (eK .u64) a_.masks,wL eI a_.least]))(ha0p0:h.at_ l0p0=some (.cells (cH eU a_.trie.like++([wL (eA eU) a_.trie.first]:List CV))))(hn0_0p0:l0≠l0p0){a:Int}(e:dS a_=some a):
  cq CT 34 [vP l0] h fun o h'=>o=[vI a]∧h'=h:=by
 refine bg Tryz.func34 fun hwf hu=>?_
 have hl0:=(hwf _ _ ha0).1
 have kl0:=kZ hl0
 have hl0p0:=(hwf _ _ ha0p0).1
 have kl0p0:=kZ hl0p0
 obtain⟨D,hD,hr⟩:=Holds.one e
 dsimp only[dS]at hr
 change aO _ _ _ _ _ ⟨[(0,vP l0)],h.on []⟩
 iterate 2 refine A_s ?_
 refine bk ?_
 obtain rfl:=hD _ hr
 exact(aN (aU (os':=[]) (sl:=[(2,vI (a_.masks.length:Int))]) hwf) ⟨rfl,aE hwf⟩)
theorem jo(s:List Int){h:bn}{a:List Int}(e:dz s=some a):
  cq CT 90 [vL (eK .u64) s] h fun o h'=>o=[.cv (.row 152 (List.map (eK .u64) a))]∧h'=h:=by
 refine bg Tryz.func90 fun hwf hu=>?_
 have hr:Holds (dz s) (fun z=>z=a):=Holds.intro e rfl
 unfold dz at hr
 obtain⟨nF1,hr⟩:=hr.room
 obtain rfl:s=a:=hr
 change aO _ _ _ _ _ ⟨[(0,vL (eK .u64) s)],h.on []⟩
 refine A_s ?_
 refine al (fD 1 ?_)
 refine aef rfl Tryz.underlying80 (by simp (disch:=(apply dd.mk;decide)) only[go_sem,Nat.reduceAdd,Nat.reduceLT];rfl) (fun b hb=>?_)
 refine dA ?_
 refine w_n ?_
 cases b with
 |true=>
  have hs:s=[]:=by
   cases s with
   |nil=>rfl
   |cons x l=>exact absurd (hb (by simp)) (by simp)
  subst hs
  refine oE true (fun _=>?_) (fun e=>by cases e)
  refine A_s ?_
  exact bk (cm (aN (aU (os':=[]) (sl:=[(2,.cv (.row 152 (List.map (eK .u64) ([]:List Int))))]) hwf) ⟨rfl,aE hwf⟩))
 |false=>
  refine oE false (fun e=>by cases e) (fun _=>?_)
  refine az (w_n (A_s ?_))
  exact bk (aN (aU (os':=[]) (sl:=[(2,.cv (.row 152 (List.map (eK .u64) s)))]) hwf) ⟨rfl,aE hwf⟩)
theorem dN(a_:aQ)(l0:Nat)(l0p0:Nat){h:bn}(ha0:h.at_ l0=some (.cells [wP l0p0,wL (eK .u64) a_.masks,wL eI a_.least]))(ha0p0:h.at_ l0p0=some (.cells (cH eU a_.trie.like++([wL (eA eU) a_.trie.first]:List CV))))(hn0_0p0:l0≠l0p0){a:List Int}(e:cV a_=some a):
  cq CT 37 [vP l0] h fun o h'=>o=[vL (eK .u64) a]∧h'=h:=by
 refine bg Tryz.func37 fun hwf hu=>?_
 have hl0:=(hwf _ _ ha0).1
 have kl0:=kZ hl0
 have hl0p0:=(hwf _ _ ha0p0).1
 have kl0p0:=kZ hl0p0
 obtain⟨D,hD,hr⟩:=Holds.one e
 dsimp only[cV]at hr
 change aO _ _ _ _ _ ⟨[(0,vP l0)],h.on []⟩
 refine A_s ?_
 refine fD 4 ?_
 obtain⟨r,eF1,hr⟩:=hr.bind
 refine aT (out:=?o1) (hp:=?p1) ?c1 ?d1 ?_
 case c1=>exact jo a_.masks eF1
 case d1=>rfl
 refine fj ?_
 refine bk ?_
 obtain rfl:=hD _ hr
 exact(aN (.fix _ _ (.slot 2) 152 _ kB (aU (os':=[]) (sl:=[(2,vL (eK .u64) r)]) hwf)) ⟨rfl,aE hwf⟩)
theorem qY:∀(fu:Nat) (n:aD) {h:bn} {a:aD} (e:cy.r fu n=some a),
  cq CT 35 [.cv (.val (.agg [.int .i64 n.Kind,.int .i64 n.Set,.sl (List.map bW n.Kids)]))] h fun o h'=>o=[.cv (.val (.agg [.int .i64 a.Kind,.int .i64 a.Set,.sl (List.map bW a.Kids)]))]∧h'=h:=by
 intro fu
 induction fu with
 |zero=>intros;rename_i e;simp[cy.r]at e
 |succ fu ih=>
  intro n h a e
  refine bg Tryz.func35 fun hwf hu=>?_
  obtain⟨D,hD,hr⟩:=Holds.one e
  dsimp only[cy.r]at hr
  change aO _ _ _ _ _ ⟨[(0,.cv (.val (.agg [.int .i64 n.Kind,.int .i64 n.Set,.sl (List.map bW n.Kids)])))],h.on []⟩
  iterate 2 refine A_s ?_
  refine al (A_s ?_)
  refine w_K (D:=D) (fun xX:List aD=>⟨[(1,vP (h.n+0)),(2,vP (h.n+1)),(3,.cv (.row 31 (List.map bW xX)))],h.on [some (.cells [wI n.Kind,wI n.Set,wL bW n.Kids]),some (.cells [wI (0:Int),wI (0:Int),.nil])]⟩) (fun xX:List aD=>cy.k1 n xX) (fun kids s' hr ht=>?_) ?_
  ·dsimp only[cy.k1]at hr ht
   refine(dG ht ?_)
   refine al (A_s ?_)
   refine w_K (D:=D) (fun xX:List aD=>⟨[(1,vP (h.n+0)),(2,vP (h.n+1)),(3,.cv (.row 31 (List.map bW xX)))],h.on [some (.cells [wI n.Kind,wI n.Set,wL bW n.Kids]),some (.cells [wI (0:Int),wI (0:Int),.nil])]⟩) (fun xX:List aD=>cy.k2 n xX) (fun kids1 s' hr ht=>?_) ?_
   ·dsimp only[cy.k2]at hr ht
    refine(dG ht ?_)
    refine A_s ?_
    refine bk ?_
    obtain rfl:=hD _ hr
    exact(fU (aU (os':=[none,some (.cells [wI n.Kind,wI n.Set,wL bW kids1])]) (sl:=[(2,vP (h.n+1))]) hwf) (by simp (disch:=(apply dd.mk;decide)) only[go_sem,Nat.reduceAdd,Nat.reduceLT,Nat.reduceMul,Nat.reduceLeDiff,Int.reduceToNat,Int.reduceLT,Int.reduceLE,Tryz.results35,ai ago,eT,fB.eq_2,dH]) (Drops.on (os:=[none,some (.cells [wI n.Kind,wI n.Set,wL bW kids1])]) (os':=[]) hwf (nR _) xT) ⟨rfl,aE hwf⟩)
   ·refine ak hr (fun cF1 hr=>?_) (fun cF1 hr=>?_)
    ·refine cB ?_
     refine aG 1 ?_
     obtain⟨l,eF2,hr⟩:=hr.bind
     refine amf (g:=86) (ds:=[]) (k:=31) rfl aaI rfl aaI aaI aaI (by rfl) (aoA eF2) ?_
     refine dA ?_
     exact(w_k ⟨l,hr,A_c⟩)
    ·exact az (w_k ⟨kids,hr,A_c⟩)
  ·refine aw (cb (fun xX:(List aD×Int)=>⟨[(1,vP (h.n+0)),(2,vP (h.n+1)),(3,.cv (.row 31 (List.map bW xX.1))),(7,vL bW n.Kids),(8,vI (n.Kids.length:Int)),(9,vI xX.2)],h.on [some (.cells [wI n.Kind,wI n.Set,wL bW n.Kids]),some (.cells [wI (0:Int),wI (0:Int),.nil])]⟩) hr A_c (fun W1 xX hr=>?_))
   obtain⟨kids2,v⟩:=xX
   dsimp only[cy.b1]at hr
   refine A_s ?_
   refine al (ak hr (fun cF3 hr=>?_) (fun cF3 hr=>?_))
   ·refine az (w_n (al (aw (al ?_))))
    obtain⟨x,nF4,eF5,gF6,hr⟩:=hr.idx
    refine A_n ?_
    refine cB ?_
    refine aG 2 ?_
    obtain⟨r,eF7,hr⟩:=hr.bind
    refine aT (out:=?o7) (hp:=?p7) ?c7 ?d7 ?_
    case c7=>exact ih x eF7
    case d7=>rfl
    obtain⟨nF8,hr⟩:=hr.room
    refine aj ?_
    refine(dC (w_n ?_))
    refine aC ?_
    exact(w_k ⟨((kids2++([r])),(IntKind.i64.wrap (v+(1:Int)))),hr,A_c⟩)
   ·exact ca (cX (cX (fm (w_k ⟨kids2,(hr).map,A_c⟩))))
theorem nr(n:aD){h:bn}{a:aD}(e:cy n=some a):
  cq CT 35 [.cv (.val (.agg [.int .i64 n.Kind,.int .i64 n.Set,.sl (List.map bW n.Kids)]))] h fun o h'=>o=[.cv (.val (.agg [.int .i64 a.Kind,.int .i64 a.Set,.sl (List.map bW a.Kids)]))]∧h'=h:=by
 obtain⟨fuN,fuH⟩:=jK e
 exact qY fuN n (fuH fuN (nR fuN))
theorem qg(self:aD→Option Bool)(n:aD){h:bn}(hself:∀(n:aD) {h:bn} {a:Bool} (e:self n=some a),
  cq CT 154 [.cv (.val (.agg [.int .i64 n.Kind,.int .i64 n.Set,.sl (List.map bW n.Kids)]))] h fun o h'=>o=[vB a]∧h'=h) {a:Bool} (e:iZ self n=some a):
  cq CT 218 [.cv (.val (.agg [.int .i64 n.Kind,.int .i64 n.Set,.sl (List.map bW n.Kids)]))] h fun o h'=>o=[vB a]∧h'=h:=by
 refine bg Tryz.func218 fun hwf hu=>?_
 obtain⟨D,hD,hr⟩:=Holds.one e
 dsimp only[iZ]at hr
 change aO _ _ _ _ _ ⟨[(0,.cv (.val (.agg [.int .i64 n.Kind,.int .i64 n.Set,.sl (List.map bW n.Kids)])))],h.on []⟩
 refine A_s ?_
 refine fD 1 ?_
 obtain⟨r,eF1,hr⟩:=hr.bind
 refine aT (out:=?o1) (hp:=?p1) ?c1 ?d1 ?_
 case c1=>exact hself n eF1
 case d1=>rfl
 refine fj ?_
 refine bk ?_
 obtain rfl:=hD _ hr
 exact(aN (aU (os':=[]) (sl:=[(2,vB (!r))]) hwf) ⟨rfl,aE hwf⟩)
theorem gi(s:List aD)(f:aD→Option Bool)(fid_f:FuncId)(caps_f:List au){h:bn}(h_f:∀os x0 r,f x0=some r→cq CT fid_f ([.cv (.val (.agg [.int .i64 x0.Kind,.int .i64 x0.Set,.sl (List.map bW x0.Kids)]))]++jI caps_f) (h.on os) fun o h'=>o=[vB r]∧h'=h.on os)(d_f:∀i,CT.how fid_f i= .data){a:Int}(e:aL s f=some a):
  cq CT 258 [vL bW s,.cv (.val (.fn fid_f [] caps_f))] h fun o h'=>o=[vI a]∧h'=h:=by
 refine bg Tryz.func258 fun hwf hu=>?_
 have u_f:cc h.n caps_f:=(hu (.cv (.val (.fn fid_f [] caps_f))) (by simp)).2
 have vu_f:=fun k=>fN (k:=k) u_f
 obtain⟨D,hD,hr⟩:=Holds.one e
 dsimp only[aL]at hr
 change aO _ _ _ _ _ ⟨[(0,vL bW s),(1,.cv (.val (.fn fid_f [] caps_f)))],h.on []⟩
 refine A_s ?_
 refine al (A_s ?_)
 refine w_K (D:=D) (fun xX:Unit=>⟨[],h.on []⟩) (fun xX:Unit=>aL.k1) (fun xX s' hr ht=>?_) ?_
 ·dsimp only[aL.k1]at hr ht
  refine(dG ht ?_)
  refine A_s ?_
  refine bk ?_
  obtain rfl:=hD _ hr
  exact(aN (aU (os':=[]) (sl:=[(4,vI (-1:Int))]) hwf) ⟨rfl,aE hwf⟩)
 ·refine aw (cb (fun xX:Int=>⟨[(0,vL bW s),(1,.cv (.val (.fn fid_f [] caps_f))),(7,vI (s.length:Int)),(8,vI xX)],h.on []⟩) hr A_c (fun W1 v hr=>?_))
  dsimp only[aL.b1]at hr
  refine A_s ?_
  refine al (ak hr (fun cF1 hr=>?_) (fun cF1 hr=>?_))
  ·refine az (w_n (al (aw (A_s ?_))))
   refine al (cB ?_)
   obtain⟨x,nF2,eF3,gF4,hr⟩:=hr.idx
   refine aG 5 ?_
   obtain⟨r,eF5,hr⟩:=hr.bind
   refine aT (out:=?o5) (hp:=?p5) ?c5 ?d5 ?_
   case c5=>exact h_f _ _ _ eF5
   case d5=>rfl
   refine dA ?_
   refine w_n (ak hr (fun cF6 hr=>?_) (fun cF6 hr=>?_))
   ·refine A_s ?_
    refine bk ?_
    obtain rfl:=hD _ hr
    exact(fa (cm (cm (fa (cm (cm (aN (aU (os':=[]) (sl:=[(4,vI v)]) hwf) ⟨rfl,aE hwf⟩)))))))
   ·refine az (dC (w_n ?_))
    refine aC ?_
    exact(w_k ⟨(IntKind.i64.wrap (v+(1:Int))),hr,A_c⟩)
  ·exact ca (cX (cX (fm (w_k ⟨(),(hr).map,A_c⟩))))
theorem fK(s:List aD)(f:aD→Option Bool)(fid_f:FuncId)(caps_f:List au){h:bn}(h_f:∀os x0 r,f x0=some r→cq CT fid_f ([.cv (.val (.agg [.int .i64 x0.Kind,.int .i64 x0.Set,.sl (List.map bW x0.Kids)]))]++jI caps_f) (h.on os) fun o h'=>o=[vB r]∧h'=h.on os)(d_f:∀i,CT.how fid_f i= .data){a:Bool}(e:cC s f=some a):
  cq CT 219 [vL bW s,.cv (.val (.fn fid_f [] caps_f))] h fun o h'=>o=[vB a]∧h'=h:=by
 refine bg Tryz.func219 fun hwf hu=>?_
 have u_f:cc h.n caps_f:=(hu (.cv (.val (.fn fid_f [] caps_f))) (by simp)).2
 have vu_f:=fun k=>fN (k:=k) u_f
 obtain⟨D,hD,hr⟩:=Holds.one e
 dsimp only[cC]at hr
 change aO _ _ _ _ _ ⟨[(0,vL bW s),(1,.cv (.val (.fn fid_f [] caps_f)))],h.on []⟩
 refine A_s ?_
 refine fD 2 ?_
 obtain⟨r,eF1,hr⟩:=hr.bind
 refine aT (out:=?o1) (hp:=?p1) ?c1 ?d1 ?_
 case c1=>(refine gi s f _ _ ?_ ?_ eF1;(exact(fun os x0 r e=>by rw[abD];exact h_f _ x0 r e));(exact d_f))
 case d1=>rfl
 refine fj ?_
 refine bk ?_
 obtain rfl:=hD _ hr
 exact(aN (aU (os':=[]) (sl:=[(4,vB (decide (r≥(0:Int))))]) hwf) ⟨rfl,aE hwf⟩)
theorem qf:∀(fu:Nat) (n:aD) {h:bn} {a:Bool} (e:bB.r fu n=some a),
  cq CT 154 [.cv (.val (.agg [.int .i64 n.Kind,.int .i64 n.Set,.sl (List.map bW n.Kids)]))] h fun o h'=>o=[vB a]∧h'=h:=by
 intro fu
 induction fu with
 |zero=>intros;rename_i e;simp[bB.r]at e
 |succ fu ih=>
  intro n h a e
  refine bg Tryz.func154 fun hwf hu=>?_
  obtain⟨D,hD,hr⟩:=Holds.one e
  dsimp only[bB.r]at hr
  change aO _ _ _ _ _ ⟨[(0,.cv (.val (.agg [.int .i64 n.Kind,.int .i64 n.Set,.sl (List.map bW n.Kids)])))],h.on []⟩
  iterate 2 refine A_s ?_
  refine al ?_
  iterate 2 refine A_s ?_
  refine w_K (D:=D) (fun xX:Bool=>⟨[(1,vP (h.n+0)),(3,vB xX)],h.on [some (.cells [wI n.Kind,wI n.Set,wL bW n.Kids])]⟩) (fun xX:Bool=>bB.k1 (bB.r fu) n xX) (fun fits s' hr ht=>?_) ?_
  ·dsimp only[bB.k1]at hr ht
   refine(dG ht ?_)
   refine A_s ?_
   obtain⟨v,vF3,hr⟩:=hr.bind
   refine cf (sj:=⟨[(2,vB v)],h.on []⟩) (cB ?_) ?_
   ·have hr:=Holds.intro (D:=fun z=>z=v) vF3 rfl
    refine aG 2 ?_
    rcases hr.ite with⟨cF1,hr⟩|⟨cF1,hr⟩
    ·refine aG 3 ?_
     obtain⟨r,eF2,hr⟩:=hr.bind
     refine aT (out:=?o2) (hp:=?p2) ?c2 ?d2 ?_
     case c2=>(refine fK n.Kids (fun x0=>iZ (bB.r fu) x0) _ _ ?_ ?_ eF2;(exact(fun os x0 r e=>qg (bB.r fu) x0 ih e));(exact(fun i=>by simp[CT])))
     case d2=>rfl
     refine aj ?_
     obtain rfl:_=v:=hr
     exact w_k A_c
    ·refine aG 3 ?_
     refine iF ?_
     refine aj ?_
     obtain rfl:_=v:=hr
     exact w_k A_c
   refine bk ?_
   obtain rfl:=hD _ hr
   exact(aN (aU (os':=[]) (sl:=[(2,vB v)]) hwf) ⟨rfl,aE hwf⟩)
  ·refine aw (A_s ?_)
   refine ak hr (fun cF4 hr=>?_) (fun cF4 hr=>?_)
   ·refine cB ?_
    refine aG 3 ?_
    rcases hr.ite with⟨cF5,hr⟩|⟨cF5,hr⟩
    ·refine aG 5 ?_
     rcases hr.ite with⟨cF6,hr⟩|⟨cF6,hr⟩
     ·refine aj ?_
      exact(dC (w_k ⟨(decide (n.Set≤(63:Int))),hr,A_c⟩))
     ·refine aj ?_
      exact(dC (w_k ⟨false,hr,A_c⟩))
    ·refine aj ?_
     exact(dC (w_k ⟨false,hr,A_c⟩))
   ·refine A_s ?_
    refine ak hr (fun cF7 hr=>?_) (fun cF7 hr=>?_)
    ·refine aC ?_
     exact(dC (w_k ⟨true,hr,A_c⟩))
    ·refine A_s ?_
     refine ak hr (fun cF8 hr=>?_) (fun cF8 hr=>?_)
     ·refine aC ?_
      exact(dC (w_k ⟨(decide ((n.Kids.length:Int) > (0:Int))),hr,A_c⟩))
     ·refine al (A_s ?_)
      refine w_K (D:=D) (fun xX:Bool=>⟨[(1,vP (h.n+0)),(3,vB false),(4,vI (n.Kids.length:Int)),(31,vB xX)],h.on [some (.cells [wI n.Kind,wI n.Set,wL bW n.Kids])]⟩) (fun xX:Bool=>bB.k2 (bB.r fu) n xX) (fun v1 s' hr ht=>?_) ?_
      ·dsimp only[bB.k2]at hr ht
       refine(dG ht ?_)
       refine ak hr (fun cF9 hr=>?_) (fun cF9 hr=>?_)
       ·refine aC ?_
        exact(dC (w_k ⟨((n.Kids.length:Int)==(1:Int)),hr,A_c⟩))
       ·exact az (dC (w_k ⟨false,hr,A_c⟩))
      ·refine ak hr (fun cF10 hr=>?_) (fun cF10 hr=>?_)
       ·exact az (w_k ⟨(n.Kind==(3:Int)),hr,A_c⟩)
       ·refine A_s ?_
        refine ak hr (fun cF11 hr=>?_) (fun cF11 hr=>?_)
        ·exact az (w_k ⟨(n.Kind==(4:Int)),hr,A_c⟩)
        ·refine aC ?_
         exact(w_k ⟨(n.Kind==(5:Int)),hr,A_c⟩)
theorem sf(n:aD){h:bn}{a:Bool}(e:bB n=some a):
  cq CT 154 [.cv (.val (.agg [.int .i64 n.Kind,.int .i64 n.Set,.sl (List.map bW n.Kids)]))] h fun o h'=>o=[vB a]∧h'=h:=by
 obtain⟨fuN,fuH⟩:=jK e
 exact qf fuN n (fuH fuN (nR fuN))
theorem oX:∀(fu:Nat) (n:aD) {h:bn} {a:Int} (e:bN.r fu n=some a),
  cq CT 155 [.cv (.val (.agg [.int .i64 n.Kind,.int .i64 n.Set,.sl (List.map bW n.Kids)]))] h fun o h'=>o=[vI a]∧h'=h:=by
 intro fu
 induction fu with
 |zero=>intros;rename_i e;simp[bN.r]at e
 |succ fu ih=>
  intro n h a e
  refine bg Tryz.func155 fun hwf hu=>?_
  obtain⟨D,hD,hr⟩:=Holds.one e
  dsimp only[bN.r]at hr
  change aO _ _ _ _ _ ⟨[(0,.cv (.val (.agg [.int .i64 n.Kind,.int .i64 n.Set,.sl (List.map bW n.Kids)])))],h.on []⟩
  refine A_s ?_
  refine al (A_s ?_)
  refine ak hr (fun cF1 hr=>?_) (fun cF1 hr=>?_)
  ·refine A_s ?_
   refine bk ?_
   obtain rfl:=hD _ hr
   exact(cm (aN (aU (os':=[]) (sl:=[(2,vI (1:Int))]) hwf) ⟨rfl,aE hwf⟩))
  ·refine az (w_n (A_s ?_))
   refine al (A_s ?_)
   refine w_K (D:=D) (fun xX:Int=>⟨[(3,vI xX)],h.on []⟩) (fun xX:Int=>bN.k1 xX) (fun k s' hr ht=>?_) ?_
   ·dsimp only[bN.k1]at hr ht
    refine(dG ht ?_)
    refine A_s ?_
    refine bk ?_
    obtain rfl:=hD _ hr
    exact(aN (aU (os':=[]) (sl:=[(2,vI k)]) hwf) ⟨rfl,aE hwf⟩)
   ·refine aw (cb (fun xX:(Int×Int)=>⟨[(3,vI xX.1),(10,vL bW n.Kids),(11,vI (n.Kids.length:Int)),(12,vI xX.2)],h.on []⟩) hr A_c (fun W1 xX hr=>?_))
    obtain⟨k1,v⟩:=xX
    dsimp only[bN.b1]at hr
    refine A_s ?_
    refine al (ak hr (fun cF2 hr=>?_) (fun cF2 hr=>?_))
    ·refine az (w_n (al (aw (al ?_))))
     obtain⟨x,nF3,eF4,gF5,hr⟩:=hr.idx
     refine A_n ?_
     refine cB ?_
     refine aG 2 ?_
     obtain⟨r,eF6,hr⟩:=hr.bind
     refine aT (out:=?o6) (hp:=?p6) ?c6 ?d6 ?_
     case c6=>exact ih x eF6
     case d6=>rfl
     refine aj ?_
     refine(dC (w_n ?_))
     refine aC ?_
     exact(w_k ⟨((IntKind.i64.wrap (k1+r)),(IntKind.i64.wrap (v+(1:Int)))),hr,A_c⟩)
    ·exact ca (cX (cX (fm (w_k ⟨k1,(hr).map,A_c⟩))))
theorem rk(n:aD){h:bn}{a:Int}(e:bN n=some a):
  cq CT 155 [.cv (.val (.agg [.int .i64 n.Kind,.int .i64 n.Set,.sl (List.map bW n.Kids)]))] h fun o h'=>o=[vI a]∧h'=h:=by
 obtain⟨fuN,fuH⟩:=jK e
 exact oX fuN n (fuH fuN (nR fuN))
end Go.Val
namespace Go.Val
theorem iE(s:List Int)(n:Int){h:bn}{a:List Int}(e:dI s n=some a):
  cq CT 273 [.cv .nil,vI n] h fun o h'=>o=[rI a]∧h'=h:=by
 unfold dI at e
 split at e
 ·rename_i hc
  obtain⟨rfl,h1,h2⟩:=hc
  obtain rfl:=sI e
  exact cq.hand (C:=CT) (show tU 273 _ h _ h from⟨rfl,.inr (.inr (.inr (.inr (.inl ⟨.inr rfl,n,rfl,h1,h2,rfl⟩))))⟩) ⟨rfl,rfl⟩
 ·cases e
end Go.Val
namespace Go.Val
set_option maxRecDepth 20000
open Go.Proofs
theorem gV(slices:List (List Int)){h:bn}{a:List Int}(e:an slices=some a):
  cq CT 259 [vL (eL eI) slices] h fun o h'=>o=[rI a]∧h'=h:=by
 refine bg Tryz.func259 fun hwf hu=>?_
 obtain⟨D,hD,hr⟩:=Holds.one e
 dsimp only[an]at hr
 change aO _ _ _ _ _ ⟨[(0,vL (eL eI) slices)],h.on []⟩
 iterate 2 refine A_s ?_
 refine al (A_s ?_)
 refine w_K (D:=D) (fun xX:Int=>⟨[(0,vL (eL eI) slices),(3,vI xX)],h.on []⟩) (fun xX:Int=>an.k1 slices xX) (fun size s' hr ht=>?_) ?_
 ·dsimp only[an.k1]at hr ht
  refine(dG ht ?_)
  refine fD 1 ?_
  obtain⟨r,eF1,hr⟩:=hr.bind
  refine aT (out:=?o1) (hp:=?p1) ?c1 ?d1 ?_
  case c1=>exact iE [] size eF1
  case d1=>rfl
  refine fj ?_
  refine al (A_s ?_)
  refine w_K (D:=D) (fun xX:List Int=>⟨[(6,rI xX)],h.on []⟩) (fun xX:List Int=>an.k2 xX) (fun newslice s' hr ht=>?_) ?_
  ·dsimp only[an.k2]at hr ht
   refine(dG ht ?_)
   refine A_s ?_
   refine bk ?_
   obtain rfl:=hD _ hr
   exact(aN (aU (os':=[]) (sl:=[(2,rI newslice)]) hwf) ⟨rfl,aE hwf⟩)
  ·refine aw (cb (fun xX:(List Int×Int)=>⟨[(6,rI xX.1),(25,vL (eL eI) slices),(26,vI (slices.length:Int)),(27,vI xX.2)],h.on []⟩) hr A_c (fun W1 xX hr=>?_))
   obtain⟨newslice1,v⟩:=xX
   dsimp only[an.b1]at hr
   refine A_s ?_
   refine al (ak hr (fun cF2 hr=>?_) (fun cF2 hr=>?_))
   ·refine az (w_n (al (aw (al ?_))))
    obtain⟨xs,nF3,eF4,gF5,hr⟩:=hr.idx
    refine A_n ?_
    obtain⟨nF6,hr⟩:=hr.room
    refine aC ?_
    refine(dC (w_n ?_))
    refine aC ?_
    exact(w_k ⟨((newslice1++xs),(IntKind.i64.wrap (v+(1:Int)))),hr,A_c⟩)
   ·exact ca (cX (cX (fm (w_k ⟨newslice1,(hr).map,A_c⟩))))
 ·refine aw (cb (fun xX:(Int×Int)=>⟨[(0,vL (eL eI) slices),(3,vI xX.1),(9,vL (eL eI) slices),(10,vI (slices.length:Int)),(11,vI xX.2)],h.on []⟩) hr A_c (fun W2 xX hr=>?_))
  obtain⟨size1,v1⟩:=xX
  dsimp only[an.b2]at hr
  refine A_s ?_
  refine al (ak hr (fun cF7 hr=>?_) (fun cF7 hr=>?_))
  ·refine az (w_n (al (aw (al ?_))))
   obtain⟨xs1,nF8,eF9,gF10,hr⟩:=hr.idx
   refine A_n ?_
   iterate 2 refine A_s ?_
   refine ak hr (fun cF11 hr=>?_) (fun cF11 hr=>?_)
   ·exact hr.elim
   ·refine az (dC (w_n ?_))
    refine aC ?_
    exact(w_k ⟨((IntKind.i64.wrap (size1+(xs1.length:Int))),(IntKind.i64.wrap (v1+(1:Int)))),hr,A_c⟩)
  ·exact ca (cX (cX (fm (w_k ⟨size1,(hr).map,A_c⟩))))
end Go.Val
namespace Go.Val
theorem gL(s:List Int){h:bn}{a:List Int}(e:cG s=some a):
  cq CT 261 [rI s] h fun o h'=>o=[rI a]∧h'=h:=
 cq.hand (C:=CT) (show tU 261 _ h _ h from⟨rfl,.inr (.inr (.inr (.inl ⟨rfl,s,a,rfl,e,rfl⟩)))⟩) ⟨rfl,rfl⟩
end Go.Val
namespace Go.Val
set_option maxRecDepth 20000
open Go.Proofs
theorem cS(p:List Int)(more:List Int){h:bn}{a:List Int}(e:ct p more=some a):
  cq CT 221 [vL eI p,vL eI more] h fun o h'=>o=[rI a]∧h'=h:=by
 refine bg Tryz.func221 fun hwf hu=>?_
 obtain⟨D,hD,hr⟩:=Holds.one e
 dsimp only[ct]at hr
 change aO _ _ _ _ _ ⟨[(0,vL eI p),(1,vL eI more)],h.on []⟩
 refine A_s ?_
 refine fD 3 ?_
 obtain⟨r,eF1,hr⟩:=hr.bind
 refine aT (out:=?o1) (hp:=?p1) ?c1 ?d1 ?_
 case c1=>exact gV ([p,more]) eF1
 case d1=>rfl
 refine fj ?_
 refine fD 1 ?_
 obtain⟨l,eF2,hr⟩:=hr.bind
 refine amf (g:=260) (ds:=[]) (k:=3) rfl aaI rfl aaI aaI aaI (by rfl) (al1 eF2) ?_
 refine dA ?_
 refine w_n (fD 1 ?_)
 obtain⟨r1,eF3,hr⟩:=hr.bind
 refine aT (out:=?o3) (hp:=?p3) ?c3 ?d3 ?_
 case c3=>exact gL l eF3
 case d3=>rfl
 refine fj ?_
 refine bk ?_
 obtain rfl:=hD _ hr
 exact(aN (aU (os':=[]) (sl:=[(4,rI r1)]) hwf) ⟨rfl,aE hwf⟩)
theorem kD(last:List Int)(first:List Int)(a_:cM)(l2c:Nat)(la:Nat){h:bn}(ha2c:h.at_ l2c=some (.cells [wP la]))(haa:h.at_ la=some (.cells [.val (.bool a_.Null),.row 3 (List.map eI a_.Sets),wL eI a_.First,wL eI a_.Last,.row 26 (List.map (eL eI) a_.Follow)]))(hn2c_a:l2c≠la){a:cM}(e:cO last first a_=some a):
  cq CT 220 [vL eI last,vL eI first,vP l2c] h fun o h'=>o=[]∧h'=(h.upd la (.cells [.val (.bool a.Null),.row 3 (List.map eI a.Sets),wL eI a.First,wL eI a.Last,.row 26 (List.map (eL eI) a.Follow)])):=by
 refine bg Tryz.func220 fun hwf hu=>?_
 have hl2c:=(hwf _ _ ha2c).1
 have kl2c:=kZ hl2c
 have hla:=(hwf _ _ haa).1
 have kla:=kZ hla
 have ku2c:=aaK hl2c ha2c
 have kua:=aaK hla haa
 have kp2c_a:=aiC hn2c_a
 obtain⟨D,hD,hr⟩:=Holds.one e
 dsimp only[cO]at hr
 change aO _ _ _ _ _ ⟨[(0,vL eI last),(1,vL eI first),(2,vP l2c)],h.on []⟩
 refine A_s ?_
 refine w_K (D:=D) (fun xX:List (List Int)=>⟨[],(h.upd la (.cells [.val (.bool a_.Null),.row 3 (List.map eI a_.Sets),wL eI a_.First,wL eI a_.Last,.row 26 (List.map (eL eI) xX)])).on []⟩) (fun xX:List (List Int)=>cO.k1 a_ xX) (fun Follow s' hr ht=>?_) ?_
 ·dsimp only[cO.k1]at hr ht
  obtain rfl:=hD _ hr
  exact(aqy (To.trans ht (aU (os':=[]) (sl:=[]) (h:=(h.upd la (.cells [.val (.bool a_.Null),.row 3 (List.map eI a_.Sets),wL eI a_.First,wL eI a_.Last,.row 26 (List.map (eL eI) Follow)]))) (ft hwf hla))) ⟨rfl,aE (ft hwf hla)⟩)
 ·refine aw (cb (fun xX:(Int×List (List Int))=>⟨[(1,vL eI first),(2,vP l2c),(7,vL eI last),(8,vI (last.length:Int)),(9,vI xX.1)],(h.upd la (.cells [.val (.bool a_.Null),.row 3 (List.map eI a_.Sets),wL eI a_.First,wL eI a_.Last,.row 26 (List.map (eL eI) xX.2)])).on []⟩) hr (aU (ft hwf hla)) (fun W1 xX hr=>?_))
  obtain⟨v,Follow1⟩:=xX
  dsimp only[cO.b1]at hr
  refine A_s ?_
  refine al (ak hr (fun cF1 hr=>?_) (fun cF1 hr=>?_))
  ·refine az (w_n (al (aw (al ?_))))
   obtain⟨n,nF2,eF3,gF4,hr⟩:=hr.idx
   refine A_n ?_
   refine cT [0,1,2,3,4,5,6,7,8,9,10,11,12,13,14,15,16,17] (by rfl) ?_
   obtain⟨xs,nF5,eF6,gF7,hr⟩:=hr.idx
   refine bU [0,1,2,3,4,5,6,7,8,9,10,11,12,13,14] [14,13,12,11,10,9,8,7,6,5,4,3,2,1,0] ?_
   obtain⟨r,eF8,hr⟩:=hr.bind
   refine aqa (out:=?o_SeF8) rfl cN rfl kB kB (by rfl) cN ?c_SeF8 ?d_SeF8 ?_ (pend':=[5,4,3,2,1,0])
   case c_SeF8=>exact cq.fixd (cS xs first eF8)
   case d_SeF8=>rfl
   refine bU [16] [16,5,4,3,2,1,0] ?_
   refine dt [] ?_
   refine df ?_
   refine(dC (w_n ?_))
   refine aC ?_
   exact(w_k ⟨((IntKind.i64.wrap (v+(1:Int))),(List.set Follow1 (Int.toNat (IntKind.i64.wrap (n - (1:Int)))) r)),hr,(aU (ft hwf hla))⟩)
  ·exact ca (cX (cX (fm (w_k ⟨Follow1,(hr).map,(aU (ft hwf hla))⟩))))
theorem nq(x:aB)(y:aB)(a_:cM)(l2c0:Nat)(la:Nat){h:bn}(ha2c0:h.at_ l2c0=some (.cells [wP la]))(haa:h.at_ la=some (.cells [.val (.bool a_.Null),.row 3 (List.map eI a_.Sets),wL eI a_.First,wL eI a_.Last,.row 26 (List.map (eL eI) a_.Follow)]))(hn2c0_a:l2c0≠la){a:(aB×cM)}(e:ch x y a_=some a):
  cq CT 222 [.cv (.val (.agg [.bool x.null,.sl (List.map eI x.first),.sl (List.map eI x.last)])),.cv (.val (.agg [.bool y.null,.sl (List.map eI y.first),.sl (List.map eI y.last)])),.cv (.val (.fn 220 [] [.ptr (some (l2c0,0))]))] h fun o h'=>o=[.cv (.val (.agg [.bool a.1.null,.sl (List.map eI a.1.first),.sl (List.map eI a.1.last)]))]∧h'=(h.upd la (.cells [.val (.bool a.2.Null),.row 3 (List.map eI a.2.Sets),wL eI a.2.First,wL eI a.2.Last,.row 26 (List.map (eL eI) a.2.Follow)])):=by
 refine bg Tryz.func222 fun hwf hu=>?_
 have hl2c0:=(hwf _ _ ha2c0).1
 have kl2c0:=kZ hl2c0
 have hla:=(hwf _ _ haa).1
 have kla:=kZ hla
 have ku2c0:=aaK hl2c0 ha2c0
 have kua:=aaK hla haa
 have kp2c0_a:=aiC hn2c0_a
 obtain⟨D,hD,hr⟩:=Holds.one e
 dsimp only[ch]at hr
 change aO _ _ _ _ _ ⟨[(0,.cv (.val (.agg [.bool x.null,.sl (List.map eI x.first),.sl (List.map eI x.last)]))),(1,.cv (.val (.agg [.bool y.null,.sl (List.map eI y.first),.sl (List.map eI y.last)]))),(2,.cv (.val (.fn 220 [] [.ptr (some (l2c0,0))])))],h.on []⟩
 refine A_s ?_
 refine fD 5 ?_
 obtain⟨r,eF1,hr⟩:=hr.bind
 refine aT (out:=?o1) (hp:=?p1) ?c1 ?d1 ?_
 case c1=>(refine kD x.last y.first a_ (l2c0) (la) ?_ ?_ ?_ eF1;exact cN;exact cN;exact qv)
 case d1=>rfl
 refine dA ?_
 refine w_n (cf (sj:=⟨[(3,vP (h.n+0)),(4,vP (h.n+1)),(6,vP (h.n+2)),(7,vP (h.n+3))],(h.upd la (.cells [.val (.bool r.Null),.row 3 (List.map eI r.Sets),wL eI r.First,wL eI r.Last,.row 26 (List.map (eL eI) r.Follow)])).on [some (.cells [.val (.bool x.null),wL eI x.first,wL eI x.last]),some (.cells [.val (.bool y.null),wL eI y.first,wL eI y.last]),some (.cells [.val (.bool false),.nil,.nil]),some (.cells [.val (.bool (x.null&&y.null)),wL eI x.first,wL eI y.last])]⟩) (cB ?_) ?_)
 ·refine aG 3 ?_
  rcases Bool.eq_false_or_eq_true x.null with cF2|cF2
  ·refine aj ?_
   exact w_k (aU (ft hwf hla))
  ·refine aj ?_
   exact w_k (aU (ft hwf hla))
 refine al (A_s ?_)
 refine w_K (D:=D) (fun xX:List Int=>⟨[(3,vP (h.n+0)),(4,vP (h.n+1)),(6,vP (h.n+2)),(7,vP (h.n+3))],(h.upd la (.cells [.val (.bool r.Null),.row 3 (List.map eI r.Sets),wL eI r.First,wL eI r.Last,.row 26 (List.map (eL eI) r.Follow)])).on [some (.cells [.val (.bool x.null),wL eI x.first,wL eI x.last]),some (.cells [.val (.bool y.null),wL eI y.first,wL eI y.last]),some (.cells [.val (.bool false),.nil,.nil]),some (.cells [.val (.bool (x.null&&y.null)),wL eI xX,wL eI y.last])]⟩) (fun xX:List Int=>ch.k1 x y r xX) (fun first s' hr ht=>?_) ?_
 ·dsimp only[ch.k1]at hr ht
  refine(dG ht ?_)
  refine al (A_s ?_)
  refine w_K (D:=D) (fun xX:List Int=>⟨[(6,vP (h.n+2)),(7,vP (h.n+3))],(h.upd la (.cells [.val (.bool r.Null),.row 3 (List.map eI r.Sets),wL eI r.First,wL eI r.Last,.row 26 (List.map (eL eI) r.Follow)])).on [none,none,some (.cells [.val (.bool false),.nil,.nil]),some (.cells [.val (.bool (x.null&&y.null)),wL eI first,wL eI xX])]⟩) (fun xX:List Int=>ch.k2 x y r first xX) (fun last s' hr ht=>?_) ?_
  ·dsimp only[ch.k2]at hr ht
   refine(dG ht ?_)
   refine A_s ?_
   refine bk ?_
   obtain rfl:=hD _ hr
   exact(fU (aU (os':=[none,none,some (.cells [.val (.bool (aB.mk (x.null&&y.null) first last).null),wL eI (aB.mk (x.null&&y.null) first last).first,wL eI (aB.mk (x.null&&y.null) first last).last])]) (sl:=[(6,vP (h.n+2))]) (h:=(h.upd la (.cells [.val (.bool r.Null),.row 3 (List.map eI r.Sets),wL eI r.First,wL eI r.Last,.row 26 (List.map (eL eI) r.Follow)]))) (ft hwf hla)) (by simp (disch:=(apply dd.mk;decide)) only[go_sem,Nat.reduceAdd,Nat.reduceLT,Nat.reduceMul,Nat.reduceLeDiff,Int.reduceToNat,Int.reduceLT,Int.reduceLE,ha2c0,fc hl2c0,fq hl2c0,jh hl2c0,haa,fc hla,fq hla,jh hla,fT hl2c0,jJ hl2c0,gI hl2c0,fh ha2c0,fT hla,jJ hla,gI hla,fh haa,ry hn2c0_a,ry (Ne.symm hn2c0_a),pB hn2c0_a,oZ hl2c0,oZ hla,mS hl2c0,mS hla,Tryz.results222,ai abe,eT,fB.eq_2,dH]) (Drops.on (h:=(h.upd la (.cells [.val (.bool r.Null),.row 3 (List.map eI r.Sets),wL eI r.First,wL eI r.Last,.row 26 (List.map (eL eI) r.Follow)]))) (os:=[none,none,some (.cells [.val (.bool (aB.mk (x.null&&y.null) first last).null),wL eI (aB.mk (x.null&&y.null) first last).first,wL eI (aB.mk (x.null&&y.null) first last).last])]) (os':=[]) (ft hwf hla) (nR _) (by simp (disch:=(apply dd.mk;decide)) only[go_sem,Nat.reduceAdd,Nat.reduceLT,Nat.reduceMul,Nat.reduceLeDiff,Int.reduceToNat,Int.reduceLT,Int.reduceLE,ha2c0,fc hl2c0,fq hl2c0,jh hl2c0,haa,fc hla,fq hla,jh hla,fT hl2c0,jJ hl2c0,gI hl2c0,fh ha2c0,fT hla,jJ hla,gI hla,fh haa,ry hn2c0_a,ry (Ne.symm hn2c0_a),pB hn2c0_a,oZ hl2c0,oZ hla,mS hl2c0,mS hla])) ⟨rfl,aE (h:=(h.upd la (.cells [.val (.bool r.Null),.row 3 (List.map eI r.Sets),wL eI r.First,wL eI r.Last,.row 26 (List.map (eL eI) r.Follow)]))) (ft hwf hla)⟩)
  ·refine ak hr (fun cF3 hr=>?_) (fun cF3 hr=>?_)
   ·refine cB ?_
    refine aG 4 ?_
    obtain⟨r1,eF4,hr⟩:=hr.bind
    refine aT (out:=?o4) (hp:=?p4) ?c4 ?d4 ?_
    case c4=>exact cq.fixd (cS x.last y.last eF4)
    case d4=>rfl
    refine aj ?_
    exact(w_k ⟨r1,hr,(aU (ft hwf hla))⟩)
   ·exact az (w_k ⟨y.last,hr,(aU (ft hwf hla))⟩)
 ·refine ak hr (fun cF5 hr=>?_) (fun cF5 hr=>?_)
  ·refine cB ?_
   refine aG 4 ?_
   obtain⟨r2,eF6,hr⟩:=hr.bind
   refine aT (out:=?o6) (hp:=?p6) ?c6 ?d6 ?_
   case c6=>exact cq.fixd (cS x.first y.first eF6)
   case d6=>rfl
   refine aj ?_
   exact(w_k ⟨r2,hr,(aU (ft hwf hla))⟩)
  ·exact az (w_k ⟨x.first,hr,(aU (ft hwf hla))⟩)
theorem oS(x:aB)(y:aB){h:bn}{a:aB}(e:fO x y=some a):
  cq CT 223 [.cv (.val (.agg [.bool x.null,.sl (List.map eI x.first),.sl (List.map eI x.last)])),.cv (.val (.agg [.bool y.null,.sl (List.map eI y.first),.sl (List.map eI y.last)]))] h fun o h'=>o=[.cv (.val (.agg [.bool a.null,.sl (List.map eI a.first),.sl (List.map eI a.last)]))]∧h'=h:=by
 refine bg Tryz.func223 fun hwf hu=>?_
 obtain⟨D,hD,hr⟩:=Holds.one e
 dsimp only[fO]at hr
 change aO _ _ _ _ _ ⟨[(0,.cv (.val (.agg [.bool x.null,.sl (List.map eI x.first),.sl (List.map eI x.last)]))),(1,.cv (.val (.agg [.bool y.null,.sl (List.map eI y.first),.sl (List.map eI y.last)])))],h.on []⟩
 refine A_s ?_
 obtain⟨⟨null,first,last⟩,vF6,hr⟩:=hr.bind
 dsimp only at hr
 refine cf (sj:=⟨[(4,vP (h.n+2))],h.on [none,none,some (.cells [.val (.bool null),wL eI first,wL eI last])]⟩) (cT [0,1,2,3,4,5,6,7,8,9,11,12,13,14,10,15,16,17] (by rfl) ?_) ?_
 ·have hr:=Holds.intro (D:=fun z=>z=(null,first,last)) vF6 rfl
  refine bU [0,1,2] [2,1,0] ?_
  rcases hr.ite with⟨cF1,hr⟩|⟨cF1,hr⟩
  ·refine bU [3,4,5,6,7,8,9,11,12,13,14] [14,13,12,11,9,8,7,6,5,4,3,2,1,0] ?_
   obtain⟨r,eF2,hr⟩:=hr.bind
   refine dO [14,13,12,11,5,4,3] (out:=?o2) (hp:=?p2) ?c2 ?d2 ?_
   case c2=>exact cq.fixd (cS x.first y.first eF2)
   case d2=>rfl
   obtain⟨r1,eF3,hr⟩:=hr.bind
   refine dO [5,4,3] (out:=?o3) (hp:=?p3) ?c3 ?d3 ?_
   case c3=>exact cq.fixd (cS x.last y.last eF3)
   case d3=>rfl
   refine bU [16] [16,5,4,3] ?_
   refine dt [] ?_
   refine df ?_
   cases (show(_,_,_)=(null,first,last) from hr)
   exact w_k A_c
  ·refine bU [3,4,5,6,7,8,9,11,12,13,14] [14,13,12,11,9,8,7,6,5,4,3,2,1,0] ?_
   obtain⟨r2,eF4,hr⟩:=hr.bind
   refine dO [14,13,12,11,5,4,3] (out:=?o4) (hp:=?p4) ?c4 ?d4 ?_
   case c4=>exact cq.fixd (cS x.first y.first eF4)
   case d4=>rfl
   obtain⟨r3,eF5,hr⟩:=hr.bind
   refine dO [5,4,3] (out:=?o5) (hp:=?p5) ?c5 ?d5 ?_
   case c5=>exact cq.fixd (cS x.last y.last eF5)
   case d5=>rfl
   refine bU [16] [16,5,4,3] ?_
   refine dt [] ?_
   refine df ?_
   cases (show(_,_,_)=(null,first,last) from hr)
   exact w_k A_c
 refine bk ?_
 obtain rfl:=hD _ hr
 exact(fU (aU (os':=[none,none,some (.cells [.val (.bool null),wL eI first,wL eI last])]) (sl:=[(4,vP (h.n+2))]) hwf) (by simp (disch:=(apply dd.mk;decide)) only[go_sem,Nat.reduceAdd,Nat.reduceLT,Nat.reduceMul,Nat.reduceLeDiff,Int.reduceToNat,Int.reduceLT,Int.reduceLE,Tryz.results223,ai ad2,eT,fB.eq_2,dH]) (Drops.on (os:=[none,none,some (.cells [.val (.bool null),wL eI first,wL eI last])]) (os':=[]) hwf (nR _) xT) ⟨rfl,aE hwf⟩)
theorem oQ:∀(fu:Nat) (a_:cM) (n:aD) (l0:Nat) {h:bn} (ha0:h.at_ l0=some (.cells [.val (.bool a_.Null),.row 3 (List.map eI a_.Sets),wL eI a_.First,wL eI a_.Last,.row 26 (List.map (eL eI) a_.Follow)])) {a:(aB×cM)} (e:aX.r fu a_ n=some a),
  cq CT 156 [vP l0,.cv (.val (.agg [.int .i64 n.Kind,.int .i64 n.Set,.sl (List.map bW n.Kids)]))] h fun o h'=>o=[.cv (.val (.agg [.bool a.1.null,.sl (List.map eI a.1.first),.sl (List.map eI a.1.last)]))]∧h'=(h.upd l0 (.cells [.val (.bool a.2.Null),.row 3 (List.map eI a.2.Sets),wL eI a.2.First,wL eI a.2.Last,.row 26 (List.map (eL eI) a.2.Follow)])):=by
 intro fu
 induction fu with
 |zero=>intros;rename_i e;simp[aX.r]at e
 |succ fu ih=>
  intro a_ n l0 h ha0 a e
  refine bg Tryz.func156 fun hwf hu=>?_
  have hl0:=(hwf _ _ ha0).1
  have kl0:=kZ hl0
  have ku0:=aaK hl0 ha0
  obtain⟨D,hD,hr⟩:=Holds.one e
  dsimp only[aX.r]at hr
  change aO _ _ _ _ _ ⟨[(0,vP l0),(1,.cv (.val (.agg [.int .i64 n.Kind,.int .i64 n.Set,.sl (List.map bW n.Kids)])))],h.on []⟩
  iterate 2 refine A_s ?_
  refine al (A_s ?_)
  refine w_K (D:=D) (fun xX:Unit=>⟨[(2,vP (h.n+0)),(3,vP (h.n+1)),(4,vP (h.n+2)),(5,.cv (.val (.fn 220 [] [.ptr (some (h.n+0,0))])))],h.on [some (.cells [wP l0]),some (.cells [wI n.Kind,wI n.Set,wL bW n.Kids]),some (.cells [.val (.bool false),.nil,.nil])]⟩) (fun xX:Unit=>aX.k1 (aX.r fu) a_ n) (fun xX s' hr ht=>?_) ?_
  ·dsimp only[aX.k1]at hr ht
   refine(dG ht ?_)
   obtain⟨x,eF1,gF2,hr⟩:=hr.idxK
   obtain⟨r,eF3,hr⟩:=hr.bind
   refine cf (sj:=⟨[(3,vP (h.n+1)),(4,vP (h.n+2)),(5,.cv (.val (.fn 220 [] [.ptr (some (h.n+0,0))]))),(13,vP (h.n+3))],(h.upd l0 (.cells [.val (.bool r.2.Null),.row 3 (List.map eI r.2.Sets),wL eI r.2.First,wL eI r.2.Last,.row 26 (List.map (eL eI) r.2.Follow)])).on [some (.cells [wP l0]),some (.cells [wI n.Kind,wI n.Set,wL bW n.Kids]),some (.cells [.val (.bool false),.nil,.nil]),some (.cells [.val (.bool r.1.null),wL eI r.1.first,wL eI r.1.last])]⟩) (axR [0,1,2,3,4] 5 6 [7] (by rfl) ?_ ?_) ?_
   ·refine bU [0,1,2,3,4] [4,3,2,1,0] ?_
    refine dO [] (out:=?o3) (hp:=?p3) ?c3 ?d3 ?_
    case c3=>(refine ih a_ x (l0) ?_ eF3;exact cN)
    case d3=>rfl
    refine dt [] ?_
    refine dt [] ?_
    refine df ?_
    exact w_k (aU (ft hwf hl0))
   ·refine bU [0,1,2,3,4] [4,3,2,1,0] ?_
    refine dt [4,3,2,1,0] ?_
    refine dO [] (out:=?o_eF3z) (hp:=?p_eF3z) ?c_eF3z ?d_eF3z ?_
    case c_eF3z=>(refine ih a_ x (l0) ?_ eF3;exact cN)
    case d_eF3z=>rfl
    refine dt [] ?_
    refine df ?_
    exact w_k (aU (ft hwf hl0))
   refine al (A_s ?_)
   refine w_K (D:=D) (fun xX:(Bool×List Int×List Int×List Int×List (List Int))=>⟨[(3,vP (h.n+1)),(4,vP (h.n+2)),(13,vP (h.n+3))],(h.upd l0 (.cells [.val (.bool xX.1),.row 3 (List.map eI xX.2.1),wL eI xX.2.2.1,wL eI xX.2.2.2.1,.row 26 (List.map (eL eI) xX.2.2.2.2)])).on [none,some (.cells [wI n.Kind,wI n.Set,wL bW n.Kids]),some (.cells [.val (.bool false),.nil,.nil]),some (.cells [.val (.bool r.1.null),wL eI r.1.first,wL eI r.1.last])]⟩) (fun xX:(Bool×List Int×List Int×List Int×List (List Int))=>aX.k2 n r xX.1 xX.2.1 xX.2.2.1 xX.2.2.2.1 xX.2.2.2.2) (fun xX s' hr ht=>?_) ?_
   ·obtain⟨Null,Sets,First,Last,Follow⟩:=xX
    dsimp only[aX.k2]at hr ht
    refine(dG ht ?_)
    refine cf (sj:=⟨[(4,vP (h.n+2)),(13,vP (h.n+3))],(h.upd l0 (.cells [.val (.bool Null),.row 3 (List.map eI Sets),wL eI First,wL eI Last,.row 26 (List.map (eL eI) Follow)])).on [none,none,some (.cells [.val (.bool false),.nil,.nil]),some (.cells [.val (.bool (r.1.null||(n.Kind != (4:Int)))),wL eI r.1.first,wL eI r.1.last])]⟩) (cB ?_) ?_
    ·refine aG 3 ?_
     rcases Bool.eq_false_or_eq_true r.1.null with cF4|cF4
     ·refine aj ?_
      exact w_k (aU (ft hwf hl0))
     ·refine aj ?_
      exact w_k (aU (ft hwf hl0))
    refine A_s ?_
    refine bk ?_
    obtain rfl:=hD _ hr
    exact(fU (aU (os':=[none,none,some (.cells [.val (.bool (aB.mk (r.1.null||(n.Kind != (4:Int))) r.1.first r.1.last).null),wL eI (aB.mk (r.1.null||(n.Kind != (4:Int))) r.1.first r.1.last).first,wL eI (aB.mk (r.1.null||(n.Kind != (4:Int))) r.1.first r.1.last).last])]) (sl:=[(4,vP (h.n+2))]) (h:=(h.upd l0 (.cells [.val (.bool Null),.row 3 (List.map eI Sets),wL eI First,wL eI Last,.row 26 (List.map (eL eI) Follow)]))) (ft hwf hl0)) (by simp (disch:=(apply dd.mk;decide)) only[go_sem,Nat.reduceAdd,Nat.reduceLT,Nat.reduceMul,Nat.reduceLeDiff,Int.reduceToNat,Int.reduceLT,Int.reduceLE,ha0,fc hl0,fq hl0,jh hl0,fT hl0,jJ hl0,gI hl0,fh ha0,Tryz.results156,ai mL,eT,fB.eq_2,dH]) (Drops.on (h:=(h.upd l0 (.cells [.val (.bool Null),.row 3 (List.map eI Sets),wL eI First,wL eI Last,.row 26 (List.map (eL eI) Follow)]))) (os:=[none,none,some (.cells [.val (.bool (aB.mk (r.1.null||(n.Kind != (4:Int))) r.1.first r.1.last).null),wL eI (aB.mk (r.1.null||(n.Kind != (4:Int))) r.1.first r.1.last).first,wL eI (aB.mk (r.1.null||(n.Kind != (4:Int))) r.1.first r.1.last).last])]) (os':=[]) (ft hwf hl0) (nR _) (by simp (disch:=(apply dd.mk;decide)) only[go_sem,Nat.reduceAdd,Nat.reduceLT,Nat.reduceMul,Nat.reduceLeDiff,Int.reduceToNat,Int.reduceLT,Int.reduceLE,ha0,fc hl0,fq hl0,jh hl0,fT hl0,jJ hl0,gI hl0,fh ha0])) ⟨rfl,aE (h:=(h.upd l0 (.cells [.val (.bool Null),.row 3 (List.map eI Sets),wL eI First,wL eI Last,.row 26 (List.map (eL eI) Follow)]))) (ft hwf hl0)⟩)
   ·refine ak hr (fun cF5 hr=>?_) (fun cF5 hr=>?_)
    ·refine cB ?_
     refine aG 5 ?_
     obtain⟨r1,eF6,hr⟩:=hr.bind
     refine aT (out:=?o6) (hp:=?p6) ?c6 ?d6 ?_
     case c6=>(refine kD r.1.last r.1.first r.2 (h.n+0) (l0) ?_ ?_ ?_ eF6;exact cN;exact cN;exact qv)
     case d6=>rfl
     refine dA ?_
     exact(w_k ⟨(r1.Null,r1.Sets,r1.First,r1.Last,r1.Follow),hr,(aU (ft hwf hl0))⟩)
    ·exact az (w_k ⟨(r.2.Null,r.2.Sets,r.2.First,r.2.Last,r.2.Follow),hr,(aU (ft hwf hl0))⟩)
  ·refine aw (A_s ?_)
   refine ak hr (fun cF7 hr=>?_) (fun cF7 hr=>?_)
   ·refine al (cT [0,1,2,3,4,5,6,7,8,10,11,12,13,14,9,15,16,17,18,19,20,21] (by rfl) ?_)
    obtain⟨nF8,hr⟩:=hr.room
    obtain⟨nF9,hr⟩:=hr.room
    refine bU [0,1,2,3,4,5,6,7,8,10,11,12,13,14] [14,13,12,11,10,8,7,6,5,4,3,2,1,0] ?_
    refine dt [14,13,12,11,10,1,0] ?_
    refine dt [1,0] ?_
    refine bU [16,17] [17,16,1,0] ?_
    refine dt [1] ?_
    refine bU [19,20] [20,19,1] ?_
    refine dt [] ?_
    refine df ?_
    refine w_n ?_
    iterate 2 refine A_s ?_
    refine bk ?_
    obtain rfl:=hD _ hr
    exact(fa (cm (cm (fU (aU (os':=[none,none,some (.cells [.val (.bool false),wL eI ([((a_.Sets++([n.Set])).length:Int)]),wL eI ([((a_.Sets++([n.Set])).length:Int)])])]) (sl:=[(4,vP (h.n+2))]) (h:=(h.upd l0 (.cells [.val (.bool a_.Null),.row 3 (List.map eI (a_.Sets++([n.Set]))),wL eI a_.First,wL eI a_.Last,.row 26 (List.map (eL eI) (a_.Follow++([[]])))]))) (ft hwf hl0)) (by simp (disch:=(apply dd.mk;decide)) only[go_sem,Nat.reduceAdd,Nat.reduceLT,Nat.reduceMul,Nat.reduceLeDiff,Int.reduceToNat,Int.reduceLT,Int.reduceLE,ha0,fc hl0,fq hl0,jh hl0,fT hl0,jJ hl0,gI hl0,fh ha0,Tryz.results156,ai mL,eT,fB.eq_2,dH,cF7]) (Drops.on (h:=(h.upd l0 (.cells [.val (.bool a_.Null),.row 3 (List.map eI (a_.Sets++([n.Set]))),wL eI a_.First,wL eI a_.Last,.row 26 (List.map (eL eI) (a_.Follow++([[]])))]))) (os:=[none,none,some (.cells [.val (.bool false),wL eI ([((a_.Sets++([n.Set])).length:Int)]),wL eI ([((a_.Sets++([n.Set])).length:Int)])])]) (os':=[]) (ft hwf hl0) (nR _) (by simp (disch:=(apply dd.mk;decide)) only[go_sem,Nat.reduceAdd,Nat.reduceLT,Nat.reduceMul,Nat.reduceLeDiff,Int.reduceToNat,Int.reduceLT,Int.reduceLE,ha0,fc hl0,fq hl0,jh hl0,fT hl0,jJ hl0,gI hl0,fh ha0,cF7])) ⟨rfl,aE (h:=(h.upd l0 (.cells [.val (.bool a_.Null),.row 3 (List.map eI (a_.Sets++([n.Set]))),wL eI a_.First,wL eI a_.Last,.row 26 (List.map (eL eI) (a_.Follow++([[]])))]))) (ft hwf hl0)⟩))))
   ·refine A_s ?_
    refine ak hr (fun cF10 hr=>?_) (fun cF10 hr=>?_)
    ·refine A_s ?_
     refine al (A_s ?_)
     refine w_K (D:=D) (fun xX:(Bool×List Int×List Int×Bool×List Int×List Int×List Int×List (List Int))=>⟨[(4,vP (h.n+2)),(7,vP (h.n+3))],(h.upd l0 (.cells [.val (.bool xX.2.2.2.1),.row 3 (List.map eI xX.2.2.2.2.1),wL eI xX.2.2.2.2.2.1,wL eI xX.2.2.2.2.2.2.1,.row 26 (List.map (eL eI) xX.2.2.2.2.2.2.2)])).on [none,none,some (.cells [.val (.bool false),.nil,.nil]),some (.cells [.val (.bool xX.1),wL eI xX.2.1,wL eI xX.2.2.1])]⟩) (fun xX:(Bool×List Int×List Int×Bool×List Int×List Int×List Int×List (List Int))=>aX.k3 xX.1 xX.2.1 xX.2.2.1 xX.2.2.2.1 xX.2.2.2.2.1 xX.2.2.2.2.2.1 xX.2.2.2.2.2.2.1 xX.2.2.2.2.2.2.2) (fun xX s' hr ht=>?_) ?_
     ·obtain⟨null1,first,last,Null1,Sets1,First1,Last1,Follow1⟩:=xX
      dsimp only[aX.k3]at hr ht
      refine(dG ht ?_)
      refine A_s ?_
      refine bk ?_
      obtain rfl:=hD _ hr
      exact(fa (cm (cm (fU (aU (os':=[none,none,some (.cells [.val (.bool (aB.mk null1 first last).null),wL eI (aB.mk null1 first last).first,wL eI (aB.mk null1 first last).last])]) (sl:=[(4,vP (h.n+2))]) (h:=(h.upd l0 (.cells [.val (.bool Null1),.row 3 (List.map eI Sets1),wL eI First1,wL eI Last1,.row 26 (List.map (eL eI) Follow1)]))) (ft hwf hl0)) (by simp (disch:=(apply dd.mk;decide)) only[go_sem,Nat.reduceAdd,Nat.reduceLT,Nat.reduceMul,Nat.reduceLeDiff,Int.reduceToNat,Int.reduceLT,Int.reduceLE,ha0,fc hl0,fq hl0,jh hl0,fT hl0,jJ hl0,gI hl0,fh ha0,Tryz.results156,ai mL,eT,fB.eq_2,dH,cF7,cF10]) (Drops.on (h:=(h.upd l0 (.cells [.val (.bool Null1),.row 3 (List.map eI Sets1),wL eI First1,wL eI Last1,.row 26 (List.map (eL eI) Follow1)]))) (os:=[none,none,some (.cells [.val (.bool (aB.mk null1 first last).null),wL eI (aB.mk null1 first last).first,wL eI (aB.mk null1 first last).last])]) (os':=[]) (ft hwf hl0) (nR _) (by simp (disch:=(apply dd.mk;decide)) only[go_sem,Nat.reduceAdd,Nat.reduceLT,Nat.reduceMul,Nat.reduceLeDiff,Int.reduceToNat,Int.reduceLT,Int.reduceLE,ha0,fc hl0,fq hl0,jh hl0,fT hl0,jJ hl0,gI hl0,fh ha0,cF7,cF10])) ⟨rfl,aE (h:=(h.upd l0 (.cells [.val (.bool Null1),.row 3 (List.map eI Sets1),wL eI First1,wL eI Last1,.row 26 (List.map (eL eI) Follow1)]))) (ft hwf hl0)⟩))))
     ·refine aw (cb (fun xX:(Int×Bool×List Int×List Int×Bool×List Int×List Int×List Int×List (List Int))=>⟨[(2,vP (h.n+0)),(4,vP (h.n+2)),(5,.cv (.val (.fn 220 [] [.ptr (some (h.n+0,0))]))),(7,vP (h.n+3)),(52,vL bW n.Kids),(53,vI (n.Kids.length:Int)),(54,vI xX.1)],(h.upd l0 (.cells [.val (.bool xX.2.2.2.2.1),.row 3 (List.map eI xX.2.2.2.2.2.1),wL eI xX.2.2.2.2.2.2.1,wL eI xX.2.2.2.2.2.2.2.1,.row 26 (List.map (eL eI) xX.2.2.2.2.2.2.2.2)])).on [some (.cells [wP l0]),none,some (.cells [.val (.bool false),.nil,.nil]),some (.cells [.val (.bool xX.2.1),wL eI xX.2.2.1,wL eI xX.2.2.2.1])]⟩) hr (aU (ft hwf hl0)) (fun W1 xX hr=>?_))
      obtain⟨v,null2,first1,last1,Null2,Sets2,First2,Last2,Follow2⟩:=xX
      dsimp only[aX.b1]at hr
      refine A_s ?_
      refine al (ak hr (fun cF11 hr=>?_) (fun cF11 hr=>?_))
      ·refine az (w_n (al (aw (al ?_))))
       obtain⟨x1,nF12,eF13,gF14,hr⟩:=hr.idx
       refine A_n ?_
       refine cT [0,1,2,4,3,5,6] (by rfl) ?_
       refine bU [0,1,2,4] [4,2,1,0] ?_
       obtain⟨r2,eF15,hr⟩:=hr.bind
       refine dO [4,0] (out:=?o15) (hp:=?p15) ?c15 ?d15 ?_
       case c15=>(refine ih (cM.mk Null2 Sets2 First2 Last2 Follow2) x1 (l0) ?_ eF15;exact cN)
       case d15=>rfl
       obtain⟨r3,eF16,hr⟩:=hr.bind
       refine dO [] (out:=?o16) (hp:=?p16) ?c16 ?d16 ?_
       case c16=>(refine nq (aB.mk null2 first1 last1) r2.1 r2.2 (h.n+0) (l0) ?_ ?_ ?_ eF16;exact cN;exact cN;exact qv)
       case d16=>rfl
       refine dt [] ?_
       refine df ?_
       refine(dC (w_n ?_))
       refine aC ?_
       exact(w_k ⟨((IntKind.i64.wrap (v+(1:Int))),r3.1.null,r3.1.first,r3.1.last,r3.2.Null,r3.2.Sets,r3.2.First,r3.2.Last,r3.2.Follow),hr,(aU (ft hwf hl0))⟩)
      ·exact ca (cX (cX (fm (w_k ⟨(null2,first1,last1,Null2,Sets2,First2,Last2,Follow2),(hr).map,(aU (ft hwf hl0))⟩))))
    ·refine A_s ?_
     refine ak hr (fun cF17 hr=>?_) (fun cF17 hr=>?_)
     ·refine A_s ?_
      refine al (A_s ?_)
      refine w_K (D:=D) (fun xX:(Bool×List Int×List Int×Bool×List Int×List Int×List Int×List (List Int))=>⟨[(4,vP (h.n+2)),(10,vP (h.n+3))],(h.upd l0 (.cells [.val (.bool xX.2.2.2.1),.row 3 (List.map eI xX.2.2.2.2.1),wL eI xX.2.2.2.2.2.1,wL eI xX.2.2.2.2.2.2.1,.row 26 (List.map (eL eI) xX.2.2.2.2.2.2.2)])).on [none,none,some (.cells [.val (.bool false),.nil,.nil]),some (.cells [.val (.bool xX.1),wL eI xX.2.1,wL eI xX.2.2.1])]⟩) (fun xX:(Bool×List Int×List Int×Bool×List Int×List Int×List Int×List (List Int))=>aX.k4 xX.1 xX.2.1 xX.2.2.1 xX.2.2.2.1 xX.2.2.2.2.1 xX.2.2.2.2.2.1 xX.2.2.2.2.2.2.1 xX.2.2.2.2.2.2.2) (fun xX s' hr ht=>?_) ?_
      ·obtain⟨null3,first2,last2,Null3,Sets3,First3,Last3,Follow3⟩:=xX
       dsimp only[aX.k4]at hr ht
       refine(dG ht ?_)
       refine A_s ?_
       refine bk ?_
       obtain rfl:=hD _ hr
       exact(fa (cm (cm (fU (aU (os':=[none,none,some (.cells [.val (.bool (aB.mk null3 first2 last2).null),wL eI (aB.mk null3 first2 last2).first,wL eI (aB.mk null3 first2 last2).last])]) (sl:=[(4,vP (h.n+2))]) (h:=(h.upd l0 (.cells [.val (.bool Null3),.row 3 (List.map eI Sets3),wL eI First3,wL eI Last3,.row 26 (List.map (eL eI) Follow3)]))) (ft hwf hl0)) (by simp (disch:=(apply dd.mk;decide)) only[go_sem,Nat.reduceAdd,Nat.reduceLT,Nat.reduceMul,Nat.reduceLeDiff,Int.reduceToNat,Int.reduceLT,Int.reduceLE,ha0,fc hl0,fq hl0,jh hl0,fT hl0,jJ hl0,gI hl0,fh ha0,Tryz.results156,ai mL,eT,fB.eq_2,dH,cF7,cF10,cF17]) (Drops.on (h:=(h.upd l0 (.cells [.val (.bool Null3),.row 3 (List.map eI Sets3),wL eI First3,wL eI Last3,.row 26 (List.map (eL eI) Follow3)]))) (os:=[none,none,some (.cells [.val (.bool (aB.mk null3 first2 last2).null),wL eI (aB.mk null3 first2 last2).first,wL eI (aB.mk null3 first2 last2).last])]) (os':=[]) (ft hwf hl0) (nR _) (by simp (disch:=(apply dd.mk;decide)) only[go_sem,Nat.reduceAdd,Nat.reduceLT,Nat.reduceMul,Nat.reduceLeDiff,Int.reduceToNat,Int.reduceLT,Int.reduceLE,ha0,fc hl0,fq hl0,jh hl0,fT hl0,jJ hl0,gI hl0,fh ha0,cF7,cF10,cF17])) ⟨rfl,aE (h:=(h.upd l0 (.cells [.val (.bool Null3),.row 3 (List.map eI Sets3),wL eI First3,wL eI Last3,.row 26 (List.map (eL eI) Follow3)]))) (ft hwf hl0)⟩))))
      ·refine aw (cb (fun xX:(Int×Bool×List Int×List Int×Bool×List Int×List Int×List Int×List (List Int))=>⟨[(2,vP (h.n+0)),(4,vP (h.n+2)),(10,vP (h.n+3)),(69,vL bW n.Kids),(70,vI (n.Kids.length:Int)),(71,vI xX.1)],(h.upd l0 (.cells [.val (.bool xX.2.2.2.2.1),.row 3 (List.map eI xX.2.2.2.2.2.1),wL eI xX.2.2.2.2.2.2.1,wL eI xX.2.2.2.2.2.2.2.1,.row 26 (List.map (eL eI) xX.2.2.2.2.2.2.2.2)])).on [some (.cells [wP l0]),none,some (.cells [.val (.bool false),.nil,.nil]),some (.cells [.val (.bool xX.2.1),wL eI xX.2.2.1,wL eI xX.2.2.2.1])]⟩) hr (aU (ft hwf hl0)) (fun W2 xX hr=>?_))
       obtain⟨v1,null4,first3,last3,Null4,Sets4,First4,Last4,Follow4⟩:=xX
       dsimp only[aX.b2]at hr
       refine A_s ?_
       refine al (ak hr (fun cF18 hr=>?_) (fun cF18 hr=>?_))
       ·refine az (w_n (al (aw (al ?_))))
        obtain⟨x2,nF19,eF20,gF21,hr⟩:=hr.idx
        refine A_n ?_
        refine cT [0,1,2,3,4,5] (by rfl) ?_
        refine bU [0,1,2] [2,1,0] ?_
        obtain⟨r4,eF22,hr⟩:=hr.bind
        refine dO [0] (out:=?o22) (hp:=?p22) ?c22 ?d22 ?_
        case c22=>(refine ih (cM.mk Null4 Sets4 First4 Last4 Follow4) x2 (l0) ?_ eF22;exact cN)
        case d22=>rfl
        obtain⟨r5,eF23,hr⟩:=hr.bind
        refine dO [] (out:=?o23) (hp:=?p23) ?c23 ?d23 ?_
        case c23=>exact oS (aB.mk null4 first3 last3) r4.1 eF23
        case d23=>rfl
        refine dt [] ?_
        refine df ?_
        refine(dC (w_n ?_))
        refine aC ?_
        exact(w_k ⟨((IntKind.i64.wrap (v1+(1:Int))),r5.null,r5.first,r5.last,r4.2.Null,r4.2.Sets,r4.2.First,r4.2.Last,r4.2.Follow),hr,(aU (ft hwf hl0))⟩)
       ·exact ca (cX (cX (fm (w_k ⟨(null4,first3,last3,Null4,Sets4,First4,Last4,Follow4),(hr).map,(aU (ft hwf hl0))⟩))))
     ·exact az (dC (w_k ⟨(),hr,A_c⟩))
theorem qC(a_:cM)(n:aD)(l0:Nat){h:bn}(ha0:h.at_ l0=some (.cells [.val (.bool a_.Null),.row 3 (List.map eI a_.Sets),wL eI a_.First,wL eI a_.Last,.row 26 (List.map (eL eI) a_.Follow)])){a:(aB×cM)}(e:aX a_ n=some a):
  cq CT 156 [vP l0,.cv (.val (.agg [.int .i64 n.Kind,.int .i64 n.Set,.sl (List.map bW n.Kids)]))] h fun o h'=>o=[.cv (.val (.agg [.bool a.1.null,.sl (List.map eI a.1.first),.sl (List.map eI a.1.last)]))]∧h'=(h.upd l0 (.cells [.val (.bool a.2.Null),.row 3 (List.map eI a.2.Sets),wL eI a.2.First,wL eI a.2.Last,.row 26 (List.map (eL eI) a.2.Follow)])):=by
 obtain⟨fuN,fuH⟩:=jK e
 exact oQ fuN a_ n l0 ha0 (fuH fuN (nR fuN))
end Go.Val

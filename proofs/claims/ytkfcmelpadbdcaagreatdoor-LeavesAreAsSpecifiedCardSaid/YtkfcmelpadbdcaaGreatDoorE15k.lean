/- Texts of this claim. -/
import Derived.Test.YtkfcmelpadbdcaaGreatDoorE15
set_option linter.all false
set_option linter.unusedSimpArgs false
set_option linter.unusedVariables false
namespace Go.Eng
open Go.RowKit

section
variable {P:Program} {T k0 e:TypeId} {kd:KD} {b clk:Nat} {arr:Array MapEntry} {kv:Value} {w:World}
end
def isExt:Op->Nat->Nat->Bool
 | .extract (.tmp t) j,d,i=>Nat.beq t d && Nat.beq j i
 | _,_,_=>false
def isEst:Op->Nat->Nat->Nat->Nat->Bool
 | .entryStore T (.tmp m) (.tmp s) (.tmp v),T',m',s',v'=>Nat.beq T T' && Nat.beq m m' && Nat.beq s s' && Nat.beq v v'
 | _,_,_,_,_=>false
def isTmp:Operand->Nat->Bool
 | .tmp t,d=>Nat.beq t d
 | _,_=>false
def notT (ds:List Nat):Operand->Bool
 | .tmp t=>!ds.contains t
 | _=>true
def zNil (P:Program) (e:TypeId):Bool:=match P.info? e with
 | some i=>match i.zero with
  | some (.slice none 0 0)=>true
  | _=>false
 | none=>false
def noG5 (os:List Oper):Bool:=os.all fun o=>o.guard.isNone
def maChk (P:Program) (N T e tm:Nat) (q:MA) (xo:Operand) (o1 o2 o3 o4 o5:Oper):Bool :=
 noG5 [o1,o2,o3,o4,o5] && isExt o2.op q.d1 0 && isExt o4.op q.d1 1 && isEst o5.op T tm q.d4 q.d3 && isTmp xo q.d2 && o5.dst.isNone && zNil P e &&
 (decide (q.d1 < N) && decide (q.d2 < N) && decide (q.d3 < N) && decide (q.d4 < N) && decide (tm < N)) && (!Nat.beq q.d1 q.d2 && !Nat.beq q.d1 q.d3 && !Nat.beq q.d1 q.d4 && !Nat.beq q.d2 q.d3 && !Nat.beq q.d3 q.d4) &&
 q.y.inN N && q.ys.inN N && notT [q.d1,q.d2,q.d3,q.d4] (.tmp tm) && notT [q.d1,q.d2,q.d3,q.d4] q.y
def maOf (P:Program) (N:Nat) (o1 o2 o3 o4 o5:Oper):Option MA:=match o1.op,o1.dst,o2.dst,o3.dst,o4.dst,resolveOp P o3 with
 | .mapEntry T (.tmp tm) y,some d1,some d2,some d3,some d4,some (.app k bytes xo ys)=>match mapD P T with
  | some (kd,e)=>if maChk P N T e tm ⟨kd,k,bytes,.tmp tm,y,ys,d1,d2,d3,d4⟩ xo o1 o2 o3 o4 o5=true then some ⟨kd,k,bytes,.tmp tm,y,ys,d1,d2,d3,d4⟩ else none
  | none=>none
 | _,_,_,_,_,_=>none
def last5:List Oper->Option (List Oper × Oper × Oper × Oper × Oper × Oper)
 | [o1,o2,o3,o4,o5]=>some ([],o1,o2,o3,o4,o5)
 | o :: l=>match last5 l with
  | some (l1,r)=>some (o :: l1,r)
  | none=>none
 | []=>none
def hasEst (ops:Array Oper):Bool:=ops.toList.any fun o=>match o.op with
 | .entryStore ..=>true
 | _=>false
end Go.Eng


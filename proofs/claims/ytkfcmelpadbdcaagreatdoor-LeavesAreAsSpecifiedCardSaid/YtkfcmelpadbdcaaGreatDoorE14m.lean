/- Texts of this claim. -/
import Derived.Test.YtkfcmelpadbdcaaGreatDoorE14d
import Derived.Maps.RangeRun
set_option linter.all false
set_option linter.unusedSimpArgs false
set_option linter.unusedVariables false
namespace Go.Eng
open Go.RowKit

section
variable {P:Program} {o:Oper}
def anxt (s:AState) (dst:Option Nat) (K:AState->Prop):AV->Prop
 | .itr h hi=>(s.lk hi).isSome=true/\∃ kd es cur rem,s.lk h=some (.mp kd es (some (hi,cur,rem)))/\(rem=[]->K (s.put dst (.tup [.D (.B false)]) [] [])) /\
  ∀ j key,rem[j]?=some key->K ((s.setBlk h (some (.mp kd es (some (hi,[key],rem.eraseIdx j))))).put dst (.tup [.D (.B true),.any,.any]) [] [])
 | _=>False
end
end Go.Eng


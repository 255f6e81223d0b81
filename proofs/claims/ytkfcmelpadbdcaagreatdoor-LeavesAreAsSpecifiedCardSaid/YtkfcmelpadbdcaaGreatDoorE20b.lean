/- Texts of this claim. -/
import Derived.Test.YtkfcmelpadbdcaaGreatDoorE20
import Derived.RangeFuncIn
set_option linter.all false
set_option linter.unusedSimpArgs false
set_option linter.unusedVariables false
namespace Go.Eng
open Go.RowKit

def shE (N:Nat) (top:Nat->AV) (g:AV) (low:Nat->AV):Nat->AV:=fun t=>if t < N then top t else if t=N then g else low (t - N - 1)
def AState.withEnv (s:AState) (env:Nat->AV):AState:={ s with env:=env }
section
variable {B:Nat} {fid:FuncId} {tmps:Array Value} {ps:Array Tmp} {as bd:Code} {ds:List Deferred} {E:Ent} {x0:AV}

end

theorem lk_withEnv (s:AState) (env:Nat->AV):(s.withEnv env).lk=s.lk:=by funext h;cases h <;> rfl

theorem AtS.turn {E E':Ent} {G:Gh} {m:HM} {s:AState} {a a':Act} {w w':World} (h:AtS E G m s a w) (env:Nat->AV) (h0:E'.w0=E.w0) (h1:E'.G0=E.G0) (h2:E'.m0=E.m0) (hs:Sim G m s.lk w') (hf:Fr (Own E.m0) (Own E.m0) E.G0 G E.w0 w')
  (he:∀ t,AV.Rep G m (env t) (E'.val a' t)) (hsz:a'.tmps.size=E'.N) (hd:Marks1 E'.dt (E'.w0.heap.size + E'.sk) E'.nd a'.defers w') (hj:E'.J (env E'.N) w'):AtS E' G m (s.withEnv env) a' w':=by
 refine ⟨by rw [lk_withEnv];exact hs,he,hsz,hd,hj,h.fresh,by rw [h0,h1,h2];exact hf,by rw [h2];exact h.base,by rw [h0,h2];exact h.own,trivial,h.nxOk⟩

theorem shE_rep {G:Gh} {m:HM} {N:Nat} {top low:Nat->AV} {g:AV} {v:Nat->Value} (h1:∀ t,t < N->AV.Rep G m (top t) (v t)) (h2:AV.Rep G m g (v N)) (h3:∀ t,AV.Rep G m (low t) (v (N + 1 + t))) (t:Nat):AV.Rep G m (shE N top g low t) (v t):=by
 unfold shE
 split
 ·exact h1 t ‹_›
 ·split
  ·rename_i e;subst e;exact h2
  ·rename_i ha hb
   have:=h3 (t - N - 1)
   rwa [show N + 1 + (t - N - 1)=t by omega] at this

def cvLow (f:Nat->Value):Nat->Value:=fun j=>if j=0 then undef else f (j - 1)
theorem val_low {E:Ent} {a:Act} {f:Nat->Value} (h:E.cv=cvLow f) (t:Nat):E.val a (E.N + 1 + t)=f t:=by
 rw [Ent.val_ge (by omega),h]
 unfold cvLow
 rw [if_neg (by omega),show E.N + 1 + t - E.N - 1=t by omega]
theorem rep_any {G:Gh} {m:HM} {v:Value}:AV.Rep G m .any v:=by unfold AV.Rep;trivial
end Go.Eng


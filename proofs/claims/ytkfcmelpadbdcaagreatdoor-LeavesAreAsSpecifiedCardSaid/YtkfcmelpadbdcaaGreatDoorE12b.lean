/- Texts of this claim. -/
import Derived.Test.YtkfcmelpadbdcaaGreatDoorE12
import Derived.RangeFuncRecord
import Derived.RangeFuncSeq
import Derived.TacticsIn
import Derived.OrdersIn
import Derived.Scope
set_option linter.all false
set_option linter.unusedSimpArgs false
set_option linter.unusedVariables false
namespace Go.Eng
open Go.RowKit

def FR (r:Option Nat):Fence:={ Fence.wide with round:=r }
theorem FR_fn (r:Option Nat) (f:FuncId):(FR r).fn f:=trivial
theorem FR_round (r:Option Nat):(FR r).round=r:=rfl
theorem callsFR {r:Option Nat} {n:Nat} {P:Program} {f:FuncId} {args:Array Value} {w:World} {R:Ending->World->Prop} (h:Calls P f args w R):CallsIn (FR r) n P f args w R :=
 (callsIn_wide (n:=n)).2 h
theorem callsFR' {r:Option Nat} {n:Nat} {P:Program} {f:FuncId} {args:Array Value} {w:World} {R:Ending->World->Prop} (h:CallsIn (FR r) n P f args w R):Calls P f args w R :=
 (callsIn_wide (n:=n)).1 h

theorem Does.noDefer {P:Program} {o:Oper} {ρ:Operand->Value} {w:World} {R:Value->World->Prop} (h:Does P o ρ w R):∀ c,o.op ≠ .defer c:=fun c ho=>by
 unfold Does at h
 simp only [execOp,ho,Sem.run_bind] at h
 cases hr:(resolve ρ c o.type).run P w with
 | ok d w'=>rw [hr] at h;simp [Result.andThen] at h
 | halt x w'=>rw [hr] at h;simp [Result.andThen] at h

theorem does_wpIn {r:Option Nat} {n:Nat} {P:Program} {o:Oper} {a:Act} {w:World} {R:Value->World->Prop} {next:Act->World->Prop} {Q:Exit->Act->World->Prop} (h:Does P o a.eval w R)
  (hn:∀ v w',R v w'->next (a.put o.dst v) w'):o.wpIn (FR r) n P a w next Q:=by
 have hnd:=h.noDefer
 unfold Does at h
 unfold Oper.wpIn
 refine ⟨fun f _=>FR_fn r f,?_⟩
 rw [Oper.semAt_eq _ _ _ hnd]
 split at h
 ·rename_i v w' e;rw [e];exact hn _ _ h
 ·rename_i w' e;rw [e];exact hn _ _ h
 ·rename_i f args w' e
  rw [e]
  refine ⟨fun hd=>by simp [FR,Fence.wide] at hd,callsFR (h.mono ?_)⟩
  rintro e w'' ⟨v,rfl,hr⟩
  exact hn _ _ hr
 ·exact h.elim

section
variable {F:Fence} {n:Nat} {P:Program} {Q:Exit->Act->World->Prop} {a:Act} {w:World}

theorem stepR_scope {b:Frame} {k:List Item} {cs:List Frame} {c:Code}:step P (lone (b.atR a (.code (.scope c) :: k)) cs w)=.next (lone (b.atR a (.code c :: .inScope c :: k)) cs w) :=
 step_lone_go (by simp [stepG,stepG.exec,Frame.atR])
theorem stepR_inScope {b:Frame} {k:List Item} {cs:List Frame} {c:Code}:step P (lone (b.atR a (.inScope c :: k)) cs w)=.next (lone (b.atR a k) cs w) :=
 step_lone_go (by simp [stepG,stepG.exec,Frame.atR])

theorem wpIn_scope_straight {c:Code} (h:c.wpIn F n P (Exit.noGoto Q) a w):(Code.scope c).wpIn F n P Q a w:=by
 intro b k cs hro hb hr
 obtain ⟨e,a₁,w₁,hq,harr⟩:=h b (.inScope c :: k) cs hro hb hr
 have h1:StepsIn (Machine.fenced P F) P (lone (b.atR a (.code (.scope c) :: k)) cs w) (lone (b.atR a (.code c :: .inScope c :: k)) cs w):=.one (fenced_calm hb hr rfl) stepR_scope
 cases e with
 | normal=>exact ⟨.normal,a₁,w₁,hq,(h1.trans harr).trans (.one (fenced_calm hb hr rfl) stepR_inScope)⟩
 | exit id =>
  refine ⟨.exit id,a₁,w₁,hq,fun k' hk=>h1.trans (harr.1 k' (by simp [exitTo,hk])),fun hr' hk=>?_⟩
  obtain ⟨k₁,g1,g2⟩:=harr.2 hr' (by simp [exitTo,hk])
  exact ⟨k₁,g1,h1.trans g2⟩
 | goto l=>exact hq.elim
 | ret=>exact ⟨_,a₁,w₁,hq,.of_steps h1 harr⟩
 | panic ch=>exact ⟨_,a₁,w₁,hq,.of_steps h1 harr⟩
 | outgrown=>exact ⟨_,a₁,w₁,hq,.of_steps h1 harr⟩
end
end Go.Eng


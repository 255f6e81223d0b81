/- Texts of this claim. -/
import Derived.Test.YtkfcmelpadbdcaaGreatDoorE20b
import Derived.DefersIn
set_option linter.all false
set_option linter.unusedSimpArgs false
set_option linter.unusedVariables false
namespace Go.Eng
open Go.RowKit

theorem AtS.epost {E:Ent} {G:Gh} {m:HM} {s s':AState} {a:Act} {w w':World} {v:Value} (h:AtS E G m s a w) (henv:∀ t,s'.env t=s.env t) (hnx:s.nx <= s'.nx) (hown:(∀ i,s.nx <= i->s.own i=none)->∀ i,s'.nx <= i->s'.own i=none) (hp:EPost G m s none s' w v w'):ASim E s' a w':=by
 obtain ⟨G',m',hS,_,hF,hle,hB,hO,hnew⟩:=hp
 have hk:KeepO w w':=hF.keep (fun b q=>h.sim.data q)
 refine ⟨G',m',hS,fun t=>?_,h.size,h.defers.keep hk,by rw [henv];exact E.Jkeep _ _ _ h.jok hk,fun i hi=>?_,h.frame.step hF (fun b hb q=>h.ownOld hb q) (fun b hb q=>h.ownOld hb q),fun i=>(h.base i).trans (hB i),fun x l b hi hl=>?_,h.noO,hown h.nxOk⟩
 ·rw [henv t];exact AV.Rep.mono hF.le hle _ _ (h.env t)
 ·exact (hO i (.inr hi)).none (h.fresh i (Nat.le_trans hnx hi))
 ·rcases hnew x l b hi hl with h1 | h1
  ·exact .inl (Nat.le_trans h.frame.size h1)
  ·rcases Nat.lt_or_ge b E.w0.heap.size with h2 | h2
   ·exact .inr (h.ownOld h2 h1)
   ·exact .inl h2

def dfrE (N:Nat) (xs:List AV) (env:Nat->AV):Nat->AV:=shE N env .any fun t=>xs.getD t .any
def dfrS (N:Nat) (xs:List AV) (s:AState):AState:=s.withEnv (dfrE N xs s.env)
def dfrV (N:Nat) (s:AState):Nat->List AV
 | 0=>[]
 | n + 1=>dfrV N s n ++ [s.env (N + 1 + n)]

def preRun (P:Program):List RCode->(AState->Prop)->(Exit->AState->Prop)->AState->Prop
 | [],K,_,s=>K s
 | rc :: rcs,K,Q,s=>acode P bodyY rc (exSeq (preRun P rcs K Q) Q) s
def resolveAll (P:Program) (fl:List Nat) (N:Nat):List Code->Option (List RCode)
 | []=>some []
 | c :: cs=>match resolveCode P fl N c,resolveAll P fl N cs with
  | some x,some y=>some (x :: y)
  | _,_=>none

theorem preRun_ok {P:Program} {fl:List Nat} {N:Nat} (hm:P.follows .mixedOrders=true) {E:Ent} (hE:E.N=N) {c:Code} {K:AState->Prop} {Q:Exit->AState->Prop} {R:Exit->Act->World->Prop}
  (hK:∀ s a w,K s->ASim E s a w->c.wpIn (FR none) 0 P R a w) (hQ:∀ e s a w,Q e s->ASim E s a w->R e a w):∀ {cs:List Code} {rcs:List RCode} {s:AState} {a:Act} {w:World},resolveAll P fl N cs=some rcs->preRun P rcs K Q s->ASim E s a w->(cs.foldr Code.seq c).wpIn (FR none) 0 P R a w
 | [],rcs,s,a,w,hr,h,hA=>by
  unfold resolveAll at hr;cases hr
  exact hK s a w h hA
 | d :: cs,rcs,s,a,w,hr,h,hA=>by
  unfold resolveAll at hr
  split at hr
  ·rename_i x y h1 h2
   cases hr
   subst hE
   refine wpIn_seq ?_
   refine wpIn_mono (resolveCode_ok hm h1 none bodyY E _ _ _ _ YOk.body rfl h hA) fun e a' w' ⟨s',hq,hA'⟩=>?_
   cases e with
   | normal=>exact preRun_ok hm rfl hK hQ h2 hq hA'
   | _=>exact hQ _ _ _ _ hq hA'
  ·cases hr

theorem aops_seqK {r:Option Nat} {P:Program} {ops:Array Oper} {E:Ent} {Q:Exit->Act->World->Prop} {tl:List Oper}:∀ {os:List Oper} {ros:List RO} {s:AState} {a:Act} {w:World} {K:AState->Prop},ResL P ops E.N os ros->aops P ros s K->ASim E s a w ->
  (∀ s' a' w',K s'->ASim E s' a' w'->wpListIn (FR r) 0 P ops Q tl a' w')->wpListIn (FR r) 0 P ops Q (os ++ tl) a w
 | [],[],s,a,w,K,_,h,hA,hQ=>hQ _ _ _ h hA
 | [],_ :: _,_,_,_,_,hr,_,_,_=>hr.elim
 | _ :: _,[],_,_,_,_,hr,_,_,_=>hr.elim
 | o :: os,ro :: ros,s,a,w,K,hr,h,hA,hQ =>
  aops_step (K:=fun s'=>aops P ros s' K) hr.1 h hA fun s' a' w' hK hA'=>aops_seqK hr.2 hK hA' hQ

theorem dfrV_rep {G:Gh} {m:HM} {N:Nat} {s:AState} {vs:List Value} (h:∀ i v,vs[i]?=some v->AV.Rep G m (s.env (N + 1 + i)) v):∀ k,k <= vs.length->AV.RepL G m (dfrV N s k) (vs.take k)
 | 0,_=>by simp [dfrV,AV.RepL]
 | k + 1,hk=>by
  have h1:vs[k]?=some vs[k]:=by simp
  rw [List.take_add_one,h1]
  unfold dfrV
  refine AV.RepL_append (dfrV_rep h k (by omega)) ?_
  unfold AV.RepL
  exact ⟨_,_,rfl,h k _ h1,by unfold AV.RepL;rfl⟩

def dlast (l:List Oper):Option (List Oper × Oper):=match l.reverse with
 | od :: r=>some (r.reverse,od)
 | []=>none
theorem dlast_spec {l os:List Oper} {od:Oper} (h:dlast l=some (os,od)):l=os ++ [od]:=by
 unfold dlast at h
 split at h
 ·rename_i x r e
  cases h
  have:=congrArg List.reverse e
  simpa using this
 ·cases h
def dfrOf (P:Program) (fl:List Nat) (N:Nat) (ops:Array Oper):Option (List RO × FuncId × List Operand) :=
 match dlast ops.toList with
 | some (os,od)=>match od.op with
  | .defer cl=>match cl.callee with
   | .value (.func g)=>if (od.guard.isNone && od.dst.isNone && cl.args.toList.all (Operand.inN N))=true then (resolveList P fl N ops os).map fun ros=>(ros,g,cl.args.toList) else none
   | _=>none
  | _=>none
 | none=>none
def dfrC (P:Program) (fl:List Nat) (N:Nat):Code->Option (List RO × FuncId × List Operand)
 | .region _ ops false=>dfrOf P fl N ops
 | _=>none
def resolveD (P:Program) (fl:List Nat) (N:Nat):Code->Option (List RCode × List RO × FuncId × List Operand × RCode)
 | .seq a b=>match dfrC P fl N a with
  | some (ros,g,xs)=>(resolveCode P fl N b).map fun rc=>([],ros,g,xs,rc)
  | none=>match resolveCode P fl N a,resolveD P fl N b with
   | some x,some (rcs,r)=>some (x :: rcs,r)
   | _,_=>none
 | _=>none
theorem dfrC_spec {P:Program} {fl:List Nat} {N:Nat} {c:Code} {ros:List RO} {g:FuncId} {xs:List Operand} (h:dfrC P fl N c=some (ros,g,xs)):∃ id ops os od cl,c=.region id ops false/\ops.toList=os ++ [od]/\od.op=.defer cl/\od.guard=none/\od.dst=none /\
  cl.callee=.value (.func g)/\cl.args.toList.all (Operand.inN N)=true/\resolveList P fl N ops os=some ros/\xs=cl.args.toList:=by
 unfold dfrC at h
 split at h
 case h_2=>cases h
 rename_i id ops
 unfold dfrOf at h
 split at h
 case h_2=>cases h
 rename_i os od hl
 split at h
 case h_2=>cases h
 rename_i cl hop
 split at h
 case h_2=>cases h
 rename_i g' hc
 rw [Option.ite_none_right_eq_some] at h
 obtain ⟨hb,h⟩:=h
 rw [Option.map_eq_some_iff] at h
 obtain ⟨ros',hr,e⟩:=h
 cases e
 simp only [Bool.and_eq_true,Option.isNone_iff_eq_none] at hb
 exact ⟨id,ops,os,od,cl,rfl,dlast_spec hl,hop,hb.1.1,hb.1.2,hc,hb.2,hr,rfl⟩
theorem resolveD_spec {P:Program} {fl:List Nat} {N:Nat}:∀ {c:Code} {rcs:List RCode} {ros:List RO} {g:FuncId} {xs:List Operand} {rc:RCode},resolveD P fl N c=some (rcs,ros,g,xs,rc) ->
  ∃ cs id ops os od cl rest,c=cs.foldr Code.seq (.seq (.region id ops false) rest)/\resolveAll P fl N cs=some rcs/\ops.toList=os ++ [od]/\od.op=.defer cl/\od.guard=none/\od.dst=none /\
  cl.callee=.value (.func g)/\cl.args.toList.all (Operand.inN N)=true/\resolveList P fl N ops os=some ros/\xs=cl.args.toList/\resolveCode P fl N rest=some rc
 | .seq a b,rcs,ros,g,xs,rc,h=>by
  unfold resolveD at h
  split at h
  ·rename_i ros' g' xs' hd
   rw [Option.map_eq_some_iff] at h
   obtain ⟨rc',hr,e⟩:=h
   cases e
   obtain ⟨id,ops,os,od,cl,rfl,h1,h2,h3,h4,h5,h6,h7,h8⟩:=dfrC_spec hd
   exact ⟨[],id,ops,os,od,cl,b,rfl,rfl,h1,h2,h3,h4,h5,h6,h7,h8,hr⟩
  ·split at h
   case h_2=>cases h
   rename_i x rcs' r' hx hD
   cases h
   obtain ⟨cs,id,ops,os,od,cl,rest,rfl,h0,hrest⟩:=resolveD_spec hD
   exact ⟨a :: cs,id,ops,os,od,cl,rest,rfl,by unfold resolveAll;rw [hx,h0],hrest⟩
 | .skip,_,_,_,_,_,h=>by unfold resolveD at h;cases h
 | .region ..,_,_,_,_,_,h=>by unfold resolveD at h;cases h
 | .cond ..,_,_,_,_,_,h=>by unfold resolveD at h;cases h
 | .block ..,_,_,_,_,_,h=>by unfold resolveD at h;cases h
 | .loop ..,_,_,_,_,_,h=>by unfold resolveD at h;cases h
 | .exit ..,_,_,_,_,_,h=>by unfold resolveD at h;cases h
 | .scope ..,_,_,_,_,_,h=>by unfold resolveD at h;cases h
 | .ret,_,_,_,_,_,h=>by unfold resolveD at h;cases h
 | .rangeFunc ..,_,_,_,_,_,h=>by unfold resolveD at h;cases h
 | .label ..,_,_,_,_,_,h=>by unfold resolveD at h;cases h
 | .goto ..,_,_,_,_,_,h=>by unfold resolveD at h;cases h
 | .refuse ..,_,_,_,_,_,h=>by unfold resolveD at h;cases h

end Go.Eng


/- Texts of this claim. -/
import Derived.Test.YtloponjgedpffaaGreatE15k
import Derived.Orders
set_option linter.all false
set_option linter.unusedSimpArgs false
set_option linter.unusedVariables false
namespace Go.Eng
open Go.RowKit

def cS (ops:Array Oper) (j:Nat):List Nat :=
 match ops[j]? with
 | some o=>(o.after.toList.filter (Region.binds .any)).map (·.on)
 | none=>[]
def aB3 (l:List Nat):List Nat->Nat
 | []=>0
 | i :: is=>(2 ^ i ||| l.getD i 0) ||| aB3 l is
def aPg (ops:Array Oper):Nat->List Nat
 | 0=>[]
 | n + 1=>let l:=aPg ops n;l ++ [aB3 l (cS ops n)]

theorem pR (ops:Array Oper):∀ n,(aPg ops n).length=n
 | 0=>rfl
 | n + 1=>by simp [aPg,pR ops n]

theorem zJ (ops:Array Oper):∀ n j,j < n->(aPg ops n).getD j 0=aB3 (aPg ops j) (cS ops j)
 | 0,j,h=>by omega
 | n + 1,j,h=>by
  simp only [aPg]
  by_cases e:j < n
  ·rw [List.getD_eq_getElem?_getD,List.getElem?_append_left (by rw [pR];exact e),<- List.getD_eq_getElem?_getD]
   exact zJ ops n j e
  ·have:j=n:=by omega
   subst this
   rw [List.getD_eq_getElem?_getD,List.getElem?_append_right (by rw [pR];omega),pR]
   simp

theorem aFm (l:List Nat):∀ (es:List Nat) (i:Nat),(aB3 l es).testBit i=true->∃ e ∈ es,i=e\/(l.getD e 0).testBit i=true
 | [],i,h=>by simp [aB3] at h
 | e :: es,i,h=>by
  simp only [aB3,Nat.testBit_or,Bool.or_eq_true] at h
  rcases h with (h | h) | h
  ·exact ⟨e,by simp,.inl (by rw [Nat.testBit_two_pow] at h;simpa using (of_decide_eq_true h).symm)⟩
  ·exact ⟨e,by simp,.inr h⟩
  ·obtain ⟨e',h1,h2⟩:=aFm l es i h
   exact ⟨e',by simp [h1],h2⟩

def anc (ops:Array Oper) (i j:Nat):Bool:=((aPg ops ops.size).getD j 0).testBit i

theorem zD {ops:Array Oper} (hlt:∀ j,j < ops.size->∀ e ∈ cS ops j,e < j) {i j:Nat} (hj:j < ops.size) (h:anc ops i j=true):∃ e ∈ cS ops j,i=e\/anc ops i e=true:=by
 unfold anc at h
 rw [zJ ops _ j hj] at h
 obtain ⟨e,he,h2⟩:=aFm _ _ _ h
 refine ⟨e,he,h2.imp id fun h2=>?_⟩
 have:=hlt j hj e he
 unfold anc
 rw [zJ ops _ e (by omega)]
 rwa [zJ ops _ e this] at h2

theorem bD8 {ops:Array Oper} (hlt:∀ j,j < ops.size->∀ e ∈ cS ops j,e < j):∀ (j i:Nat),j < ops.size->anc ops i j=true->i < j:=by
 intro j
 induction j using Nat.strongRecOn with
 | _ j ih =>
  intro i hj h
  obtain ⟨e,he,rfl | h2⟩:=zD hlt hj h
  ·exact hlt j hj _ he
  ·have:=hlt j hj e he
   exact Nat.lt_trans (ih e this i (by omega) h2) this

theorem xC {ops:Array Oper} (hlt:∀ j,j < ops.size->∀ e ∈ cS ops j,e < j) {L:Nat->Prop} (hc:∀ j,j < ops.size->L j->∀ e ∈ cS ops j,L e):∀ (j i:Nat),j < ops.size->anc ops i j=true->L j->L i:=by
 intro j
 induction j using Nat.strongRecOn with
 | _ j ih =>
  intro i hj h hL
  obtain ⟨e,he,rfl | h2⟩:=zD hlt hj h
  ·exact hc j hj hL _ he
  ·have:=hlt j hj e he
   exact ih e this i (by omega) h2 (hc j hj hL e he)

def aJe (l:List Operand):List Nat:=l.filterMap fun | .tmp t=>some t | _=>none
def RO.names (r:RO):List Nat:=r.dst.toList ++ aJe r.op.operands ++ (match r.guard with | some (t,_)=>[t] | none=>[])
def aJj (ops:Array Oper) (b:Bool) (ri rj:RO) (i j:Nat):Bool :=
  anc ops i j ||
  (!((match ri.dst with | some d=>rj.names.contains d | none=>false) || (match rj.dst with | some d=>ri.names.contains d | none=>false)) &&
   !((!b && ri.op.eff && rj.op.ht) || (rj.op.eff && ri.op.ht)))

def aMs:ROp->Bool
 | .newR _=>true
 | _=>false
def bDr (ops:Array Oper) (ros:List RO) (j:Nat):Bool :=
 aMs (ros.getD j default).op && (List.range j).any fun i=>(ros.getD i default).op.eff && !anc ops i j
def aJ4 (ops:Array Oper) (ros:List RO):Nat:=((List.range ops.size).find? (bDr ops ros)).getD ops.size
def aDp (ops:Array Oper) (ros:List RO) (e:Nat):Bool :=
 aMs (ros.getD e default).op && (ros.getD e default).guard.isNone &&
 (match (ros.getD e default).dst with
 | some t=>(List.range ops.size).all fun k=>k == e || !(ros.getD k default).names.contains t || (List.range e).all fun i=>!(ros.getD i default).op.eff || anc ops i k
 | none=>false) &&
 (List.range ops.size).all fun k=>decide (k <= e) || !(ros.getD k default).op.ht || (ros.getD k default).op.eff || (List.range k).any fun i=>decide (e < i) && (ros.getD i default).op.eff
def aEc (ops:Array Oper) (ros:List RO):Bool :=
 (List.range ops.size).all (fun j=>(cS ops j).all fun e=>decide (e < j)) &&
 (let e:=aJ4 ops ros
 (decide (ops.size <= e) || aDp ops ros e) &&
 (List.range ops.size).all fun j=>(List.range j).all fun i=>aJj ops (decide (j=e)) (ros.getD i default) (ros.getD j default) i j)

structure DrawOk (ops:Array Oper) (ro:Nat->RO) (e:Nat):Prop where
 lt:∀ j,j < ops.size->∀ e ∈ cS ops j,e < j
 wr:∀ i j,i < j->j < ops.size->∀ d,(ro i).dst=some d->d ∈ (ro j).names->anc ops i j=true
 rw:∀ i j,i < j->j < ops.size->∀ d,(ro j).dst=some d->d ∈ (ro i).names->anc ops i j=true
 eh:∀ i j,i < j->j < ops.size->j ≠ e->(ro i).op.eff=true->(ro j).op.ht=true->anc ops i j=true
 he:∀ i j,i < j->j < ops.size->(ro i).op.ht=true->(ro j).op.eff=true->anc ops i j=true
 nw:e < ops.size->∃ zs,(ro e).op=.newR zs
 gd:e < ops.size->(ro e).guard=none
 us:e < ops.size->∃ t,(ro e).dst=some t/\∀ k,k < ops.size->k ≠ e->t ∈ (ro k).names->∀ i,i < e->(ro i).op.eff=true->anc ops i k=true
 bt:e < ops.size->∀ k,e < k->k < ops.size->(ro k).op.ht=true->(ro k).op.eff=false->∃ i,e < i/\i < k/\(ro i).op.eff=true

theorem aD8 {op:ROp} (h:aMs op=true):∃ zs,op=.newR zs:=by
 cases op <;> first | exact ⟨_,rfl⟩ | cases h
theorem nR {ops:Array Oper} {ros:List RO} {e:Nat} (h:aDp ops ros e=true) :
  (∃ zs,(ros.getD e default).op=.newR zs)/\(ros.getD e default).guard=none /\
  (∃ t,(ros.getD e default).dst=some t/\∀ k,k < ops.size->k ≠ e->t ∈ (ros.getD k default).names->∀ i,i < e->(ros.getD i default).op.eff=true->anc ops i k=true) /\
  ∀ k,e < k->k < ops.size->(ros.getD k default).op.ht=true->(ros.getD k default).op.eff=false->∃ i,e < i/\i < k/\(ros.getD i default).op.eff=true:=by
 unfold aDp at h
 simp only [Bool.and_eq_true] at h
 obtain ⟨⟨⟨h1,h2⟩,h3⟩,h4⟩:=h
 refine ⟨aD8 h1,by simpa using h2,?_,fun k hk hn hht hne=>?_⟩
 ·split at h3
  ·rename_i t ht
   refine ⟨t,ht,fun k hk hke htk i hi he=>?_⟩
   have:=List.all_eq_true.1 h3 k (List.mem_range.2 hk)
   simp only [Bool.or_eq_true,Bool.not_eq_true',beq_iff_eq] at this
   rcases this with (g | g) | g
   ·exact absurd g hke
   ·rw [List.contains_eq_mem,decide_eq_false_iff_not] at g;exact absurd htk g
   ·have:=List.all_eq_true.1 g i (List.mem_range.2 hi)
    simp only [Bool.or_eq_true,Bool.not_eq_true'] at this
    rw [he] at this
    exact this.resolve_left (by simp)
  ·cases h3
 ·have:=List.all_eq_true.1 h4 k (List.mem_range.2 hn)
  simp only [Bool.or_eq_true,Bool.not_eq_true',decide_eq_true_eq] at this
  rcases this with ((g | g) | g) | g
  ·omega
  ·rw [hht] at g;cases g
  ·rw [hne] at g;cases g
  ·obtain ⟨i,hi,g⟩:=List.any_eq_true.1 g
   simp only [Bool.and_eq_true,decide_eq_true_eq] at g
   exact ⟨i,g.1,List.mem_range.1 hi,g.2⟩

theorem aCk {ops:Array Oper} {ros:List RO} (h:aEc ops ros=true):DrawOk ops (fun i=>ros.getD i default) (aJ4 ops ros):=by
 unfold aEc at h
 generalize aJ4 ops ros=e at h |-
 simp only [Bool.and_eq_true] at h
 obtain ⟨h1,h0,h2⟩:=h
 simp only [List.all_eq_true,List.mem_range,decide_eq_true_eq] at h1 h2
 have hlo:e < ops.size->aDp ops ros e=true:=fun hl=>by
  simp only [Bool.or_eq_true,decide_eq_true_eq] at h0
  exact h0.elim (fun g=>by omega) id
 have hp:∀ i j,i < j->j < ops.size->aJj ops (decide (j=e)) (ros.getD i default) (ros.getD j default) i j=true:=fun i j hi hj=>h2 j hj i hi
 have key:∀ (b:Bool) (ri rj:RO) (i j:Nat),aJj ops b ri rj i j=true ->
   (∀ d,ri.dst=some d->d ∈ rj.names->anc ops i j=true)/\(∀ d,rj.dst=some d->d ∈ ri.names->anc ops i j=true) /\
   (b=false->ri.op.eff=true->rj.op.ht=true->anc ops i j=true)/\(ri.op.ht=true->rj.op.eff=true->anc ops i j=true):=fun b ri rj i j h=>by
  unfold aJj at h
  refine ⟨fun d hd hm=>?_,fun d hd hm=>?_,fun hb he hh=>?_,fun hh he=>?_⟩
  ·rw [hd] at h;simpa [hm] using h
  ·rw [hd] at h;simpa [hm] using h
  ·simpa [hb,he,hh] using h
  ·simpa [he,hh] using h
 refine ⟨h1,fun i j hi hj=>(key _ _ _ i j (hp i j hi hj)).1,fun i j hi hj=>(key _ _ _ i j (hp i j hi hj)).2.1,fun i j hi hj hne=>(key _ _ _ i j (hp i j hi hj)).2.2.1 (by simpa using hne),fun i j hi hj=>(key _ _ _ i j (hp i j hi hj)).2.2.2,fun hl=>(nR (hlo hl)).1,fun hl=>(nR (hlo hl)).2.1,fun hl=>(nR (hlo hl)).2.2.1,fun hl=>(nR (hlo hl)).2.2.2⟩

def aD9 (r:RO) (env:Nat->AV):Prop:=match r.guard with
 | none=>True
 | some (t,want)=>env t=.D (.B want)
def uL (r:RO) (env:Nat->AV):Prop:=match r.guard with
 | none=>False
 | some (t,want)=>(∃ c,env t=.D (.B c)/\c ≠ want)\/∃ v,env t=.D (.C (.tuple v))

theorem aV4 {P:Program} {o:Oper} {zs:List AV} (h:aA P o=some (.newR zs)):∃ T i z,o.op=.alloc T/\P.info? T=some i/\i.zero=some z/\zs=z.cells.toList.map dV:=by
 cases ho:o.op
 case alloc T =>
  simp only [aA,ho,Option.bind_eq_some_iff,Option.map_eq_some_iff] at h
  obtain ⟨i,hi,z,hz,h⟩:=h
  split at h
  ·cases h;exact ⟨T,i,z,rfl,hi,hz,rfl⟩
  ·cases h
 case field=>exfalso;simp only [aA,ho,Option.bind_eq_some_iff] at h;obtain ⟨f,_,h⟩:=h;split at h <;> cases h
 all_goals (exfalso;simp only [aA,ho] at h;(repeat' split at h) <;> simp_all [Option.bind_eq_some_iff,Option.map_eq_some_iff,Option.ite_none_right_eq_some])
theorem aTe {b:Mk} {op0:ROp} {zs:List AV} (h:ROp.newR zs=eL b op0):op0=.newR zs:=by
 cases b <;> cases op0 <;> first | (cases h;done) | (cases h;rfl)
def bCd (G:Gh) (es:List (List DV)) (w:World) (v:Value) (w':World):Prop :=
 v=.pointer (some ⟨w.heap.size,0,none⟩)/\∃ vs T,w'=w.alloc (.cells vs T)/\∀ m',BlkRep G m' (.row true 1 es) w.heap.size vs.size w'
theorem aX5 {P:Program} {o:Oper} {zs:List AV} {ds:List DV} (hr:aA P o=some (.newR zs)) (hd:AV.data zs=some ds) (G:Gh) (m:HM) (lk:aH) (w:World) (ρ:Operand->Value) (hS:Sim G m lk w):Does P o ρ w (bCd G (ds.map fun d=>[d]) w):=by
 obtain ⟨T,i,z,ho,hi,hz,rfl⟩:=aV4 hr
 refine Does.val (v:=.pointer (some ⟨w.heap.size,0,none⟩)) (w':=w.alloc (.cells z.cells T)) ?_ ⟨rfl,_,_,rfl,fun m'=>aI2 hS T (AV.RepL_const _) hd m'⟩
 simp [execOp,ho,Instr.alloc,gL hi hz,newVar,newRow]

inductive RStep (P:Program) (o:Oper) (r:RO) (s s':AState):Prop
 | skip (h1:uL r s.env) (h2:s'=s.put r.dst .un [] [])
 | run (h1:aD9 r s.env) (he:r.op.eff=false) (x:AV) (nbs:List Blk) (fz:List Hd) (h2:s'=s.put r.dst x nbs fz) (h3:r.op.ht=false->nbs=[]/\fz=[]) (h5:∀ h ∈ fz,(s.lk h).isSome=true)
   (h4:∀ (G:Gh) (m:HM) (w:World) (ρ:Operand->Value) (_:∀ v,ρ (.const v)=v) (lk2:aH),Need r.op s.ev s.lk lk2->Sim G m lk2 w->(∀ x ∈ r.op.operands,AV.Rep G m (s.ev x) (ρ x)) ->
    (∀ j,j < nbs.length->m (.O (s.nx + j))=none)->Does P o ρ w (PPost G m lk2 s.nx x nbs fz w))
   (h6:aMs r.op=true->x=.eptr (.O s.nx) 1 0 0/\∃ es,nbs=[.row true 1 es]/\fz=[]/\∀ (G:Gh) (m:HM) (lk:aH) (w:World) (ρ:Operand->Value),Sim G m lk w->Does P o ρ w (bCd G es w))
 | eff (h1:aD9 r s.env) (he:r.op.eff=true) (h2:EOk P o r.op.operands r.dst s s')

theorem aCq {P:Program} {ops:Array Oper} {N:Nat} {o:Oper} {r:RO} (hr:ResO P ops N o r) {s:AState} {K:AState->Prop} (hg:aD9 r s.env) (h:nO P s r K):∃ s',K s'/\RStep P o r s s':=by
 cases he:r.op.eff with
 | true =>
  obtain ⟨s',hK,hE⟩:=aMn hr he h
  exact ⟨s',hK,.eff hg he hE⟩
 | false =>
  rw [aFs he] at h
  cases hn:aMs r.op with
  | false =>
   obtain ⟨x,nbs,fz,hK,h3,h5,hD⟩:=hr.ps he h
   exact ⟨_,hK,.run hg he x nbs fz rfl h3 h5 hD (fun e=>by rw [hn] at e;cases e)⟩
  | true =>
   obtain ⟨zs,hz⟩:=aD8 hn
   have hz':aA P o=some (.newR zs):=by
    obtain e0 | ⟨b,op0,g1,g2⟩:=hr.op
    ·rw [hz] at e0;cases e0
    rw [hz] at g2
    rw [g1,aTe g2]
   rw [hz] at h
   obtain ⟨ds,hd,hK⟩:=h
   have h':aN P s.lk s.nx s.ev r.op (fun a nbs fz=>K (s.put r.dst a nbs fz)/\a=.eptr (.O s.nx) 1 0 0/\nbs=[.row true 1 (ds.map fun d=>[d])]/\fz=[]):=by
    rw [hz];exact ⟨ds,hd,hK,rfl,rfl,rfl⟩
   obtain ⟨x,nbs,fz,⟨hK,e1,e2,e3⟩,h3,h5,hD⟩:=hr.ps he h'
   exact ⟨_,hK,.run hg he x nbs fz rfl h3 h5 hD (fun _=>⟨e1,_,e2,e3,aX5 hz' hd⟩)⟩

theorem aWw {P:Program} {ops:Array Oper} {N:Nat}:∀ {os:List Oper} {ros:List RO} {s:AState} {K:AState->Prop},rQ P ops N os ros->jI P ros s K ->
  ∃ st:Nat->AState,st 0=s/\ros.length=os.length/\K (st os.length)/\∀ (i:Nat) (o:Oper) (r:RO),os[i]?=some o->ros[i]?=some r->ResO P ops N o r/\RStep P o r (st i) (st (i + 1))
 | [],[],s,K,_,h=>⟨fun _=>s,rfl,rfl,h,fun i o r hi=>by simp at hi⟩
 | [],_ :: _,_,_,hr,_=>hr.elim
 | _ :: _,[],_,_,hr,_=>hr.elim
 | o :: os,r :: ros,s,K,hr,h=>by
  obtain ⟨h1,h2⟩:=hr
  have go:∀ s',jI P ros s' K->RStep P o r s s'->∃ st:Nat->AState,st 0=s/\(r :: ros).length=(o :: os).length/\K (st (o :: os).length) /\
    ∀ (i:Nat) (o':Oper) (r':RO),(o :: os)[i]?=some o'->(r :: ros)[i]?=some r'->ResO P ops N o' r'/\RStep P o' r' (st i) (st (i + 1)):=fun s' hs' hstep=>by
   obtain ⟨st,g1,g2,g3,g4⟩:=aWw h2 hs'
   refine ⟨fun i=>match i with | 0=>s | i + 1=>st i,rfl,by simp [g2],g3,fun i o' r' hi hi'=>?_⟩
   match i with
   | 0 =>
    simp at hi hi'
    subst hi;subst hi'
    refine ⟨h1,?_⟩
    show RStep P o r s (st 0)
    rw [g1];exact hstep
   | i + 1=>exact g4 i o' r' (by simpa using hi) (by simpa using hi')
  unfold jI at h
  split at h
  ·rename_i hg
   obtain ⟨s',hK,hst⟩:=aCq h1 (by unfold aD9;rw [hg];trivial) h
   exact go s' hK hst
  ·rename_i t want hg
   split at h
   ·rename_i c hc
    by_cases e:c=want
    ·obtain ⟨s',hK,hst⟩:=aCq h1 (by unfold aD9;rw [hg];simp only;rw [hc,e]) (h.1 e)
     exact go s' hK hst
    ·exact go _ (h.2 e) (.skip (by unfold uL;rw [hg];exact .inl ⟨c,hc,e⟩) rfl)
   ·rename_i v hc
    exact go _ h (.skip (by unfold uL;rw [hg];exact .inr ⟨v,hc⟩) rfl)
   ·exact h.elim

theorem aM2 {P:Program} {ops:Array Oper} {N:Nat} {o:Oper} {r:RO} {s:AState} {K:AState->Prop} (hr:ResO P ops N o r) (h:jI P [r] s K):∃ s',K s'/\RStep P o r s s':=by
 obtain ⟨st,g1,_,g3,g4⟩:=aWw (os:=[o]) (ros:=[r]) ⟨hr,trivial⟩ h
 obtain ⟨_,g5⟩:=g4 0 o r rfl rfl
 exact ⟨st 1,g3,g1 ▸ g5⟩

theorem aI6 {op:ROp} (h:op.eff=true):op.ht=true:=by cases op <;> first | rfl | (unfold ROp.eff at h;simp at h)
theorem aXa (s:AState) (dst:Option Nat) (a:AV) (h:Hd):(s.put dst a [] []).lk h=s.lk h:=by
 rw [cA]
 unfold lkN lkF
 cases h with
 | B i=>simp
 | O i =>
  have:¬ (s.nx <= i/\i < s.nx + ([]:List Blk).length):=by rw [List.length_nil];omega
  simp only [if_neg this]
  simp
theorem aUw {P:Program} {o:Oper} {r:RO} {s s':AState} (h:RStep P o r s s') (he:r.op.ht=false) (x:Hd):s'.lk x=s.lk x:=by
 cases h with
 | skip h1 h2=>subst h2;exact aXa _ _ _ _
 | run h1 he' y nbs fz h2 h3 =>
  subst h2
  obtain ⟨rfl,rfl⟩:=h3 he
  exact aXa _ _ _ _
 | eff h1 h2 h3=>rw [aI6 h2] at he;cases he
theorem aWx {P:Program} {ops:Array Oper} {N:Nat} {ld:Bool} {hs:List Hd} {lst:Bool}:∀ {os:List Oper} {ros:List RO} {s:AState} {K:AState->Prop},rQ P ops N os ros->aQ0 P ld hs lst ros s K ->
  ∃ st:Nat->AState,st 0=s/\ros.length=os.length/\K (st os.length)/\(∀ i,i < os.length->(lst=false\/i + 1 < os.length)->aHp ld hs (st i) (st (i + 1)))/\∀ (i:Nat) (o:Oper) (r:RO),os[i]?=some o->ros[i]?=some r->ResO P ops N o r/\RStep P o r (st i) (st (i + 1))/\aVk hs r.op (st i).ev
 | [],[],s,K,_,h=>⟨fun _=>s,rfl,rfl,h,fun i hi=>by simp at hi,fun i o r hi=>by simp at hi⟩
 | [],_ :: _,_,_,hr,_=>hr.elim
 | _ :: _,[],_,_,hr,_=>hr.elim
 | o :: os,r :: ros,s,K,hr,h=>by
  obtain ⟨h1,h2⟩:=hr
  obtain ⟨hl,h⟩:=h
  obtain ⟨s',⟨hk,hs'⟩,hstep⟩:=aM2 h1 h
  obtain ⟨st,g1,g2,g3,g5,g4⟩:=aWx h2 hs'
  refine ⟨fun i=>match i with | 0=>s | i + 1=>st i,rfl,by simp [g2],g3,fun i hi hj=>?_,fun i o' r' hi hi'=>?_⟩
  ·match i with
   | 0 =>
    show aHp ld hs s (st 0)
    rw [g1]
    cases he:r.op.ht with
    | true=>exact hk he (hj.imp id fun h6 e=>by subst e;rw [List.length_nil] at g2;rw [List.length_cons] at h6;omega)
    | false=>exact fun x _=>by rw [aUw hstep he];exact keepB.refl _ _
   | i + 1=>exact g5 i (by simpa using hi) (hj.imp id fun h=>by simpa using h)
  ·match i with
   | 0 =>
    simp at hi hi'
    subst hi;subst hi'
    refine ⟨h1,?_,hl⟩
    show RStep P o r s (st 0)
    rw [g1];exact hstep
   | i + 1=>exact g4 i o' r' (by simpa using hi) (by simpa using hi')

end Go.Eng


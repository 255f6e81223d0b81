/- Texts of this claim. -/
import Derived.Test.YtjcdfjldcinopaaGreatDoorEB
import Derived.Maps.RangeRun
import Derived.Scope
import Derived.Orders
import Derived.RangeFuncIn
import Derived.DefersIn
import Derived.RecoverIn
open Array renaming getD_eq_getD_getElem?->cd,getElem?_eq_some_iff->bb,getElem?_setIfInBounds_ne->gm,length_toList->en,replicate->ey,toList_append->du,toList_map->dx
open Bool renaming and_eq_true->ν,false_eq_true->ew,false_or->ji,not_eq_true'->cz,not_true->fv,or_eq_true->e9
open Classical renaming propDecidable->iw
open List renaming all_eq_true->c6,contains_eq_mem->jk,getD_eq_getElem?_getD->bc,getElem?_eq_getElem->μ,getElem?_eq_none->cx,getElem?_eq_some_iff->aq,getElem?_inj->jc,getElem?_map->ao,length_nil->ba,map_cons->ct,mem_cons->br,mem_filter->ξ,mem_map->cw,mem_of_getElem?->bu,mem_range->e8,mem_singleton->bk,nodup_cons->dw,range->c8
open Nat renaming beq->au,le_add_right->fy,le_refl->ω,le_trans->cj,lt_irrefl->iu,lt_of_le_of_ne->jy,lt_of_lt_of_le->dn,lt_or_ge->db,lt_or_gt_of_ne->jz,lt_trichotomy->fq,strongRecOn->gv
open Option renaming bind_eq_some_iff->ε,bind_some->jg,isNone_iff_eq_none->gj,isSome_iff_exists->da,ite_none_right_eq_some->δ,map_eq_some_iff->ζ
set_option linter.all false
namespace Go.Eng
open Go.RowKit
variable{P:Program}{o:Oper}{x y f:Operand}{N k id i j t bytes sz off n e:Nat}{ops:Array Oper}{s s' s0:AState}{E:Ent}{w w':World}{b:Mk}{op0 op:ROp}{G:Gh}{m:HM}{a a':Act}{ro:RO}{c:Code}{ros:List RO}{kd:KD}{Q:Exit->Act->World->Prop}{fn:Func}{K:AState->Prop}{r ag rd:Option Nat}{bs bs':List (Option Blk)}{fl σ slots:List Nat}{args zs:List AV}{st:Nat->AState}{nbs:List Blk}{lk:aV}{next:Act->World->Prop}{z:AV}{ok str:Bool}{lo hi mx:Option Operand}{pv:Value}{L:Nat->Prop}{listed:Array Bool}{g:Nat->Nat}{R:Ending->World->Prop}{tmps vs:Array Value}{ev:Operand->AV}{os:List Oper}{xs:List Operand}{u:FrameMode}
section
variable{P:Program}{o:Oper}
def bGu(s:AState)(dst:Option Nat)(K:AState->Prop):AV->Prop
 |.itr h hi=>(s.lk hi).isSome=true/\∃kd es cur rem,s.lk h=some (.mp kd es (some (hi,cur,rem)))/\(rem=[]->K (s.put dst (.tup [.D (.B false)]) [] []))/\
  ∀j key,rem[j]?=some key->K ((s.setBlk h (some (.mp kd es (some (hi,[key],rem.eraseIdx j))))).put dst (.tup [.D (.B true),.any,.any]) [] [])
 |_=>False
end
structure ResO (P:Program) (ops:Array Oper) (N:Nat) (o:Oper) (ro:RO):Prop where
 op:ro.op=.stop\/∃b op0,aA P o=some op0/\ro.op=dW b op0
 dst:ro.dst=o.dst
 lt:∀d,o.dst=some d->d<N
 xs:∀x∈ro.op.operands,x.inN N=true
 guard:match o.guard with
  |none=>ro.guard=none
  |some (j,want)=>∃t,(ops[j]?).bind (·.dst)=some t/\t<N/\ro.guard=some (t,want)
def bEf:Nat:=3000000
def bFu:Nat:=4000000
def bE2:Nat:=5000000
def aI9(fl:List Nat)(o:Oper):Mk:=
 match o.op with
 |.call c=>match c.callee with
  |.value (.func f)=>if fl.contains (bFu+f)=true then .d else if fl.contains (bE2+f)=true then .e else match o.dst with|some d=>if fl.contains d=true then .e else .n|none=>.n
  |_=>match o.dst with|some d=>if fl.contains d=true then .e else .n|none=>.n
 |_=>match o.dst with|some d=>if fl.contains d=true then .e else if fl.contains (bEf+d)=true then .d else .n|none=>.n
def aA5(P:Program)(fl:List Nat)(N:Nat)(ops:Array Oper)(o:Oper):Option RO:=
 match((aA P o).map (dW (aI9 fl o))).getD .stop with
 |op=>
  if((match o.dst with|some d=>decide (d<N)|none=>true)&&op.operands.all (Operand.inN N))=true then
   match o.guard with
   |none=>some ⟨o.dst,op,none⟩
   |some (j,want)=>match(ops[j]?).bind (·.dst)with
    |some t=>if t<N then some ⟨o.dst,op,some (t,want)⟩else none
    |none=>none
  else none
theorem aDc(h:aA5 P fl N ops o=some ro):ResO P ops N o ro:=by
 unfold aA5 at h;have hop:((aA P o).map (dW (aI9 fl o))).getD .stop=.stop\/∃b op0,aA P o=some op0/\((aA P o).map (dW (aI9 fl o))).getD .stop=dW b op0:=by
  cases hr:aA P o with
  |none=>exact .inl rfl
  |some op0=>exact .inr ⟨_,op0,rfl,rfl⟩
 generalize((aA P o).map (dW (aI9 fl o))).getD .stop=op at h hop;simp only at h;rw[δ]at h;obtain⟨hd,h⟩:=h;rw[ν]at hd;obtain⟨hd,hxs⟩:=hd;rw[c6]at hxs;have hlt:∀d,o.dst=some d->d<N:=fun d e=>by rw[e]at hd;simpa using hd
 split at h
 ·rename_i hg;cases h;exact⟨hop,rfl,hlt,hxs,by rw[hg]⟩
 ·rename_i j want hg;split at h
  ·rename_i t ht;rw[δ]at h;obtain⟨htN,h⟩:=h;cases h;exact⟨hop,rfl,hlt,hxs,by rw[hg];exact⟨t,ht,htN,rfl⟩⟩
  ·cases h
def ROp.mkd:ROp->Bool
 |.loadS _ _=>true
 |.faddrS _ _=>true
 |.nilcS _=>true
 |.lenS _ _=>true
 |.bsF _ _=>true
 |.stop=>true
 |.loadD _ _=>true
 |.iaddrD _ _ _=>true
 |.sllD _ _ _ _ _=>true
 |.callP _ _=>true
 |.mkmW _=>true
 |_=>false
theorem ResO.pure(hr:ResO P ops N o ro)(he:ro.op.eff=false)(hne:ro.op.mkd=false):aA P o=some ro.op:=by
 obtain⟨b,op0,h1,h2⟩:=hr.op.resolve_left (fun e=>by rw[e]at hne;cases hne);have:ro.op=op0:=by
  rw[h2]at he hne|-;cases b with
  |n=>rfl
  |e=>cases op0<;>first|rfl|(cases he;done)|(cases hne;done)
  |d=>cases op0<;>first|rfl|(cases he;done)|(cases hne;done)
 rw[this];exact h1
theorem aD8(he:ro.op.eff=false):lV P s ro K=aO P s.lk s.nx s.ev ro.op fun a nbs fz=>K (s.put ro.dst a nbs fz):=by
 unfold lV;split
 ·rename_i h;rw[h]at he;cases he
 ·rename_i h;rw[h]at he;cases he
 ·rename_i h;rw[h]at he;cases he
 ·rename_i h;rw[h]at he;cases he
 ·rename_i h;rw[h]at he;cases he
 ·rename_i h;rw[h]at he;cases he
 ·rename_i h;rw[h]at he;cases he
 ·rename_i h;rw[h]at he;cases he
 ·rename_i h;rw[h]at he;cases he
 ·rename_i h;rw[h]at he;cases he
 ·rfl
theorem aYs(h:aA P o=some (.app k bytes x y)):∃c t u e d i,o.op=.call c/\c.callee=.builtin .append/\c.args.toList=[x,y]/\c.argTypes.toList=[t,u]/\
  P.underlying t=some (.slice e)/\P.underlying u=some d/\(d=.string\/∃e',d=.slice e')/\P.info? e=some i/\i.zero.any (fun z=>z.cells.size==i.size)=true/\0<i.bytes/\k=i.size/\bytes=i.bytes:=by
 cases ho:o.op
 case call c=>
  cases hc:c.callee
  case builtin b=>
   cases b
   case append=>
    simp only[aA,ho,hc]at h;split at h
    case h_2=>cases h
    rename_i x' y' t u ha ht;split at h
    case h_1=>
     simp only[ε,δ]at h;obtain⟨i,hi,z,hz,_,h⟩:=h;cases h
    case h_3=>cases h
    rename_i e d _ hd1 hd2;simp only[ε]at h;obtain⟨i,hi,h⟩:=h;rw[δ]at h;obtain⟨hcond,h⟩:=h;cases h;simp only[ν,decide_eq_true_eq]at hcond;obtain⟨⟨⟨h1,h2⟩,h3⟩,h4⟩:=hcond;refine⟨c,t,u,e,d,i,rfl,hc,ha,ht,hd1,hd2,?_,hi,h4,h3,rfl,rfl⟩;cases d
    case string=>exact .inl rfl
    case slice=>exact .inr ⟨_,rfl⟩
    all_goals(simp at h1)
   all_goals(exfalso;simp only[aA,ho,hc]at h;(repeat' split at h)<;>simp_all[ε,ζ,δ])
  all_goals(exfalso;simp only[aA,ho,hc]at h;cases h)
 case field=>exfalso;simp only[aA,ho,ε]at h;obtain⟨f,_,h⟩:=h;split at h<;>cases h
 all_goals(exfalso;simp only[aA,ho]at h;(repeat' split at h)<;>simp_all[ε,ζ,δ])
theorem aSl(h:aA P o=some (.store sz x y)):∃T i,o.op=.store T x y/\o.dst=none/\P.info? T=some i/\sz=i.size:=by
 cases ho:o.op
 case store T x' y'=>
  simp only[aA,ho,δ,ζ]at h;obtain⟨hdst,i,hi,he⟩:=h;cases he;exact⟨T,i,rfl,by simpa using hdst,hi,rfl⟩
 case field=>exfalso;simp only[aA,ho,ε]at h;obtain⟨f,_,h⟩:=h;split at h<;>cases h
 all_goals(exfalso;simp only[aA,ho]at h;(repeat' split at h)<;>simp_all[ε,ζ,δ])
theorem aPb(h:ROp.store sz x y=dW b op0):op0=.store sz x y:=by cases b<;>cases op0<;>first|(cases h;done)|(cases h;rfl)
theorem aTz(h:ROp.appE k bytes x y=dW b op0):op0=.app k bytes x y\/op0=.appE k bytes x y:=by cases b<;>cases op0<;>first|(cases h;done)|(cases h;exact .inl rfl)|(cases h;exact .inr rfl)
theorem aXp(h:aA P o=some (.appE k bytes x y)):False:=by
 cases ho:o.op
 case field=>simp only[aA,ho,ε]at h;obtain⟨f,_,h⟩:=h;split at h<;>cases h
 all_goals(simp only[aA,ho]at h;(repeat' split at h)<;>simp_all[ε,ζ,δ])
theorem aH0{args:List Operand}(h:ROp.callE f args=dW b op0):op0=.call f args\/op0=.callE f args:=by cases b<;>cases op0<;>first|(cases h;done)|(cases h;exact .inl rfl)|(cases h;exact .inr rfl)
theorem aK7{args:List Operand}(h:aA P o=some (.callE f args)):False:=by
 cases ho:o.op
 case field=>simp only[aA,ho,ε]at h;obtain⟨f,_,h⟩:=h;split at h<;>cases h
 all_goals(simp only[aA,ho]at h;(repeat' split at h)<;>simp_all[ε,ζ,δ])
theorem sD{args:List Operand}(h:aA P o=some (.call f args)):∃c,o.op=.call c/\c.callee=.value f/\c.args.toList=args:=by
 cases ho:o.op
 case call c=>
  simp only[aA,ho]at h;split at h
  ·rename_i g hg;cases h;exact⟨c,rfl,hg,rfl⟩
  all_goals(exfalso;(repeat' split at h)<;>simp_all[ε,ζ,δ])
 case field=>exfalso;simp only[aA,ho,ε]at h;obtain⟨f,_,h⟩:=h;split at h<;>cases h
 all_goals(exfalso;simp only[aA,ho]at h;(repeat' split at h)<;>simp_all[ε,ζ,δ])
theorem aWs{zs:List DV}(h:ROp.clr k zs x=dW b op0):op0=.clr k zs x:=by cases b<;>cases op0<;>first|(cases h;done)|(cases h;rfl)
theorem aTg(h:ROp.cpy k x y=dW b op0):op0=.cpy k x y:=by cases b<;>cases op0<;>first|(cases h;done)|(cases h;rfl)
theorem aX6{zs:List DV}(h:aA P o=some (.clr k zs x)):∃c t e i z,o.op=.call c/\c.callee=.builtin .clear/\c.args.toList=[x]/\c.argTypes.toList=[t]/\
  P.underlying t=some (.slice e)/\P.info? e=some i/\i.zero=some z/\z.cells.size=i.size/\(z.cells.toList.map eR).all DV.one=true/\k=i.size/\zs=z.cells.toList.map eR:=by
 cases ho:o.op
 case call c=>
  cases hc:c.callee
  case builtin b=>
   cases b
   case clear=>
    simp only[aA,ho,hc]at h;split at h
    case h_2=>cases h
    rename_i x' t ha ht;split at h
    case h_2=>cases h
    rename_i e hd1;simp only[ε,δ,ν,beq_iff_eq]at h;obtain⟨i,hi,z,hz,⟨h1,h2⟩,h⟩:=h;cases h;exact⟨c,t,e,i,z,rfl,hc,ha,ht,hd1,hi,hz,h1,h2,rfl,rfl⟩
   all_goals(exfalso;simp only[aA,ho,hc]at h;(repeat' split at h)<;>simp_all[ε,ζ,δ])
  all_goals(exfalso;simp only[aA,ho,hc]at h;cases h)
 case field=>exfalso;simp only[aA,ho,ε]at h;obtain⟨f,_,h⟩:=h;split at h<;>cases h
 all_goals(exfalso;simp only[aA,ho]at h;(repeat' split at h)<;>simp_all[ε,ζ,δ])
theorem aZn(h:aA P o=some (.cpy k x y)):∃c t u e i,o.op=.call c/\c.callee=.builtin .copy/\c.args.toList=[x,y]/\c.argTypes.toList=[t,u]/\
  P.underlying t=some (.slice e)/\P.info? e=some i/\k=i.size:=by
 cases ho:o.op
 case call c=>
  cases hc:c.callee
  case builtin b=>
   cases b
   case copy=>
    simp only[aA,ho,hc]at h;split at h
    case h_2=>cases h
    rename_i x' y' t u ha ht;split at h
    case h_2=>cases h
    rename_i e hd1;simp only[ζ]at h;obtain⟨i,hi,h⟩:=h;cases h;exact⟨c,t,u,e,i,rfl,hc,ha,ht,hd1,hi,rfl⟩
   all_goals(exfalso;simp only[aA,ho,hc]at h;(repeat' split at h)<;>simp_all[ε,ζ,δ])
  all_goals(exfalso;simp only[aA,ho,hc]at h;cases h)
 case field=>exfalso;simp only[aA,ho,ε]at h;obtain⟨f,_,h⟩:=h;split at h<;>cases h
 all_goals(exfalso;simp only[aA,ho]at h;(repeat' split at h)<;>simp_all[ε,ζ,δ])
theorem aOp(h:ROp.mtake kd z k ok x y=dW b op0):op0=.mget kd z k ok x y\/op0=.mtake kd z k ok x y:=by cases b<;>cases op0<;>first|(cases h;done)|(cases h;exact .inl rfl)|(cases h;exact .inr rfl)
theorem aSs{z:Operand}(h:ROp.mput kd x y z=dW b op0):op0=.mput kd x y z:=by cases b<;>cases op0<;>first|(cases h;done)|(cases h;rfl)
theorem aSg(h:ROp.mdel kd x y=dW b op0):op0=.mdel kd x y:=by cases b<;>cases op0<;>first|(cases h;done)|(cases h;rfl)
theorem aW0(h:ROp.rng kd x=dW b op0):op0=.rng kd x:=by cases b<;>cases op0<;>first|(cases h;done)|(cases h;rfl)
theorem aS5(h:ROp.entT x=dW b op0):op0=.ent x\/op0=.entT x:=by cases b<;>cases op0<;>first|(cases h;done)|(cases h;exact .inl rfl)|(cases h;exact .inr rfl)
theorem aYk(h:aA P o=some (.entT x)):False:=by
 cases ho:o.op
 case field=>simp only[aA,ho,ε]at h;obtain⟨f,_,h⟩:=h;split at h<;>cases h
 all_goals(simp only[aA,ho]at h;(repeat' split at h)<;>simp_all[ε,ζ,δ])
theorem aRu(h:ROp.mkmW kd=dW b op0):op0=.mkm kd\/op0=.mkmW kd:=by cases b<;>cases op0<;>first|(cases h;done)|(cases h;exact .inl rfl)|(cases h;exact .inr rfl)
theorem aXh(h:aA P o=some (.mkmW kd)):False:=by
 cases ho:o.op
 case field=>simp only[aA,ho,ε]at h;obtain⟨f,_,h⟩:=h;split at h<;>cases h
 all_goals(simp only[aA,ho]at h;(repeat' split at h)<;>simp_all[ε,ζ,δ])
theorem aUf(h:aA P o=some (.mtake kd z k ok x y)):False:=by
 cases ho:o.op
 case field=>simp only[aA,ho,ε]at h;obtain⟨f,_,h⟩:=h;split at h<;>cases h
 all_goals(simp only[aA,ho]at h;(repeat' split at h)<;>simp_all[ε,ζ,δ])
theorem aWa(h:aA P o=some (.mget kd z k ok x y)):∃T k0 e i z0,o.op=.lookup T x y ok/\P.underlying T=some (.map k0 e)/\aVh P k0 kd/\P.info? e=some i/\i.zero=some z0/\z=aKt z0:=by
 cases ho:o.op
 case lookup T x' y' ok'=>
  simp only[aA,ho,ε,ζ]at h;obtain⟨⟨kd',e⟩,hT,i,hi,z0,hz,h⟩:=h;cases h;obtain⟨k0,h1,h2⟩:=mN hT;exact⟨T,k0,e,i,z0,rfl,h1,h2,hi,hz,rfl⟩
 case field=>exfalso;simp only[aA,ho,ε]at h;obtain⟨f,_,h⟩:=h;split at h<;>cases h
 all_goals(exfalso;simp only[aA,ho]at h;(repeat' split at h)<;>simp_all[ε,ζ,δ])
theorem aVz{z:Operand}(h:aA P o=some (.mput kd x y z)):∃T k0 e,(o.op=.mapUpdate T x y z\/o.op=.insert T x y z)/\o.dst=none/\P.underlying T=some (.map k0 e)/\aVh P k0 kd:=by
 cases ho:o.op
 case mapUpdate T x' y' z'=>
  simp only[aA,ho,δ,ζ]at h;obtain⟨hd,⟨kd',e⟩,hT,h⟩:=h;cases h;obtain⟨k0,h1,h2⟩:=mN hT;exact⟨T,k0,e,.inl rfl,by simpa using hd,h1,h2⟩
 case insert T x' y' z'=>
  simp only[aA,ho,δ,ζ]at h;obtain⟨hd,⟨kd',e⟩,hT,h⟩:=h;cases h;obtain⟨k0,h1,h2⟩:=mN hT;exact⟨T,k0,e,.inr rfl,by simpa using hd,h1,h2⟩
 case field=>exfalso;simp only[aA,ho,ε]at h;obtain⟨f,_,h⟩:=h;split at h<;>cases h
 all_goals(exfalso;simp only[aA,ho]at h;(repeat' split at h)<;>simp_all[ε,ζ,δ])
theorem aYt(h:aA P o=some (.rng kd x)):∃T k0 e,o.op=.range T x/\P.underlying T=some (.map k0 e):=by
 cases ho:o.op
 case range T x'=>
  simp only[aA,ho,ζ]at h;obtain⟨⟨kd',e⟩,hT,h⟩:=h;cases h;obtain⟨k0,h1,h2⟩:=mN hT;exact⟨T,k0,e,rfl,h1⟩
 case field=>exfalso;simp only[aA,ho,ε]at h;obtain⟨f,_,h⟩:=h;split at h<;>cases h
 all_goals(exfalso;simp only[aA,ho]at h;(repeat' split at h)<;>simp_all[ε,ζ,δ])
theorem aVw(h:aA P o=some (.mdel kd x y)):∃c T t2 k0 e,o.op=.call c/\c.callee=.builtin .delete/\c.args.toList=[x,y]/\c.argTypes.toList=[T,t2]/\o.dst=none/\P.underlying T=some (.map k0 e)/\aVh P k0 kd:=by
 cases ho:o.op
 case call c=>
  cases hc:c.callee
  case builtin b=>
   cases b
   case delete=>
    simp only[aA,ho,hc]at h;split at h
    case h_2=>cases h
    rename_i x' y' t t2 ha ht;simp only[δ,ζ]at h;obtain⟨hd,⟨kd',e⟩,hT,h⟩:=h;cases h;obtain⟨k0,h1,h2⟩:=mN hT;exact⟨c,t,t2,k0,e,rfl,hc,ha,ht,by simpa using hd,h1,h2⟩
   all_goals(exfalso;simp only[aA,ho,hc]at h;(repeat' split at h)<;>simp_all[ε,ζ,δ])
  all_goals(exfalso;simp only[aA,ho,hc]at h;cases h)
 case field=>exfalso;simp only[aA,ho,ε]at h;obtain⟨f,_,h⟩:=h;split at h<;>cases h
 all_goals(exfalso;simp only[aA,ho]at h;(repeat' split at h)<;>simp_all[ε,ζ,δ])
theorem aSz{T:TypeId}{a:Operand}{i:TypeInfo}(ho:o.op=.store T a x)(hi:P.info? T=some i)
  (h:lN (s.put none .un [] (fzL s.lk (AV.rows (s.ev x)))) i.size (AV.conv s.lk (fun _=>none) (s.ev x)) K (s.ev a)):∃s',K s'/\EOk P o [a,x] none s s':=by
 obtain⟨hdl,bl,hK,hb0,hsem⟩:=aBc ho hi h;have hlk:(s.put none .un [] (fzL s.lk (AV.rows (s.ev x)))).lk=lkF s.lk (fzL s.lk (AV.rows (s.ev x))):=by rw[hZ,eH]
 refine⟨_,hK,⟨fun t _=>by rw[dU];rfl,by rw[bK];exact ω _,fun hown j hj=>iU (fun i hi=>mD hown i hi) hb0 j (by rw[bK]at hj;exact hj),fun G m w ρ _ hS hev _=>?_⟩⟩;obtain⟨G1,k1,k2,k3⟩:=hS.freeze (fzL s.lk (AV.rows (s.ev x)));have ha:=hev a (by simp);have hx:=hev x (by simp);have hx1:AV.Rep G1 m (AV.conv s.lk (fun _=>none) (s.ev x)) (ρ x):=by
  refine AV.conv_rep k1 (fun h mt k es hl=>?_) (fun _ _ _ e _=>by cases e) _ _ (fun h hh mt k es _ hs hl=>?_) (AV.Rep.mono k2 (HM.le.refl m) _ _ hx)
  ·unfold lkF;split
   ·rw[hl];exact⟨_,rfl⟩
   ·exact⟨_,hl⟩
  ·unfold lkF at hl;rw[if_pos (uI hh hs)]at hl;cases hb:s.lk h with
   |none=>rw[hb]at hl;cases hl
   |some b0=>
    rw[hb]at hl;cases b0<;>first|(cases hl;rfl)|(cases hl;done)
 rw[<-hlk]at k1;obtain⟨w',hrun,hS',hF⟩:=hsem G1 m w ρ k1 (AV.Rep.mono k2 (HM.le.refl m) _ _ ha) hx1;unfold Does;rw[hrun];refine⟨G1,m,hS',(fun d hd'=>by cases hd'),⟨hF.os,hF.tape,hF.output,hF.size,hF.heap,fun b hb ho o=>?_,k2.trans hF.le⟩,HM.le.refl m,fun _=>.inl rfl,fun _ _=>.inl rfl,fun x l b hj hl=>.inr ⟨_,l,hj,hl⟩⟩;exact k3 b (fun h _ sz e=>ho (Own.at_ e)) o
theorem aMj(hr:ResO P ops N o ro)(he:ro.op.eff=true)(h:lV P s ro K):∃s',K s'/\EOk P o ro.op.operands ro.dst s s':=by
 obtain⟨b,op0,hop,hm⟩:=hr.op.resolve_left (fun e=>by rw[e]at he;cases he);unfold lV at h;split at h
 ·rename_i sz x y heq;rw[heq]at hm;rw[aPb hm]at hop;obtain⟨T,i,ho,hd,hi,rfl⟩:=aSl hop;rcases h with h|h
  rotate_left
  ·obtain⟨s',hK,hE⟩:=aSz ho hi h;exact⟨s',hK,by rw[heq,hr.dst,hd];exact hE⟩
  obtain⟨hdl,bl,hK,hb0,hsem⟩:=aBc ho hi h;refine⟨_,hK,⟨fun t _=>by rw[dU],by rw[bK];exact ω _,fun hown j hj=>iU hown hb0 j (by rw[bK]at hj;exact hj),fun G m w ρ _ hS hev _=>?_⟩⟩;rw[heq]at hev;obtain⟨w',hrun,hS',hF⟩:=hsem G m w ρ hS (hev _ (by simp[ROp.operands])) (hev _ (by simp[ROp.operands]));unfold Does;rw[hrun];exact⟨G,m,hS',(fun d hd'=>by rw[hr.dst,hd]at hd';cases hd'),hF.mono (fun _ _ q=>q) (fun _ _ q=>q.elim),HM.le.refl m,fun _=>.inl rfl,fun _ _=>.inl rfl,fun x l b hj hl=>.inr ⟨_,l,hj,hl⟩⟩
 ·rename_i k bytes x y heq;rw[heq]at hm;rcases aTz hm with e|e
  ·rw[e]at hop;obtain⟨c,t,u,e,d,i,ho,hc,ha,hta,ht,hu,hd,hi,hz,hbytes,rfl,rfl⟩:=aYs hop;obtain⟨s',hK,hE⟩:=aXd (o:=o) ho hc ha hta ht hu hd hi hz hbytes h;exact⟨s',hK,by rw[heq];exact hE⟩
  ·rw[e]at hop;exact(aXp hop).elim
 ·rename_i f args heq;rw[heq]at hm;rcases aH0 hm with e|e
  ·rw[e]at hop;obtain⟨c,ho,hc,rfl⟩:=sD hop;obtain⟨s',hK,hE⟩:=aUt (o:=o) ho hc h;exact⟨s',hK,by rw[heq];exact hE⟩
  ·rw[e]at hop;exact(aK7 hop).elim
 ·rename_i k zs x heq;rw[heq]at hm;rw[aWs hm]at hop;obtain⟨c,t,e,i,z,ho,hc,ha,hta,ht,hi,hz,hz',h1,rfl,rfl⟩:=aX6 hop;obtain⟨s',hK,hE⟩:=aUe (o:=o) ho hc ha hta ht hi hz hz' h1 h;exact⟨s',hK,by rw[heq];exact hE⟩
 ·rename_i k x y heq;rw[heq]at hm;rw[aTg hm]at hop;obtain⟨c,t,u,e,i,ho,hc,ha,hta,ht,hi,rfl⟩:=aZn hop;obtain⟨s',hK,hE⟩:=aYy (o:=o) ho hc ha hta ht hi h;exact⟨s',hK,by rw[heq];exact hE⟩
 ·rename_i kd z k ok x y heq;rw[heq]at hm;rcases aOp hm with e|e
  ·rw[e]at hop;obtain⟨T,k0,e',i,z0,ho,hT,hk0,hi,hz,rfl⟩:=aWa hop;exact h.elim
  ·rw[e]at hop;exact(aUf hop).elim
 ·rename_i kd x y z heq;rw[heq]at hm;rw[aSs hm]at hop;obtain⟨T,k0,e',ho,hd,hT,hk0⟩:=aVz hop;exact h.elim
 ·rename_i kd x y heq;rw[heq]at hm;rw[aSg hm]at hop;obtain⟨c,T,t2,k0,e',ho,hc,ha,hta,hd,hT,hk0⟩:=aVw hop;exact h.elim
 ·rename_i kd x heq;rw[heq]at hm;rw[aW0 hm]at hop;obtain⟨T,k0,e',ho,hT⟩:=aYt hop;exact h.elim
 ·rename_i x heq;rw[heq]at hm;rcases aS5 hm with e|e
  ·rw[e]at hop;exact h.elim
  ·rw[e]at hop;exact(aYk hop).elim
 ·rename_i h1 h2 h3 h4 h5 h6 h7 h8 h9 h10;cases hro:ro.op<;>rw[hro]at he h<;>first|(cases he;done)|exact(h1 _ _ _ hro).elim|exact(h2 _ _ _ _ hro).elim|exact(h3 _ _ hro).elim|exact(h4 _ _ _ hro).elim|exact(h5 _ _ _ hro).elim|exact(h6 _ _ _ _ _ _ hro).elim|exact(h7 _ _ _ _ hro).elim|exact(h8 _ _ _ hro).elim|exact(h9 _ _ hro).elim|exact(h10 _ hro).elim|exact h.elim
theorem aR7(h:ROp.loadS ag x=dW b op0):op0=.load ag x\/op0=.loadS ag x:=by cases b<;>cases op0<;>first|(cases h;done)|(cases h;exact .inl rfl)|(cases h;exact .inr rfl)
theorem aWc(h:aA P o=some (.loadS ag x)):False:=by
 cases ho:o.op
 case field=>simp only[aA,ho,ε]at h;obtain⟨f,_,h⟩:=h;split at h<;>cases h
 all_goals(simp only[aA,ho]at h;(repeat' split at h)<;>simp_all[ε,ζ,δ])
theorem aNf(h:aA P o=some (.load ag x)):∃T,o.op=.load T x:=by
 cases ho:o.op
 case load T y=>
  simp only[aA,ho]at h;split at h
  ·cases h;exact⟨T,rfl⟩
  ·cases h
 case field=>exfalso;simp only[aA,ho,ε]at h;obtain⟨f,_,h⟩:=h;split at h<;>cases h
 all_goals(exfalso;simp only[aA,ho]at h;(repeat' split at h)<;>simp_all[ε,ζ,δ])
theorem aOc(h:ROp.faddrS off x=dW b op0):op0=.faddr off x\/op0=.faddrS off x:=by cases b<;>cases op0<;>first|(cases h;done)|(cases h;exact .inl rfl)|(cases h;exact .inr rfl)
theorem aRq(h:aA P o=some (.faddrS off x)):False:=by
 cases ho:o.op
 case field=>simp only[aA,ho,ε]at h;obtain⟨f,_,h⟩:=h;split at h<;>cases h
 all_goals(simp only[aA,ho]at h;(repeat' split at h)<;>simp_all[ε,ζ,δ])
theorem aR1(h:aA P o=some (.faddr off x)):∃T k,o.op=.fieldAddr T x k:=by
 cases ho:o.op
 case fieldAddr T y k=>
  simp only[aA,ho,ε]at h;obtain⟨f,_,i,_,h⟩:=h;split at h
  ·cases h
  ·cases h;exact⟨T,k,rfl⟩
 case field=>exfalso;simp only[aA,ho,ε]at h;obtain⟨f,_,h⟩:=h;split at h<;>cases h
 all_goals(exfalso;simp only[aA,ho]at h;(repeat' split at h)<;>simp_all[ε,ζ,δ])
theorem aWz{ps:List Operand}(h:ROp.bsF k ps=dW b op0):op0=.bslice k ps\/op0=.bsF k ps:=by cases b<;>cases op0<;>first|(cases h;done)|(cases h;exact .inl rfl)|(cases h;exact .inr rfl)
theorem bCy{ps:List Operand}(h:aA P o=some (.bsF k ps)):False:=by
 cases ho:o.op
 case field=>simp only[aA,ho,ε]at h;obtain⟨f,_,h⟩:=h;split at h<;>cases h
 all_goals(simp only[aA,ho]at h;(repeat' split at h)<;>simp_all[ε,ζ,δ])
theorem aOh{ps:List Operand}(h:aA P o=some (.bslice k ps)):∃T n qs,o.op=.buildSlice T n qs:=by
 cases ho:o.op
 case buildSlice T n qs=>exact⟨T,n,qs,rfl⟩
 case field=>exfalso;simp only[aA,ho,ε]at h;obtain⟨f,_,h⟩:=h;split at h<;>cases h
 all_goals(exfalso;simp only[aA,ho]at h;(repeat' split at h)<;>simp_all[ε,ζ,δ])
theorem aR5(h:ROp.nilcS x=dW b op0):op0=.nilc x\/op0=.nilcS x:=by cases b<;>cases op0<;>first|(cases h;done)|(cases h;exact .inl rfl)|(cases h;exact .inr rfl)
theorem aVy(h:aA P o=some (.nilcS x)):False:=by
 cases ho:o.op
 case field=>simp only[aA,ho,ε]at h;obtain⟨f,_,h⟩:=h;split at h<;>cases h
 all_goals(simp only[aA,ho]at h;(repeat' split at h)<;>simp_all[ε,ζ,δ])
theorem aVr(h:ROp.lenS str x=dW b op0):op0=.len str x\/op0=.lenS str x:=by cases b<;>cases op0<;>first|(cases h;done)|(cases h;exact .inl rfl)|(cases h;exact .inr rfl)
theorem aYo(h:aA P o=some (.lenS str x)):False:=by
 cases ho:o.op
 case field=>simp only[aA,ho,ε]at h;obtain⟨f,_,h⟩:=h;split at h<;>cases h
 all_goals(simp only[aA,ho]at h;(repeat' split at h)<;>simp_all[ε,ζ,δ])
theorem aXn{K:AV->List Blk->List Hd->Prop}(ho:aA P o=some (.len str x))(h:aO P lk n ev (.lenS str x) K):PS P o (.lenS str x) lk n ev K:=by
 obtain⟨hs,hv,l,hl,h'⟩:=h;obtain⟨hdl,hhd⟩:=da.1 hs;have hp:aO P (fun y=>if y=hdl then lk y else none) n ev (.len str x) (fun a nbs fz=>nbs=[]/\fz=[]/\K a nbs fz):=by
  refine⟨?_,l,hl,rfl,rfl,h'⟩;generalize hx:ev x=v at hv hhd;cases v<;>first|(cases hhd;done)|skip
  case ptr hh o=>cases hhd;simpa[AV.live]using hv
  case eptr hh k2 ix o=>cases hhd;simpa[AV.live]using hv
  case sl hh k2 ix o=>cases hhd;simpa[AV.live]using hv
 obtain⟨a,nbs,fz,⟨rfl,rfl,hK⟩,_,_,hD⟩:=sE ho hp;refine⟨a,[],[],hK,fun _=>⟨rfl,rfl⟩,(by intro h hh;cases hh),fun G m w ρ hρ lk2 hls hS hev hn=>hD G m w ρ hρ lk2 (fun _=>?_) hS hev hn⟩;have he:lk2 hdl=lk hdl:=hls hdl hhd;intro y b hb;have hy:y=hdl:=by
  by_cases e:y=hdl
  ·exact e
  ·simp only[if_neg e]at hb;cases hb
 subst hy;simp only[if_true]at hb;exact⟨b,he.trans hb,.inl rfl⟩
theorem aW6(h:aA P o=some (.nilc x)):o.op=.nilCheck x:=by
 cases ho:o.op
 case nilCheck y=>simp only[aA,ho,Option.some.injEq]at h;cases h;rfl
 case field=>exfalso;simp only[aA,ho,ε]at h;obtain⟨f,_,h⟩:=h;split at h<;>cases h
 all_goals(exfalso;simp only[aA,ho]at h;(repeat' split at h)<;>simp_all[ε,ζ,δ])
theorem aPi(h:ROp.loadD ag x=dW b op0):op0=.load ag x\/op0=.loadD ag x:=by cases b<;>cases op0<;>first|(cases h;done)|(cases h;exact .inl rfl)|(cases h;exact .inr rfl)
theorem aVk(h:aA P o=some (.loadD ag x)):False:=by
 cases ho:o.op
 case field=>simp only[aA,ho,ε]at h;obtain⟨f,_,h⟩:=h;split at h<;>cases h
 all_goals(simp only[aA,ho]at h;(repeat' split at h)<;>simp_all[ε,ζ,δ])
theorem aSv(h:ROp.sllD k x lo hi mx=dW b op0):op0=.sll k x lo hi mx\/op0=.sllD k x lo hi mx:=by cases b<;>cases op0<;>first|(cases h;done)|(cases h;exact .inl rfl)|(cases h;exact .inr rfl)
theorem aXk(h:aA P o=some (.sllD k x lo hi mx)):False:=by
 cases ho:o.op
 case field=>simp only[aA,ho,ε]at h;obtain⟨f,_,h⟩:=h;split at h<;>cases h
 all_goals(simp only[aA,ho]at h;(repeat' split at h)<;>simp_all[ε,ζ,δ])
theorem aZf(h:aA P o=some (.sll k x lo hi mx)):∃T e,o.op=.slice T x lo hi mx/\P.underlying T=some (.slice e):=by
 cases ho:o.op
 case slice T y l u m=>
  simp only[aA,ho]at h;split at h
  ·split at h<;>cases h
  ·rename_i e hT;rw[ζ]at h;obtain⟨inf,_,h⟩:=h;cases h;exact⟨T,e,rfl,hT⟩
  ·rw[δ,ε]at h;obtain⟨_,inf,_,h⟩:=h;split at h<;>cases h
  ·cases h
 case field=>exfalso;simp only[aA,ho,ε]at h;obtain⟨f,_,h⟩:=h;split at h<;>cases h
 all_goals(exfalso;simp only[aA,ho]at h;(repeat' split at h)<;>simp_all[ε,ζ,δ])
theorem aL0{i:Operand}(h:ROp.iaddrD k x i=dW b op0):op0=.iaddr k x i\/op0=.iaddrD k x i:=by cases b<;>cases op0<;>first|(cases h;done)|(cases h;exact .inl rfl)|(cases h;exact .inr rfl)
theorem aR2{i:Operand}(h:aA P o=some (.iaddrD k x i)):False:=by
 cases ho:o.op
 case field=>simp only[aA,ho,ε]at h;obtain⟨f,_,h⟩:=h;split at h<;>cases h
 all_goals(simp only[aA,ho]at h;(repeat' split at h)<;>simp_all[ε,ζ,δ])
theorem aSx{i:Operand}(h:aA P o=some (.iaddr k x i)):∃T e,o.op=.indexAddr T x i/\P.underlying T=some (.slice e):=by
 cases ho:o.op
 case indexAddr T y j=>
  simp only[aA,ho]at h;split at h
  ·rename_i e hT;rw[ζ]at h;obtain⟨inf,_,h⟩:=h;cases h;exact⟨T,e,rfl,hT⟩
  ·rw[δ]at h;obtain⟨_,h⟩:=h;rw[ζ]at h;obtain⟨inf,_,h⟩:=h;cases h
  ·cases h
 case field=>exfalso;simp only[aA,ho,ε]at h;obtain⟨f,_,h⟩:=h;split at h<;>cases h
 all_goals(exfalso;simp only[aA,ho]at h;(repeat' split at h)<;>simp_all[ε,ζ,δ])
theorem ResO.ps{P:Program}{ops:Array Oper}{N:Nat}{o:Oper}{ro:RO}(hr:ResO P ops N o ro)(he:ro.op.eff=false){lk:aV}{n:Nat}{ev:Operand->AV}{K:AV->List Blk->List Hd->Prop}(h:aO P lk n ev ro.op K):PS P o ro.op lk n ev K:=by
 cases hm:ro.op.mkd
 ·exact sE (hr.pure he hm) h
 ·rcases hr.op with e|⟨b,op0,hop,hmk⟩
  ·rw[e]at h;exact h.elim
  generalize hq:ro.op=q at h hm hmk he|-;cases q<;>first|(cases hm;done)|skip
  case stop=>exact h.elim
  case loadS ag x=>
   rcases aR7 hmk with e|e
   ·rw[e]at hop;obtain⟨T,ho⟩:=aNf hop;exact aV5 ho hop h
   ·rw[e]at hop;exact(aWc hop).elim
  case bsF k ps=>
   rcases aWz hmk with e|e
   ·rw[e]at hop;obtain⟨T,n0,qs,ho⟩:=aOh hop;exact bBx ho hop h
   ·rw[e]at hop;exact(bCy hop).elim
  case nilcS x=>
   rcases aR5 hmk with e|e
   ·rw[e]at hop;exact aWo (aW6 hop) h
   ·rw[e]at hop;exact(aVy hop).elim
  case lenS str x=>
   rcases aVr hmk with e|e
   ·rw[e]at hop;exact aXn hop h
   ·rw[e]at hop;exact(aYo hop).elim
  case faddrS off x=>
   rcases aOc hmk with e|e
   ·rw[e]at hop;obtain⟨T,k,ho⟩:=aR1 hop;exact aSi ho hop h
   ·rw[e]at hop;exact(aRq hop).elim
  case loadD ag x=>
   rcases aPi hmk with e|e
   ·rw[e]at hop;obtain⟨T,ho⟩:=aNf hop;exact aVn ho hop h
   ·rw[e]at hop;exact(aVk hop).elim
  case iaddrD k x i=>
   rcases aL0 hmk with e|e
   ·rw[e]at hop;obtain⟨T,e',ho,hT⟩:=aSx hop;exact aR3 ho hT hop h
   ·rw[e]at hop;exact(aR2 hop).elim
  case sllD k x lo hi mx=>
   rcases aSv hmk with e|e
   ·rw[e]at hop;obtain⟨T,e',ho,hT⟩:=aZf hop;exact aZg ho hT hop h
   ·rw[e]at hop;exact(aXk hop).elim
  case callP f args=>exact h.elim
  case mkmW kd=>
   rcases aRu hmk with e|e
   ·rw[e]at hop;obtain⟨a,nbs,fz,q1,_,q3,q4⟩:=sE (lk:=lk) (n:=n) (ev:=ev) (K:=K) hop h;exact⟨a,nbs,fz,q1,(fun e=>by cases e),q3,fun G m w ρ hρ lk2 hls=>q4 G m w ρ hρ lk2 hls⟩
   ·rw[e]at hop;exact(aXh hop).elim
theorem aLi(hr:ResO P ops E.N o ro)(h:lV P s ro K)(hA:ASim E s a w):
  ∃s',K s'/\Does P o a.eval w fun v w'=>ASim E s' (a.put o.dst v) w':=by
 obtain⟨G,m,hA⟩:=hA;cases he:ro.op.eff with
 |true=>
  obtain⟨s',hK,hE⟩:=aMj hr he h;exact⟨s',hK,hr.dst▸hA.eff (fun d hd=>hr.lt d (by rw[<-hr.dst];exact hd)) hr.xs hE⟩
 |false=>
  rw[aD8 he]at h;obtain⟨x,nbs,fz,hK,_,_,hD⟩:=hr.ps he h;refine⟨_,hK,?_⟩;refine(hD G m w a.eval (fun _=>rfl) s.lk (Need.refl _ _ _) hA.sim (fun x hx=>hA.evs x (hr.xs x hx)) (fun j hj=>hA.fresh _ (by omega))).mono fun v w' hp=>?_;rw[hr.dst];exact hA.step hr.lt hp
def rY(P:Program)(ops:Array Oper)(N:Nat):List Oper->List RO->Prop
 |[],[]=>True
 |o::os,ro::ros=>ResO P ops N o ro/\rY P ops N os ros
 |_,_=>False
def aWw(r:Option Nat)(P:Program)(ops:Array Oper)(o:Oper)(next:Act->World->Prop)(Q:Exit->Act->World->Prop)(a:Act)(w:World):Prop:=
 if Region.wanted o (yielded ops a.tmps)then o.wpIn (FR r) 0 P a w next Q else(∀f,o.about P w a.eval=some f->(FR r).fn f)/\next (a.put o.dst undef) w
theorem tV(h1:ResO P ops E.N o ro)(h:iD P [ro] s K)(hA:ASim E s a w)
  (hQ:∀s' a' w',K s'->ASim E s' a' w'->next a' w'):aWw r P ops o next Q a w:=by
 unfold aWw;have run:(lV P s ro fun s'=>iD P [] s' K)->o.wpIn (FR r) 0 P a w next Q:=fun hs=>by obtain⟨s',hK,hD⟩:=aLi h1 hs hA;exact kS hD fun v w' hs'=>hQ _ _ _ hK hs'
 have skip:iD P [] (s.put ro.dst .un [] []) K->next (a.put o.dst undef) w:=fun hs=>by obtain⟨G,m,hA⟩:=hA;exact hQ _ _ _ hs (by rw[h1.dst];exact hA.skip h1.lt)
 unfold iD at h;have hg:=h1.guard;cases hog:o.guard with
 |none=>
  rw[hog]at hg;simp only at hg;rw[hg]at h;rw[if_pos (by simp[Region.wanted,hog])];exact run h
 |some g=>
  obtain⟨j,want⟩:=g;rw[hog]at hg;obtain⟨t,ht,htN,hg⟩:=hg;rw[hg]at h;simp only at h;obtain⟨G,m,hA'⟩:=hA;have hrep:=hA'.env t;rw[Ent.val_lt htN]at hrep;have hy:yielded ops a.tmps j=match a.tmps.getD t undef with|.bool b=>some b|_=>none:=by
   unfold yielded;rw[ht];simp only[jg,cd];cases a.tmps[t]?with
   |none=>rfl
   |some v=>cases v<;>rfl
  split at h
  ·rename_i c hc;rw[hc]at hrep;have hv:=zL hrep;rw[hv]at hy;have hw:Region.wanted o (yielded ops a.tmps)=(c==want):=by simp only[Region.wanted,hog,hy];cases c<;>cases want<;>rfl
   rw[hw];by_cases e:c=want
   ·rw[if_pos (by simpa using e)];exact run (h.1 e)
   ·rw[if_neg (by simpa using e)];exact⟨fun f _=>lF r f,skip (h.2 e)⟩
  ·rename_i v hc;rw[hc]at hrep;unfold AV.Rep DV.Rep at hrep;rw[hrep]at hy;have hw:Region.wanted o (yielded ops a.tmps)=false:=by simp only[Region.wanted,hog,hy];rfl
   rw[hw];exact⟨fun f _=>lF r f,skip h⟩
  ·exact h.elim
theorem aLh{r:Option Nat}{P:Program}{ops:Array Oper}{E:Ent}{Q:Exit->Act->World->Prop}:∀{os:List Oper} {ros:List RO} {s:AState} {a:Act} {w:World} {K:AState->Prop},rY P ops E.N os ros->iD P ros s K->ASim E s a w->
  (∀s' a' w',K s'->ASim E s' a' w'->Q .normal a' w')->wpListIn (FR r) 0 P ops Q os a w
 |[],[],s,a,w,K,_,h,hA,hQ=>hQ _ _ _ h hA
 |[],_::_,_,_,_,_,hr,_,_,_=>hr.elim
 |_::_,[],_,_,_,_,hr,_,_,_=>hr.elim
 |o::os,ro::ros,s,a,w,K,hr,h,hA,hQ=>
  tV (K:=fun s'=>iD P ros s' K) hr.1 h hA fun s' a' w' hK hA'=>aLh hr.2 hK hA' hQ
def isP:ROp->Bool
 |.callP _ _=>true
 |.pan _=>true
 |_=>false
def bCm(P:Program)(dr:Bool)(s:AState)(dst:Option Nat)(f:Operand)(args:List Operand)(K:AState->Prop)(Pn:Value->AState->Prop):Prop:=
 ∃fn caps,s.ev f=.clo fn caps/\
  ((∃r nbs,(dr=true->AV.flat r=true/\nbs=[])/\ACall P fn (AV.convL s.lk (fun _=>none) (args.map s.ev++caps)) [] r [] nbs/\
   K (s.put dst (AV.ren (aX [] s.nx) r) (nbs.map (Blk.ren (aX [] s.nx))) (if AV.flat r=true/\nbs=[]then[]else fzL s.lk (AV.rowsL (args.map s.ev++caps)))))\/
  ∃v,aNl P fn (AV.convL s.lk (fun _=>none) (args.map s.ev++caps)) v/\Pn v (s.put none .any [] []))
def mT(P:Program)(dr:Bool):List RO->AState->(AState->Prop)->(Value->AState->Prop)->Prop
 |[],s,K,_=>K s
 |ro::ros,s,K,Pn=>match ro.op with
  |.callP f args=>ro.guard=none/\bCm P dr s ro.dst f args (fun s'=>mT P dr ros s' K Pn) Pn
  |.pan x=>ro.guard=none/\∃t v,s.ev x=.D (.C (.iface t v))/\Pn (.iface t v) s
  |_=>iD P [ro] s fun s'=>mT P dr ros s' K Pn
def vP:List RO->AState->AState
 |[],s=>s
 |ro::ros,s=>vP ros (s.put ro.dst .any [] [])
def bGi(P:Program):List RO->AState->(AState->Prop)->Prop
 |[],_,_=>False
 |ro::ros,s,K=>ro.guard=none/\match ro.op with
  |.nxt x=>bGu s ro.dst (fun s'=>iD P ros s' K) (s.ev x)
  |_=>False
structure MA where
 kd:KD
 k:Nat
 bytes:Nat
 m:Operand
 y:Operand
 ys:Operand
 d1:Nat
 d2:Nat
 d3:Nat
 d4:Nat
 deriving Inhabited
def bE8:Value:=.slice none 0 0
def aWt(x:MA)(K:AState->Prop)(sB:AState):Prop:=
 (∃h k off len,sB.ev (.tmp x.d2)=.sl h k off len)/\nV sB x.k x.bytes x.ys (some x.d3) (fun s3=>aZ7 (s3.put (some x.d4) .any [] []) x.kd x.y (.tmp x.d3) K (s3.ev x.m)) (sB.ev (.tmp x.d2))
def bEl(x:MA)(s:AState)(K:AState->Prop):Prop:=∃h es it r,s.ev x.m=.mref h/\s.lk h=some (.mp x.kd es it)/\vI (s.ev x.y) es=some r/\
 match r with
 |some _=>bCj s x.kd (aKt bE8) x.k false x.y (some x.d2) (fun sB=>aWt x K (sB.put (some x.d1) .any [] [])) (.mref h)
 |none=>aZ7 s x.kd x.y (.const bE8) (fun sM=>aWt x K (((sM.put (some x.d2) (.fl []) [] []).own0 x.d2 x.k).put (some x.d1) .any [] [])) (.mref h)
inductive RCode where
 |skip
 |reg (draw:Bool) (ros:List RO)
 |regS (lst:Bool) (ros:List RO)
 |regY (ros:List RO)
 |regP (ros:List RO)
 |regN (ros:List RO)
 |regM (ros:List RO) (x:MA)
 |regDP (ros:List RO)
 |sem (N:Nat) (c:Code)
 |seq (a b:RCode)
 |cond (c:Operand) (a b:RCode)
 |block (id:Nat) (b:RCode)
 |loop (b:RCode)
 |exit (id:Nat)
 |scope (b:RCode)
 |wkr (b:RCode)
 |ret
 deriving Inhabited
variable{rc:RCode}{rcs:List RCode}
def Wk(s s':AState):Prop:=∀E a w,ASim E s a w->ASim E s' a w
theorem Wk.refl(s:AState):Wk s s:=fun _ _ _ h=>h
theorem Wk.trans{s'':AState}(h:Wk s s')(h':Wk s' s''):Wk s s'':=fun E a w q=>h' E a w (h E a w q)
def rV(next:AState->Prop)(Q:Exit->AState->Prop):Exit->AState->Prop
 |.normal,s=>next s
 |e,s=>Q e s
def aJ9(id:Nat)(Q:Exit->AState->Prop):Exit->AState->Prop
 |.exit i,s=>if i=id then Q .normal s else Q (.exit i) s
 |e,s=>Q e s
def aPo(Q:Exit->AState->Prop):Exit->AState->Prop
 |.goto _,_=>False
 |e,s=>Q e s
def aQl(Ka Kb:Prop):AV->Prop
 |.D (.B x)=>(x=true->Ka)/\(x=false->Kb)
 |.ab=>Ka/\Kb
 |_=>False
def aHh(ld:Bool)(hs:List Hd)(s s':AState):Prop:=∀h∈hs,keepB ld (s.lk h) (s'.lk h)
def aTb(ros:List RO):Bool:=ros.any fun r=>aXi r.op
def aUd(hs:List Hd)(op:ROp)(ev:Operand->AV):Prop:=
 match op.sArg with
 |some x=>∀h,(ev x).hd?=some h->h∈hs
 |none=>True
def aRk(P:Program)(ld:Bool)(hs:List Hd)(lst:Bool):List RO->AState->(AState->Prop)->Prop
 |[],s,K=>K s
 |ro::r,s,K=>aUd hs ro.op s.ev/\iD P [ro] s fun s'=>(ro.op.ht=true->lst=false\/r≠[]->aHh ld hs s s')/\aRk P ld hs lst r s' K
structure Yh where
 plain:Bool
 f:Nat->List AV->AState->(Bool->AState->Prop)->Prop
def noY:Yh:=⟨true,fun _ _ _ _=>False⟩
def iC:Yh:=⟨false,fun _ _ _ _=>False⟩
def YOk(P:Program)(r:Option Nat)(E:Ent)(Y:Yh):Prop:=(Y.plain=true->r=none/\E.nd=false/\E.dt=[])/\∀(l:Nat) (args:List AV) (s:AState) (K:Bool->AState->Prop) (a:Act) (w:World) (vs:List Value) (G:Gh) (m:HM),
 Y.f l args s K->AtS E G m s a w->AV.RepL G m args vs->YieldAt (FR r) 0 P l vs.toArray w fun e w'=>∃c s',e=.returned (.bool c)/\K c s'/\ASim E s' a w'
theorem YOk.none{P:Program}{E:Ent}(h:E.nd=false)(h':E.dt=[]):YOk P (Option.none:Option Nat) E noY:=⟨fun _=>⟨rfl,h,h'⟩,fun _ _ _ _ _ _ _ _ _ h=>False.elim h⟩
theorem YOk.body:YOk P r E iC:=⟨fun h=>(by cases h),fun _ _ _ _ _ _ _ _ _ h=>False.elim h⟩
def yst(s:AState)(ro:RO):Option (Nat×List AV):=
 match ro.op with
 |.callE f args=>match s.ev f with
  |.yld l=>some (l,args.map s.ev)
  |_=>none
 |_=>none
def mS(P:Program)(Y:Yh):List RO->AState->(AState->Prop)->Prop
 |[],s,K=>K s
 |ro::r,s,K=>
  match yst s ro with
  |none=>iD P [ro] s fun s'=>mS P Y r s' K
  |some (l,args)=>match ro.guard with
   |none=>Y.f l args s fun c s'=>mS P Y r (s'.put ro.dst (.D (.B c)) [] []) K
   |some (t,want)=>match s.env t with
    |.D (.B x)=>(x=want->Y.f l args s fun c s'=>mS P Y r (s'.put ro.dst (.D (.B c)) [] []) K)/\(¬x=want->mS P Y r (s.put ro.dst .un [] []) K)
    |.D (.C (.tuple _))=>mS P Y r (s.put ro.dst .un [] []) K
    |_=>False
def aQo(E:Ent)(Q:Exit->AState->Prop):Exit->Act->World->Prop:=fun e a w=>∃s,Q e s/\ASim E s a w
def bC9(A:(Exit->AState->Prop)->AState->Prop)(Q:Exit->AState->Prop):Nat->AState->Prop
 |0,_=>False
 |n+1,s=>A (rV (bC9 A Q n) Q) s
def dK(P:Program)(Y:Yh):RCode->(Exit->AState->Prop)->AState->Prop
 |.skip,Q,s=>Q .normal s
 |.reg _ ros,Q,s=>iD P ros s (Q .normal)
 |.regS lst ros,Q,s=>∃hs,aRk P (aTb ros) hs lst ros s (Q .normal)
 |.regY ros,Q,s=>mS P Y ros s (Q .normal)
 |.regN ros,Q,s=>bGi P ros s (Q .normal)
 |.regM ros x,Q,s=>iD P ros s fun s'=>bEl x s' (Q .normal)
 |.regP ros,Q,s=>mT P false ros s (Q .normal) fun v s'=>Q (.panic [{v:=v,recovered:=false}]) s'
 |.regDP ros,Q,s=>mT P true ros s (Q .normal) fun v s'=>Q (.panic [{v:=v,recovered:=false}]) (vP ros s')
 |.sem N c,Q,s=>Y.plain=true/\∀(E:Ent) (a:Act) (w:World),YOk P none E Y->E.N=N->ASim E s a w->c.wpIn (FR none) 0 P (aQo E Q) a w
 |.seq a b,Q,s=>dK P Y a (rV (dK P Y b Q) Q) s
 |.cond c a b,Q,s=>aQl (dK P Y a Q s) (dK P Y b Q s) (s.ev c)
 |.block id b,Q,s=>dK P Y b (aJ9 id Q) s
 |.loop b,Q,s=>(∃(I:Nat->AState->Prop) (n:Nat) (s0:AState),Wk s s0/\I n s0/\∀n s,I n s->dK P Y b (rV (fun s'=>∃n' s'',n'<n/\Wk s' s''/\I n' s'') Q) s)\/∃(n:Nat) (s0:AState),Wk s s0/\bC9 (dK P Y b) Q n s0
 |.exit id,Q,s=>Q (.exit id) s
 |.scope b,Q,s=>dK P Y b (aPo Q) s
 |.wkr b,Q,s=>∃s0,Wk s s0/\dK P Y b Q s0
 |.ret,Q,s=>Q .ret s
theorem aD5{F:Fence}{n0:Nat}(I:Nat->Act->World->Prop)(n:Nat)(h₀:I n a w)
  (round:∀n a w,I n a w->c.wpIn F n0 P (Exit.then (fun a' w'=>∃n',n'<n/\I n' a' w') Q) a w):(Code.loop c).wpIn F n0 P Q a w:=by
 intro b k cs hro hb hr;have key:∀n a w,I n a w->∃e a' w',Q e a' w'/\ArrivesIn (Machine.fenced P F) P (lone (b.atR a (.code c::.inLoop c::k)) cs w) b k cs e a' w':=by
  intro n
  induction n using gv with
  |_ n ih=>
   intro a w hI;obtain⟨e,a₁,w₁,hq,harr⟩:=round n a w hI b (.inLoop c::k) cs hro hb hr;cases e with
   |normal=>
    obtain⟨n',hlt,hI₁⟩:=hq;obtain⟨e₂,a₂,w₂,hq₂,harr₂⟩:=ih n' hlt a₁ w₁ hI₁;exact⟨e₂,a₂,w₂,hq₂,.of_steps (StepsIn.trans harr (.one (fenced_calm hb hr rfl) stepR_inLoop)) harr₂⟩
   |exit id=>exact⟨_,a₁,w₁,hq,.pass (x:=.inLoop c) rfl (fun _ _=>.inl (by simp)) harr⟩
   |goto l=>exact⟨_,a₁,w₁,hq,.pass (x:=.inLoop c) rfl (fun _ _=>.inl (by simp)) harr⟩
   |ret=>exact⟨_,a₁,w₁,hq,.pass (x:=.inLoop c) rfl (fun _ _=>.inl (by simp)) harr⟩
   |panic ch=>exact⟨_,a₁,w₁,hq,.pass (x:=.inLoop c) rfl (fun _ _=>.inl (by simp)) harr⟩
   |outgrown=>exact⟨_,a₁,w₁,hq,.pass (x:=.inLoop c) rfl (fun _ _=>.inl (by simp)) harr⟩
 obtain⟨e,a',w',hq,harr⟩:=key n a w h₀;exact⟨e,a',w',hq,.of_steps (.one (fenced_calm hb hr rfl) stepR_loop) harr⟩
def CodeOk(P:Program)(N:Nat)(c:Code)(rc:RCode):Prop:=
 ∀(r:Option Nat) (Y:Yh) (E:Ent) (Q:Exit->AState->Prop) (s:AState) (a:Act) (w:World),YOk P r E Y->E.N=N->dK P Y rc Q s->ASim E s a w->c.wpIn (FR r) 0 P (aQo E Q) a w
theorem CodeOk.skip{P:Program}{N:Nat}:CodeOk P N .skip .skip:=fun _ _ _ _ _ _ _ _ _ h hA=>wpIn_skip ⟨_,h,hA⟩
theorem CodeOk.label{P:Program}{N l:Nat}:CodeOk P N (.label l) .skip:=fun _ _ _ _ _ _ _ _ _ h hA=>wpIn_label ⟨_,h,hA⟩
theorem CodeOk.exit{P:Program}{N id:Nat}:CodeOk P N (.exit id) (.exit id):=fun _ _ _ _ _ _ _ _ _ h hA=>wpIn_exit ⟨_,h,hA⟩
theorem CodeOk.ret{P:Program}{N:Nat}:CodeOk P N .ret .ret:=fun _ _ _ _ _ _ _ _ _ h hA=>wpIn_ret ⟨_,h,hA⟩
theorem CodeOk.seq{P:Program}{N:Nat}{c d:Code}{rc rd:RCode}(hc:CodeOk P N c rc)(hd:CodeOk P N d rd):CodeOk P N (.seq c d) (.seq rc rd):=fun r Y E Q s a w hY hN h hA=>by
 refine wpIn_seq (wpIn_mono (hc r Y E _ s a w hY hN h hA) fun e a' w' ⟨s',hq,hA'⟩=>?_);cases e with
 |normal=>exact hd r Y E Q s' a' w' hY hN hq hA'
 |_=>exact⟨s',hq,hA'⟩
theorem CodeOk.cond{P:Program}{N:Nat}{x:Operand}(hxN:x.inN N=true){c d:Code}{rc rd:RCode}(hc:CodeOk P N c rc)(hd:CodeOk P N d rd):CodeOk P N (.cond x c d) (.cond x rc rd):=fun r Y E Q s a w hY hN h hA=>by
 obtain⟨G,m,hA'⟩:=hA;subst hN;have hr:=hA'.evs x hxN;have h':aQl (dK P Y rc Q s) (dK P Y rd Q s) (s.ev x):=h;generalize hx:s.ev x=ax at h' hr;unfold aQl at h';split at h'
 ·exact wpIn_cond_split (zL hr) (fun e=>hc r Y E Q s a w hY rfl (h'.1 e) ⟨G,m,hA'⟩) (fun e=>hd r Y E Q s a w hY rfl (h'.2 e) ⟨G,m,hA'⟩)
 ·unfold AV.Rep at hr;obtain⟨b,hb⟩:=hr;exact wpIn_cond_split hb (fun _=>hc r Y E Q s a w hY rfl h'.1 ⟨G,m,hA'⟩) (fun _=>hd r Y E Q s a w hY rfl h'.2 ⟨G,m,hA'⟩)
 ·exact h'.elim
theorem CodeOk.block{P:Program}{N id:Nat}{c:Code}{rc:RCode}(hc:CodeOk P N c rc):CodeOk P N (.block id c) (.block id rc):=fun r Y E Q s a w hY hN h hA=>by
 refine wpIn_block (wpIn_mono (hc r Y E _ s a w hY hN h hA) fun e a' w' ⟨s',hq,hA'⟩=>?_);cases e with
 |exit i=>
  simp only[aJ9]at hq;simp only[Exit.inBlock];split at hq
  ·rename_i e;rw[if_pos e];exact⟨s',hq,hA'⟩
  ·rename_i e;rw[if_neg e];exact⟨s',hq,hA'⟩
 |_=>exact⟨s',hq,hA'⟩
theorem CodeOk.scope{P:Program}{N:Nat}{c:Code}{rc:RCode}(hc:CodeOk P N c rc):CodeOk P N (.scope c) (.scope rc):=fun r Y E Q s a w hY hN h hA=>by
 refine uV (wpIn_mono (hc r Y E _ s a w hY hN h hA) fun e a' w' ⟨s',hq,hA'⟩=>?_);cases e with
 |goto l=>exact hq.elim
 |_=>exact⟨s',hq,hA'⟩
theorem CodeOk.loop{P:Program}{N:Nat}{c:Code}{rc:RCode}(hc:CodeOk P N c rc):CodeOk P N (.loop c) (.loop rc):=fun r Y E Q s a w hY hN h hA=>by
 rcases h with⟨I,n,s0,hw,hI,hround⟩|⟨n,s0,hw,hI⟩
 case inr=>
  refine aD5 (fun n a w=>∃s,bC9 (dK P Y rc) Q n s/\ASim E s a w) n ⟨s0,hI,hw E a w hA⟩ fun n a w ⟨s,hs,hA⟩=>?_;cases n with
  |zero=>exact hs.elim
  |succ n=>
   refine wpIn_mono (hc r Y E _ s a w hY hN hs hA) fun e a' w' ⟨s',hq,hA'⟩=>?_;cases e with
   |normal=>exact⟨n,Nat.lt_succ_self n,s',hq,hA'⟩
   |_=>exact⟨s',hq,hA'⟩
 refine aD5 (fun n a w=>∃s,I n s/\ASim E s a w) n ⟨s0,hI,hw E a w hA⟩ fun n a w ⟨s,hs,hA⟩=>?_;refine wpIn_mono (hc r Y E _ s a w hY hN (hround n s hs) hA) fun e a' w' ⟨s',hq,hA'⟩=>?_;cases e with
 |normal=>
  obtain⟨n',s'',h1,h2,h3⟩:=hq;exact⟨n',h1,s'',h3,h2 E a' w' hA'⟩
 |_=>exact⟨s',hq,hA'⟩
theorem CodeOk.region{P:Program}{N id:Nat}{ops:Array Oper}{ros:List RO}(h:rY P ops N ops.toList ros):CodeOk P N (.region id ops false) (.reg false ros):=fun r Y E Q s a w hY hN hc hA=>by subst hN;exact wpIn_region_list (aLh h hc hA fun s' a' w' hq hA'=>⟨s',hq,hA'⟩)
theorem aMu{E:Ent}{G:Gh}{m:HM}{s:AState}{a:Act}{w:World}(h:AtS E G m s a w):∀(xs:List Operand),(∀x∈xs,x.inN E.N=true)->AV.RepL G m (xs.map s.ev) (xs.map a.eval)
 |[],_=>by simp[AV.RepL]
 |x::xs,hx=>by rw[ct,ct];unfold AV.RepL;exact⟨_,_,rfl,h.evs x (hx x (by simp)),aMu h xs fun y hy=>hx y (by simp[hy])⟩
theorem aPj{Y:Yh}(hY:YOk P r E Y)(h1:ResO P ops E.N o ro){l:Nat}
  (hy:yst s ro=some (l,args)) {K:Bool->AState->Prop} (h:Y.f l args s K) (hA:ASim E s a w) (hQ:∀c s' a' w',K c s'->ASim E (s'.put ro.dst (.D (.B c)) [] []) a' w'->next a' w'):o.wpIn (FR r) 0 P a w next Q:=by
 obtain⟨G,m,hA⟩:=hA;unfold yst at hy;split at hy
 ·rename_i f xs hop;split at hy
  ·rename_i l' hl;cases hy;obtain⟨b,op0,hres,hm⟩:=h1.op.resolve_left (fun e=>by rw[hop]at e;cases e);rw[hop]at hm;have hxs:=h1.xs;rw[hop]at hxs;rcases aH0 hm with e|e
   ·rw[e]at hres;obtain⟨c,ho,hc,hca⟩:=sD hres;have hf:=hA.evs f (hxs f (by simp[ROp.operands]));rw[hl]at hf;unfold AV.Rep at hf;obtain⟨fn,tmps,assign,body,g1,g2⟩:=hY.2 l _ s K a w _ G m h hA (aMu hA xs fun x hx=>hxs x (by simp[ROp.operands,hx]));have hargs:c.args.map a.eval=(xs.map a.eval).toArray:=by apply Array.ext';simp[hca]
    have hrun:(o.semAt r a.eval).run P w=.ok (.round l fn tmps assign body) w:=by rw[Oper.semAt_eq _ _ _ (fun c' e'=>by rw[ho]at e';cases e')];simp only[execOp,ho,resolve,hc,hf,Deferred.ofValue,Sem.run_bind,Sem.run_pure,Result.andThen_ok,invoke,callFunc,hargs];simpa using g1
    unfold Oper.wpIn;refine⟨fun f _=>lF r f,?_⟩;show o.uponIn (FR r) 0 P a next Q ((o.semAt r a.eval).run P w)
    rw[hrun,Oper.uponIn_round];refine⟨fun hd=>by simp[FR,Fence.wide]at hd,g2.mono ?_⟩;rintro e w' ⟨c,s',rfl,hK,G',m',hA'⟩;refine hQ c s' _ w' hK ?_;rw[<-h1.dst];exact hA'.step (fun d hd=>h1.lt d (by rw[<-h1.dst];exact hd)) (PPost.val hA'.sim (by unfold AV.Rep DV.Rep;rfl))
   ·rw[e]at hres;exact(aK7 hres).elim
  ·cases hy
 ·cases hy
theorem tY{r:Option Nat}{P:Program}{Y:Yh}{ops:Array Oper}{E:Ent}(hY:YOk P r E Y){Q:Exit->Act->World->Prop}:∀{os:List Oper} {ros:List RO} {s:AState} {a:Act} {w:World} {K:AState->Prop},rY P ops E.N os ros->mS P Y ros s K->ASim E s a w->
  (∀s' a' w',K s'->ASim E s' a' w'->Q .normal a' w')->wpListIn (FR r) 0 P ops Q os a w
 |[],[],s,a,w,K,_,h,hA,hQ=>hQ _ _ _ h hA
 |[],_::_,_,_,_,_,hr,_,_,_=>hr.elim
 |_::_,[],_,_,_,_,hr,_,_,_=>hr.elim
 |o::os,ro::ros,s,a,w,K,hr,h,hA,hQ=>by
  obtain⟨h1,h2⟩:=hr;unfold mS at h;split at h
  ·exact tV h1 h hA fun s' a' w' hK hA'=>tY hY h2 hK hA' hQ
  ·rename_i l args hy;have hgo:=h1.guard;show wpListIn (FR r) 0 P ops Q (o::os) a w;unfold wpListIn;have run:Region.wanted o (yielded ops a.tmps)=true->(Y.f l args s fun c s'=>mS P Y ros (s'.put ro.dst (.D (.B c)) [] []) K)->(if Region.wanted o (yielded ops a.tmps)=true then o.wpIn (FR r) 0 P a w (wpListIn (FR r) 0 P ops Q os) Q else(∀f,o.about P w a.eval=some f->(FR r).fn f)/\wpListIn (FR r) 0 P ops Q os (a.put o.dst undef) w):=fun hw hf=>by rw[if_pos hw];exact aPj hY h1 hy hf hA fun c s' a' w' hK hA'=>tY hY h2 hK hA' hQ
   have skip:Region.wanted o (yielded ops a.tmps)=false->mS P Y ros (s.put ro.dst .un [] []) K->(if Region.wanted o (yielded ops a.tmps)=true then o.wpIn (FR r) 0 P a w (wpListIn (FR r) 0 P ops Q os) Q else(∀f,o.about P w a.eval=some f->(FR r).fn f)/\wpListIn (FR r) 0 P ops Q os (a.put o.dst undef) w):=fun hw hf=>by rw[if_neg (by rw[hw];simp)];refine⟨fun f _=>lF r f,?_⟩;obtain⟨G,m,hA'⟩:=hA;exact tY hY h2 hf (by rw[h1.dst];exact hA'.skip h1.lt) hQ
   cases hog:o.guard with
   |none=>
    rw[hog]at hgo;simp only at hgo;rw[hgo]at h;exact run (by simp[Region.wanted,hog]) h
   |some g=>
    obtain⟨j,want⟩:=g;rw[hog]at hgo;obtain⟨t,ht,htN,hg⟩:=hgo;rw[hg]at h;simp only at h;have hA0:=hA;obtain⟨G,m,hA'⟩:=hA0;have hrep:=hA'.env t;rw[Ent.val_lt htN]at hrep;have hy:yielded ops a.tmps j=match a.tmps.getD t undef with|.bool b=>some b|_=>none:=by
     unfold yielded;rw[ht];simp only[jg,cd];cases a.tmps[t]?with
     |none=>rfl
     |some v=>cases v<;>rfl
    split at h
    ·rename_i c hc;rw[hc]at hrep;have hv:=zL hrep;rw[hv]at hy;have hw:Region.wanted o (yielded ops a.tmps)=(c==want):=by simp only[Region.wanted,hog,hy];cases c<;>cases want<;>rfl
     by_cases e:c=want
     ·exact run (by rw[hw];simpa using e) (h.1 e)
     ·exact skip (by rw[hw];simpa using e) (h.2 e)
    ·rename_i v hc;rw[hc]at hrep;unfold AV.Rep DV.Rep at hrep;rw[hrep]at hy;exact skip (by simp only[Region.wanted,hog,hy];rfl) h
    ·exact h.elim
theorem CodeOk.regionY(h:rY P ops N ops.toList ros):CodeOk P N (.region id ops false) (.regY ros):=fun r Y E Q s a w hY hN hc hA=>by subst hN;exact wpIn_region_list (tY hY h hc hA fun s' a' w' hq hA'=>⟨s',hq,hA'⟩)
theorem vW{args:List Operand}(h:ROp.callP f args=dW b op0):op0=.call f args\/op0=.callP f args:=by cases b<;>cases op0<;>first|(cases h;done)|(cases h;exact .inl rfl)|(cases h;exact .inr rfl)
theorem aDq{args:List Operand}(h:aA P o=some (.callP f args)):False:=by
 cases ho:o.op
 case field=>simp only[aA,ho,ε]at h;obtain⟨f,_,h⟩:=h;split at h<;>cases h
 all_goals(simp only[aA,ho]at h;(repeat' split at h)<;>simp_all[ε,ζ,δ])
theorem aV0(h:ROp.pan x=dW b op0):op0=.pan x:=by cases b<;>cases op0<;>first|(cases h;done)|(cases h;rfl)
theorem aYl(h:aA P o=some (.pan x)):o.op=.panic x:=by
 cases ho:o.op
 case panic y=>simp only[aA,ho,Option.some.injEq]at h;cases h;rfl
 case field=>exfalso;simp only[aA,ho,ε]at h;obtain⟨f,_,h⟩:=h;split at h<;>cases h
 all_goals(exfalso;simp only[aA,ho]at h;(repeat' split at h)<;>simp_all[ε,ζ,δ])
theorem ResO.guardN(hr:ResO P ops N o ro)(h:ro.guard=none):o.guard=none:=by
 have hg:=hr.guard;cases hog:o.guard with
 |none=>rfl
 |some g=>
  obtain⟨j,want⟩:=g;rw[hog]at hg;obtain⟨t,_,_,e⟩:=hg;rw[h]at e;cases e
theorem aIe{c:Call}{fn:FuncId}{R:Value->World->Prop}(ho:o.op=.call c)(hc:c.callee=.value f)(hv:a.eval f=.func (.func fn) #[] vs)
  (h:PanDoes P fn pv (c.args.map a.eval++vs) w R) (hQ:∀v w',R v w'->Q (.panic [{v:=pv,recovered:=false}]) a w'):o.wpIn (FR r) 0 P a w next Q:=by
 obtain⟨⟨fd,h1,h2,h3⟩,h⟩:=h;have hnone:fd.body.isNone=false:=by rw[Option.isNone_eq_false_iff];exact h2
 have hrun:(execOp a.eval o).run P w=.ok (.enter fn (c.args.map a.eval++vs)) w:=by simp only[execOp,ho,resolve,hc,hv,Deferred.ofValue,Sem.run_bind,Sem.run_pure,Result.andThen_ok,invoke,callFunc,run_program,h1,h3,hnone,ew,if_false];simp
 have hnd:∀c,o.op≠.defer c:=fun c' e=>by rw[ho]at e;cases e
 unfold Oper.wpIn;refine⟨fun f _=>lF r f,?_⟩;rw[Oper.semAt_eq _ _ _ hnd,hrun];refine⟨fun hd=>by simp[FR,Fence.wide]at hd,aQt (h.mono ?_)⟩;rintro e w'' ⟨rfl,hr⟩;exact hQ _ _ hr
theorem aAz{r:Option Nat}{P:Program}{dr:Bool}{ops:Array Oper}{E:Ent}{Q:Exit->Act->World->Prop}:∀{os:List Oper} {ros:List RO} {s:AState} {a:Act} {w:World} {K:AState->Prop} {Pn:Value->AState->Prop},rY P ops E.N os ros->mT P dr ros s K Pn->ASim E s a w->
  (∀s' a' w',K s'->ASim E s' a' w'->Q .normal a' w')->(∀v s' a' w',Pn v s'->ASim E s' a' w'->Q (.panic [{v:=v,recovered:=false}]) a' w')->wpListIn (FR r) 0 P ops Q os a w
 |[],[],s,a,w,K,Pn,_,h,hA,hQ,_=>hQ _ _ _ h hA
 |[],_::_,_,_,_,_,_,hr,_,_,_,_=>hr.elim
 |_::_,[],_,_,_,_,_,hr,_,_,_,_=>hr.elim
 |o::os,ro::ros,s,a,w,K,Pn,hr,h,hA,hQ,hP=>by
  have gen:iD P [ro] s (fun s'=>mT P dr ros s' K Pn)->wpListIn (FR r) 0 P ops Q (o::os) a w:=fun h=>
   tV (K:=fun s'=>mT P dr ros s' K Pn) hr.1 h hA fun s' a' w' hK hA'=>aAz hr.2 hK hA' hQ hP
  unfold mT at h;split at h
  ·rename_i f args heq;obtain⟨hg,fn,caps,hf,h⟩:=h;obtain⟨b,op0,hop,hmk⟩:=hr.1.op.resolve_left (fun e=>by rw[heq]at e;cases e);rw[heq]at hmk;rcases vW hmk with e|e
   case inr=>rw[e]at hop;exact(aDq hop).elim
   rw[e]at hop;obtain⟨c,ho,hc,rfl⟩:=sD hop;have hxs:=hr.1.xs;rw[heq]at hxs;unfold wpListIn;rw[if_pos (by simp[Region.wanted,hr.1.guardN hg])];obtain⟨G,m,hA'⟩:=hA;have hrf:=hA'.evs f (hxs f (by simp[ROp.operands]));rw[hf]at hrf;unfold AV.Rep at hrf;obtain⟨vs,hv,hcaps⟩:=hrf;have hargs:AV.RepL G m (c.args.toList.map s.ev) (c.args.toList.map a.eval):=AV.RepL_map (fun x hx=>hA'.evs x (hxs x (by simp only[ROp.operands,br];exact .inr hx)));have hrep:AV.RepL G m (c.args.toList.map s.ev++caps) (c.args.map a.eval++vs).toList:=by rw[du,dx];exact AV.RepL_append hargs hcaps
   rcases h with⟨rr,nbs,_,hcall,hK⟩|⟨pv,hpan,hK⟩
   ·refine kS (uJ ho hc hv (aTc (ks:=[]) (n:=s.nx) hcall (LkSame.refl _) hA'.sim hrep (fun j hj=>hA'.fresh _ (by omega)))) fun v w' hp=>?_;refine aAz hr.2 hK ?_ hQ hP;rw[hr.1.dst];exact hA'.step hr.1.lt hp
   ·refine aIe ho hc hv (bFa (n:=s.nx) hpan (LkSame.refl _) hA'.sim hrep) fun v w' hp=>?_;refine hP pv _ _ _ hK ?_;exact hA'.step (dst:=none) (fun d hd=>by cases hd) hp
  ·rename_i x heq;obtain⟨hg,t,v,hx,hK⟩:=h;obtain⟨b,op0,hop,hmk⟩:=hr.1.op.resolve_left (fun e=>by rw[heq]at e;cases e);rw[heq]at hmk;rw[aV0 hmk]at hop;have ho:=aYl hop;have hxs:=hr.1.xs;rw[heq]at hxs;unfold wpListIn;rw[if_pos (by simp[Region.wanted,hr.1.guardN hg])];obtain⟨G,m,hA'⟩:=hA;have hrx:=hA'.evs x (hxs x (by simp[ROp.operands]));rw[hx]at hrx;unfold AV.Rep DV.Rep at hrx;have hnd:∀c,o.op≠.defer c:=fun c' e=>by rw[ho]at e;cases e
   unfold Oper.wpIn;refine⟨fun f _=>lF r f,?_⟩;have hrun:(execOp a.eval o).run P w=.halt (.panic (.iface t v)) w:=by simp[execOp,ho,hrx,Instr.panic,goPanic]
   rw[Oper.semAt_eq _ _ _ hnd,hrun];exact hP _ _ _ _ hK ⟨G,m,hA'⟩
  ·exact gen h
theorem CodeOk.regionP(h:rY P ops N ops.toList ros):CodeOk P N (.region id ops false) (.regP ros):=fun r Y E Q s a w hY hN hc hA=>by subst hN;exact wpIn_region_list (aAz h hc hA (fun s' a' w' hq hA'=>⟨s',hq,hA'⟩) (fun v s' a' w' hq hA'=>⟨s',hq,hA'⟩))
section
variable{P:Program}{T k0 e:TypeId}{kd:KD}{b clk:Nat}{arr:Array MapEntry}{kv:Value}{w:World}
end
def bAb:Op->Nat->Nat->Bool
 |.extract (.tmp t) j,d,i=>au t d&&au j i
 |_,_,_=>false
def bFe:Op->Nat->Nat->Nat->Nat->Bool
 |.entryStore T (.tmp m) (.tmp s) (.tmp v),T',m',s',v'=>au T T'&&au m m'&&au s s'&&au v v'
 |_,_,_,_,_=>false
def bFt:Operand->Nat->Bool
 |.tmp t,d=>au t d
 |_,_=>false
def bF5(ds:List Nat):Operand->Bool
 |.tmp t=>!ds.contains t
 |_=>true
def bG0(P:Program)(e:TypeId):Bool:=match P.info? e with
 |some i=>match i.zero with
  |some (.slice none 0 0)=>true
  |_=>false
 |none=>false
def bGp(os:List Oper):Bool:=os.all fun o=>o.guard.isNone
def bFj(P:Program)(N T e tm:Nat)(q:MA)(xo:Operand)(o1 o2 o3 o4 o5:Oper):Bool:=
 bGp [o1,o2,o3,o4,o5]&&bAb o2.op q.d1 0&&bAb o4.op q.d1 1&&bFe o5.op T tm q.d4 q.d3&&bFt xo q.d2&&o5.dst.isNone&&bG0 P e&&
 (decide (q.d1<N)&&decide (q.d2<N)&&decide (q.d3<N)&&decide (q.d4<N)&&decide (tm<N))&&(!au q.d1 q.d2&& !au q.d1 q.d3&& !au q.d1 q.d4&& !au q.d2 q.d3&& !au q.d3 q.d4)&&
 q.y.inN N&&q.ys.inN N&&bF5 [q.d1,q.d2,q.d3,q.d4] (.tmp tm)&&bF5 [q.d1,q.d2,q.d3,q.d4] q.y
def bHq(P:Program)(N:Nat)(o1 o2 o3 o4 o5:Oper):Option MA:=match o1.op,o1.dst,o2.dst,o3.dst,o4.dst,aA P o3 with
 |.mapEntry T (.tmp tm) y,some d1,some d2,some d3,some d4,some (.app k bytes xo ys)=>match aKd P T with
  |some (kd,e)=>if bFj P N T e tm ⟨kd,k,bytes,.tmp tm,y,ys,d1,d2,d3,d4⟩ xo o1 o2 o3 o4 o5=true then some ⟨kd,k,bytes,.tmp tm,y,ys,d1,d2,d3,d4⟩else none
  |none=>none
 |_,_,_,_,_,_=>none
def bF9:List Oper->Option (List Oper×Oper×Oper×Oper×Oper×Oper)
 |[o1,o2,o3,o4,o5]=>some ([],o1,o2,o3,o4,o5)
 |o::l=>match bF9 l with
  |some (l1,r)=>some (o::l1,r)
  |none=>none
 |[]=>none
def bC4(ops:Array Oper):Bool:=ops.toList.any fun o=>match o.op with
 |.entryStore ..=>true
 |_=>false
def cG(ops:Array Oper)(j:Nat):List Nat:=
 match ops[j]?with
 |some o=>(o.after.toList.filter (Region.binds .any)).map (·.on)
 |none=>[]
def aAt(l:List Nat):List Nat->Nat
 |[]=>0
 |i::is=>(2^i|||l.getD i 0)|||aAt l is
def aOi(ops:Array Oper):Nat->List Nat
 |0=>[]
 |n+1=>let l:=aOi ops n;l++[aAt l (cG ops n)]
theorem oG(ops:Array Oper):∀n,(aOi ops n).length=n
 |0=>rfl
 |n+1=>by simp[aOi,oG ops n]
theorem yP(ops:Array Oper):∀n j,j<n->(aOi ops n).getD j 0=aAt (aOi ops j) (cG ops j)
 |0,j,h=>by omega
 |n+1,j,h=>by
  simp only[aOi];by_cases e:j<n
  ·rw[bc,List.getElem?_append_left (by rw[oG];exact e),<-bc];exact yP ops n j e
  ·have:j=n:=by omega
   subst this;rw[bc,List.getElem?_append_right (by rw[oG];omega),oG];simp
theorem aEh(l:List Nat):∀(es:List Nat) (i:Nat),(aAt l es).testBit i=true->∃e∈es,i=e\/(l.getD e 0).testBit i=true
 |[],i,h=>by simp[aAt]at h
 |e::es,i,h=>by
  simp only[aAt,Nat.testBit_or,e9]at h;rcases h with(h|h)|h
  ·exact⟨e,by simp,.inl (by rw[Nat.testBit_two_pow]at h;simpa using(of_decide_eq_true h).symm)⟩
  ·exact⟨e,by simp,.inr h⟩
  ·obtain⟨e',h1,h2⟩:=aEh l es i h;exact⟨e',by simp[h1],h2⟩
def anc(ops:Array Oper)(i j:Nat):Bool:=((aOi ops ops.size).getD j 0).testBit i
theorem xK(hlt:∀j,j<ops.size->∀e∈cG ops j,e<j)(hj:j<ops.size)(h:anc ops i j=true):∃e∈cG ops j,i=e\/anc ops i e=true:=by unfold anc at h;rw[yP ops _ j hj]at h;obtain⟨e,he,h2⟩:=aEh _ _ _ h;refine⟨e,he,h2.imp id fun h2=>?_⟩;have:=hlt j hj e he;unfold anc;rw[yP ops _ e (by omega)];rwa[yP ops _ e this]at h2
theorem bCo(hlt:∀j,j<ops.size->∀e∈cG ops j,e<j):∀(j i:Nat),j<ops.size->anc ops i j=true->i<j:=by
 intro j
 induction j using gv with
 |_ j ih=>
  intro i hj h;obtain⟨e,he,rfl|h2⟩:=xK hlt hj h
  ·exact hlt j hj _ he
  ·have:=hlt j hj e he;exact Nat.lt_trans (ih e this i (by omega) h2) this
theorem wD(hlt:∀j,j<ops.size->∀e∈cG ops j,e<j)(hc:∀j,j<ops.size->L j->∀e∈cG ops j,L e):∀(j i:Nat),j<ops.size->anc ops i j=true->L j->L i:=by
 intro j
 induction j using gv with
 |_ j ih=>
  intro i hj h hL;obtain⟨e,he,rfl|h2⟩:=xK hlt hj h
  ·exact hc j hj hL _ he
  ·have:=hlt j hj e he;exact ih e this i (by omega) h2 (hc j hj hL e he)
def aJ0(l:List Operand):List Nat:=l.filterMap fun|.tmp t=>some t|_=>none
def RO.names(r:RO):List Nat:=r.dst.toList++aJ0 r.op.operands++(match r.guard with|some (t,_)=>[t]|none=>[])
def aI6(ops:Array Oper)(b:Bool)(ri rj:RO)(i j:Nat):Bool:=
  anc ops i j||
  (!((match ri.dst with|some d=>rj.names.contains d|none=>false)||(match rj.dst with|some d=>ri.names.contains d|none=>false))&&
   !((!b&&ri.op.eff&&rj.op.ht)||(rj.op.eff&&ri.op.ht)))
def aMy:ROp->Bool
 |.newR _=>true
 |_=>false
def bBk(ops:Array Oper)(ros:List RO)(j:Nat):Bool:=
 aMy (ros.getD j default).op&&(c8 j).any fun i=>(ros.getD i default).op.eff&& !anc ops i j
def aKp(ops:Array Oper)(ros:List RO):Nat:=((c8 ops.size).find? (bBk ops ros)).getD ops.size
def aCx(ops:Array Oper)(ros:List RO)(e:Nat):Bool:=
 aMy (ros.getD e default).op&&(ros.getD e default).guard.isNone&&
 (match(ros.getD e default).dst with
 |some t=>(c8 ops.size).all fun k=>k==e|| !(ros.getD k default).names.contains t||(c8 e).all fun i=>!(ros.getD i default).op.eff||anc ops i k
 |none=>false)&&
 (c8 ops.size).all fun k=>decide (k<=e)|| !(ros.getD k default).op.ht||(ros.getD k default).op.eff||(c8 k).any fun i=>decide (e<i)&&(ros.getD i default).op.eff
def aEb(ops:Array Oper)(ros:List RO):Bool:=
 (c8 ops.size).all (fun j=>(cG ops j).all fun e=>decide (e<j))&&
 (let e:=aKp ops ros
 (decide (ops.size<=e)||aCx ops ros e)&&
 (c8 ops.size).all fun j=>(c8 j).all fun i=>aI6 ops (decide (j=e)) (ros.getD i default) (ros.getD j default) i j)
structure DrawOk (ops:Array Oper) (ro:Nat->RO) (e:Nat):Prop where
 lt:∀j,j<ops.size->∀e∈cG ops j,e<j
 wr:∀i j,i<j->j<ops.size->∀d,(ro i).dst=some d->d∈(ro j).names->anc ops i j=true
 rw:∀i j,i<j->j<ops.size->∀d,(ro j).dst=some d->d∈(ro i).names->anc ops i j=true
 eh:∀i j,i<j->j<ops.size->j≠e->(ro i).op.eff=true->(ro j).op.ht=true->anc ops i j=true
 he:∀i j,i<j->j<ops.size->(ro i).op.ht=true->(ro j).op.eff=true->anc ops i j=true
 nw:e<ops.size->∃zs,(ro e).op=.newR zs
 gd:e<ops.size->(ro e).guard=none
 us:e<ops.size->∃t,(ro e).dst=some t/\∀k,k<ops.size->k≠e->t∈(ro k).names->∀i,i<e->(ro i).op.eff=true->anc ops i k=true
 bt:e<ops.size->∀k,e<k->k<ops.size->(ro k).op.ht=true->(ro k).op.eff=false->∃i,e<i/\i<k/\(ro i).op.eff=true
theorem aF9(h:aMy op=true):∃zs,op=.newR zs:=by cases op<;>first|exact⟨_,rfl⟩|cases h
theorem mH(h:aCx ops ros e=true):
  (∃zs,(ros.getD e default).op=.newR zs)/\(ros.getD e default).guard=none/\
  (∃t,(ros.getD e default).dst=some t/\∀k,k<ops.size->k≠e->t∈(ros.getD k default).names->∀i,i<e->(ros.getD i default).op.eff=true->anc ops i k=true)/\
  ∀k,e<k->k<ops.size->(ros.getD k default).op.ht=true->(ros.getD k default).op.eff=false->∃i,e<i/\i<k/\(ros.getD i default).op.eff=true:=by
 unfold aCx at h;simp only[ν]at h;obtain⟨⟨⟨h1,h2⟩,h3⟩,h4⟩:=h;refine⟨aF9 h1,by simpa using h2,?_,fun k hk hn hht hne=>?_⟩
 ·split at h3
  ·rename_i t ht;refine⟨t,ht,fun k hk hke htk i hi he=>?_⟩;have:=c6.1 h3 k (e8.2 hk);simp only[e9,cz,beq_iff_eq]at this;rcases this with(g|g)|g
   ·exact absurd g hke
   ·rw[jk,decide_eq_false_iff_not]at g;exact absurd htk g
   ·have:=c6.1 g i (e8.2 hi);simp only[e9,cz]at this;rw[he]at this;exact this.resolve_left (by simp)
  ·cases h3
 ·have:=c6.1 h4 k (e8.2 hn);simp only[e9,cz,decide_eq_true_eq]at this;rcases this with((g|g)|g)|g
  ·omega
  ·rw[hht]at g;cases g
  ·rw[hne]at g;cases g
  ·obtain⟨i,hi,g⟩:=List.any_eq_true.1 g;simp only[ν,decide_eq_true_eq]at g;exact⟨i,g.1,e8.1 hi,g.2⟩
theorem aBt(h:aEb ops ros=true):DrawOk ops (fun i=>ros.getD i default) (aKp ops ros):=by
 unfold aEb at h;generalize aKp ops ros=e at h|-;simp only[ν]at h;obtain⟨h1,h0,h2⟩:=h;simp only[c6,e8,decide_eq_true_eq]at h1 h2;have hlo:e<ops.size->aCx ops ros e=true:=fun hl=>by simp only[e9,decide_eq_true_eq]at h0;exact h0.elim (fun g=>by omega) id
 have hp:∀i j,i<j->j<ops.size->aI6 ops (decide (j=e)) (ros.getD i default) (ros.getD j default) i j=true:=fun i j hi hj=>h2 j hj i hi;have key:∀(b:Bool) (ri rj:RO) (i j:Nat),aI6 ops b ri rj i j=true->
   (∀d,ri.dst=some d->d∈rj.names->anc ops i j=true)/\(∀d,rj.dst=some d->d∈ri.names->anc ops i j=true)/\
   (b=false->ri.op.eff=true->rj.op.ht=true->anc ops i j=true)/\(ri.op.ht=true->rj.op.eff=true->anc ops i j=true):=fun b ri rj i j h=>by
  unfold aI6 at h;refine⟨fun d hd hm=>?_,fun d hd hm=>?_,fun hb he hh=>?_,fun hh he=>?_⟩
  ·rw[hd]at h;simpa[hm]using h
  ·rw[hd]at h;simpa[hm]using h
  ·simpa[hb,he,hh]using h
  ·simpa[he,hh]using h
 refine⟨h1,fun i j hi hj=>(key _ _ _ i j (hp i j hi hj)).1,fun i j hi hj=>(key _ _ _ i j (hp i j hi hj)).2.1,fun i j hi hj hne=>(key _ _ _ i j (hp i j hi hj)).2.2.1 (by simpa using hne),fun i j hi hj=>(key _ _ _ i j (hp i j hi hj)).2.2.2,fun hl=>(mH (hlo hl)).1,fun hl=>(mH (hlo hl)).2.1,fun hl=>(mH (hlo hl)).2.2.1,fun hl=>(mH (hlo hl)).2.2.2⟩
def aD3(r:RO)(env:Nat->AV):Prop:=match r.guard with
 |none=>True
 |some (t,want)=>env t=.D (.B want)
def sZ(r:RO)(env:Nat->AV):Prop:=match r.guard with
 |none=>False
 |some (t,want)=>(∃c,env t=.D (.B c)/\c≠want)\/∃v,env t=.D (.C (.tuple v))
theorem aV3(h:aA P o=some (.newR zs)):∃T i z,o.op=.alloc T/\P.info? T=some i/\i.zero=some z/\zs=z.cells.toList.map fI:=by
 cases ho:o.op
 case alloc T=>
  simp only[aA,ho,ε,ζ]at h;obtain⟨i,hi,z,hz,h⟩:=h;split at h
  ·cases h;exact⟨T,i,z,rfl,hi,hz,rfl⟩
  ·split at h<;>cases h
 case field=>exfalso;simp only[aA,ho,ε]at h;obtain⟨f,_,h⟩:=h;split at h<;>cases h
 all_goals(exfalso;simp only[aA,ho]at h;(repeat' split at h)<;>simp_all[ε,ζ,δ])
theorem aRr(h:ROp.newR zs=dW b op0):op0=.newR zs:=by cases b<;>cases op0<;>first|(cases h;done)|(cases h;rfl)
def bAx(G:Gh)(es:List (List DV))(w:World)(v:Value)(w':World):Prop:=
 v=.pointer (some ⟨w.heap.size,0,none⟩)/\∃vs T,w'=w.alloc (.cells vs T)/\∀m',BlkRep G m' (.row true 1 es) w.heap.size vs.size w'
theorem aU1{ds:List DV}(hr:aA P o=some (.newR zs))(hd:AV.data zs=some ds)(G:Gh)(m:HM)(lk:aV)(w:World)(ρ:Operand->Value)(hS:Sim G m lk w):Does P o ρ w (bAx G (ds.map fun d=>[d]) w):=by obtain⟨T,i,z,ho,hi,hz,rfl⟩:=aV3 hr;refine Does.val (v:=.pointer (some ⟨w.heap.size,0,none⟩)) (w':=w.alloc (.cells z.cells T)) ?_ ⟨rfl,_,_,rfl,fun m'=>aKj hS T (AV.RepL_const _) hd m'⟩;simp[execOp,ho,Instr.alloc,kN hi hz,newVar,newRow]
inductive RStep (P:Program) (o:Oper) (r:RO) (s s':AState):Prop
 |skip (h1:sZ r s.env) (h2:s'=s.put r.dst .un [] [])
 | run (h1:aD3 r s.env) (he:r.op.eff=false) (x:AV) (nbs:List Blk) (fz:List Hd) (h2:s'=s.put r.dst x nbs fz) (h3:r.op.ht=false->nbs=[]/\fz=[]) (h5:∀ h ∈ fz,(s.lk h).isSome=true)
   (h4:∀(G:Gh) (m:HM) (w:World) (ρ:Operand->Value) (_:∀v,ρ (.const v)=v) (lk2:aV),Need r.op s.ev s.lk lk2->Sim G m lk2 w->(∀x∈r.op.operands,AV.Rep G m (s.ev x) (ρ x))->
    (∀j,j<nbs.length->m (.O (s.nx+j))=none)->Does P o ρ w (PPost G m lk2 s.nx x nbs fz w))
   (h6:aMy r.op=true->x=.eptr (.O s.nx) 1 0 0/\∃es,nbs=[.row true 1 es]/\fz=[]/\∀(G:Gh) (m:HM) (lk:aV) (w:World) (ρ:Operand->Value),Sim G m lk w->Does P o ρ w (bAx G es w))
 |eff (h1:aD3 r s.env) (he:r.op.eff=true) (h2:EOk P o r.op.operands r.dst s s')
theorem aBf{r:RO}(hr:ResO P ops N o r)(hg:aD3 r s.env)(h:lV P s r K):∃s',K s'/\RStep P o r s s':=by
 cases he:r.op.eff with
 |true=>
  obtain⟨s',hK,hE⟩:=aMj hr he h;exact⟨s',hK,.eff hg he hE⟩
 |false=>
  rw[aD8 he]at h;cases hn:aMy r.op with
  |false=>
   obtain⟨x,nbs,fz,hK,h3,h5,hD⟩:=hr.ps he h;exact⟨_,hK,.run hg he x nbs fz rfl h3 h5 hD (fun e=>by rw[hn]at e;cases e)⟩
  |true=>
   obtain⟨zs,hz⟩:=aF9 hn;have hz':aA P o=some (.newR zs):=by
    obtain e0|⟨b,op0,g1,g2⟩:=hr.op
    ·rw[hz]at e0;cases e0
    rw[hz]at g2;rw[g1,aRr g2]
   rw[hz]at h;obtain⟨ds,hd,hK⟩:=h;have h':aO P s.lk s.nx s.ev r.op (fun a nbs fz=>K (s.put r.dst a nbs fz)/\a=.eptr (.O s.nx) 1 0 0/\nbs=[.row true 1 (ds.map fun d=>[d])]/\fz=[]):=by rw[hz];exact⟨ds,hd,hK,rfl,rfl,rfl⟩
   obtain⟨x,nbs,fz,⟨hK,e1,e2,e3⟩,h3,h5,hD⟩:=hr.ps he h';exact⟨_,hK,.run hg he x nbs fz rfl h3 h5 hD (fun _=>⟨e1,_,e2,e3,aU1 hz' hd⟩)⟩
theorem aT6{P:Program}{ops:Array Oper}{N:Nat}:∀{os:List Oper} {ros:List RO} {s:AState} {K:AState->Prop},rY P ops N os ros->iD P ros s K->
  ∃st:Nat->AState,st 0=s/\ros.length=os.length/\K (st os.length)/\∀(i:Nat) (o:Oper) (r:RO),os[i]?=some o->ros[i]?=some r->ResO P ops N o r/\RStep P o r (st i) (st (i+1))
 |[],[],s,K,_,h=>⟨fun _=>s,rfl,rfl,h,fun i o r hi=>by simp at hi⟩
 |[],_::_,_,_,hr,_=>hr.elim
 |_::_,[],_,_,hr,_=>hr.elim
 |o::os,r::ros,s,K,hr,h=>by
  obtain⟨h1,h2⟩:=hr;have go:∀s',iD P ros s' K->RStep P o r s s'->∃st:Nat->AState,st 0=s/\(r::ros).length=(o::os).length/\K (st (o::os).length)/\
    ∀(i:Nat) (o':Oper) (r':RO),(o::os)[i]?=some o'->(r::ros)[i]?=some r'->ResO P ops N o' r'/\RStep P o' r' (st i) (st (i+1)):=fun s' hs' hstep=>by
   obtain⟨st,g1,g2,g3,g4⟩:=aT6 h2 hs';refine⟨fun i=>match i with|0=>s|i+1=>st i,rfl,by simp[g2],g3,fun i o' r' hi hi'=>?_⟩
   match i with
   |0=>
    simp at hi hi';subst hi;subst hi';refine⟨h1,?_⟩;show RStep P o r s (st 0);rw[g1];exact hstep
   |i+1=>exact g4 i o' r' (by simpa using hi) (by simpa using hi')
  unfold iD at h;split at h
  ·rename_i hg;obtain⟨s',hK,hst⟩:=aBf h1 (by unfold aD3;rw[hg];trivial) h;exact go s' hK hst
  ·rename_i t want hg;split at h
   ·rename_i c hc;by_cases e:c=want
    ·obtain⟨s',hK,hst⟩:=aBf h1 (by unfold aD3;rw[hg];simp only;rw[hc,e]) (h.1 e);exact go s' hK hst
    ·exact go _ (h.2 e) (.skip (by unfold sZ;rw[hg];exact .inl ⟨c,hc,e⟩) rfl)
   ·rename_i v hc;exact go _ h (.skip (by unfold sZ;rw[hg];exact .inr ⟨v,hc⟩) rfl)
   ·exact h.elim
theorem aLz{r:RO}(hr:ResO P ops N o r)(h:iD P [r] s K):∃s',K s'/\RStep P o r s s':=by obtain⟨st,g1,_,g3,g4⟩:=aT6 (os:=[o]) (ros:=[r]) ⟨hr,trivial⟩ h;obtain⟨_,g5⟩:=g4 0 o r rfl rfl;exact⟨st 1,g3,g1▸g5⟩
theorem aK2(h:op.eff=true):op.ht=true:=by cases op<;>first|rfl|(unfold ROp.eff at h;simp at h)
theorem aWy(s:AState)(dst:Option Nat)(a:AV)(h:Hd):(s.put dst a [] []).lk h=s.lk h:=by
 rw[hZ];unfold lkN lkF;cases h with
 |B i=>simp
 |O i=>
  have:¬(s.nx<=i/\i<s.nx+([]:List Blk).length):=by rw[ba];omega
  simp only[if_neg this];simp
theorem aVd{r:RO}(h:RStep P o r s s')(he:r.op.ht=false)(x:Hd):s'.lk x=s.lk x:=by
 cases h with
 |skip h1 h2=>subst h2;exact aWy _ _ _ _
 |run h1 he' y nbs fz h2 h3=>
  subst h2;obtain⟨rfl,rfl⟩:=h3 he;exact aWy _ _ _ _
 |eff h1 h2 h3=>rw[aK2 h2]at he;cases he
theorem aT4{P:Program}{ops:Array Oper}{N:Nat}{ld:Bool}{hs:List Hd}{lst:Bool}:∀{os:List Oper} {ros:List RO} {s:AState} {K:AState->Prop},rY P ops N os ros->aRk P ld hs lst ros s K->
  ∃st:Nat->AState,st 0=s/\ros.length=os.length/\K (st os.length)/\(∀i,i<os.length->(lst=false\/i+1<os.length)->aHh ld hs (st i) (st (i+1)))/\∀(i:Nat) (o:Oper) (r:RO),os[i]?=some o->ros[i]?=some r->ResO P ops N o r/\RStep P o r (st i) (st (i+1))/\aUd hs r.op (st i).ev
 |[],[],s,K,_,h=>⟨fun _=>s,rfl,rfl,h,fun i hi=>by simp at hi,fun i o r hi=>by simp at hi⟩
 |[],_::_,_,_,hr,_=>hr.elim
 |_::_,[],_,_,hr,_=>hr.elim
 |o::os,r::ros,s,K,hr,h=>by
  obtain⟨h1,h2⟩:=hr;obtain⟨hl,h⟩:=h;obtain⟨s',⟨hk,hs'⟩,hstep⟩:=aLz h1 h;obtain⟨st,g1,g2,g3,g5,g4⟩:=aT4 h2 hs';refine⟨fun i=>match i with|0=>s|i+1=>st i,rfl,by simp[g2],g3,fun i hi hj=>?_,fun i o' r' hi hi'=>?_⟩
  ·match i with
   |0=>
    show aHh ld hs s (st 0);rw[g1];cases he:r.op.ht with
    |true=>exact hk he (hj.imp id fun h6 e=>by subst e;rw[ba]at g2;rw[List.length_cons]at h6;omega)
    |false=>exact fun x _=>by rw[aVd hstep he];exact keepB.refl _ _
   |i+1=>exact g5 i (by simpa using hi) (hj.imp id fun h=>by simpa using h)
  ·match i with
   |0=>
    simp at hi hi';subst hi;subst hi';refine⟨h1,?_,hl⟩;show RStep P o r s (st 0);rw[g1];exact hstep
   |i+1=>exact g4 i o' r' (by simpa using hi) (by simpa using hi')
def qW(r:Nat->RO)(t:Nat):Nat->Nat
 |0=>0
 |k+1=>if(r k).dst=some t then k+1 else qW r t k
theorem rP(r:Nat->RO)(t:Nat):∀i,qW r t i<=i
 |0=>ω _
 |k+1=>by unfold qW;split;exact ω _;exact Nat.le_succ_of_le (rP r t k)
theorem nN(r:Nat->RO)(t:Nat):∀i,(qW r t i=0\/∃k,k<i/\qW r t i=k+1/\(r k).dst=some t)/\∀k,qW r t i<=k->k<i->(r k).dst≠some t
 |0=>⟨.inl rfl,fun k _ h=>by omega⟩
 |i+1=>by
  obtain⟨h1,h2⟩:=nN r t i;unfold qW;split
  ·rename_i e;exact⟨.inr ⟨i,by omega,rfl,e⟩,fun k h h'=>by omega⟩
  ·rename_i e;refine⟨h1.imp id fun⟨k,a,b,c⟩=>⟨k,by omega,b,c⟩,fun k h h'=>?_⟩;by_cases ek:k=i
   ·subst ek;exact e
   ·exact h2 k h (by omega)
structure Ver (n:Nat) (r:Nat->RO) (L:Nat->Prop) (t q:Nat):Prop where
 le:q<=n
 by_:q=0\/∃k,q=k+1/\L k/\(r k).dst=some t
 last:∀j,q<=j->j<n->L j->(r j).dst≠some t
section
variable{P:Program}{ops:Array Oper}{N:Nat}{r:Nat->RO}{st:Nat->AState}
theorem aEr(h:RStep P o ro s s'):s.nx<=s'.nx:=by
 cases h with
 |skip h1 h2=>subst h2;exact ω _
 |run h1 he x nbs fz h2=>subst h2;show s.nx<=s.nx+nbs.length;omega
 |eff h1 he h2=>exact h2.nx
theorem aS2(h:RStep P o ro s s')(hs:∀i,s.nx<=i->s.own i=none):∀i,s'.nx<=i->s'.own i=none:=by
 cases h with
 |skip h1 h2=>subst h2;exact fun i hi=>mD hs i hi
 |run h1 he x nbs fz h2=>subst h2;exact fun i hi=>mD hs i hi
 |eff h1 he h2=>exact h2.own hs
theorem aSk(h:RStep P o ro s s')(ht:ro.dst≠some t):s'.env t=s.env t:=by
 have put:∀x nbs fz,(s.put ro.dst x nbs fz).env t=s.env t:=fun x nbs fz=>by
  show bR s.env ro.dst x t=_;cases hd:ro.dst with
  |some d=>
   show upd s.env d x t=_;unfold upd;rw[if_neg (fun e=>ht (by rw[hd,e]))]
  |none=>rfl
 cases h with
 |skip h1 h2=>subst h2;exact put _ _ _
 |run h1 he x nbs fz h2=>subst h2;exact put _ _ _
 |eff h1 he h2=>exact h2.env t ht
theorem pO(hst:∀i,i<ops.size->∃o,ops[i]?=some o/\ResO P ops N o (r i)/\RStep P o (r i) (st i) (st (i+1))):∀(d i:Nat),i+d<=ops.size->(st i).nx<=(st (i+d)).nx
 |0,i,_=>ω _
 |d+1,i,h=>by obtain⟨o,_,_,hs⟩:=hst (i+d) (by omega);exact cj (pO hst d i (by omega)) (aEr hs)
theorem aEi(hst:∀i,i<ops.size->∃o,ops[i]?=some o/\ResO P ops N o (r i)/\RStep P o (r i) (st i) (st (i+1)))(h0:∀j,(st 0).nx<=j->(st 0).own j=none):∀i,i<=ops.size->∀j,(st i).nx<=j->(st i).own j=none
 |0,_=>h0
 |i+1,h=>by obtain⟨o,_,_,hs⟩:=hst i (by omega);exact aS2 hs (aEi hst h0 i (by omega))
theorem uH(hst:∀i,i<ops.size->∃o,ops[i]?=some o/\ResO P ops N o (r i)/\RStep P o (r i) (st i) (st (i+1)))(t:Nat):∀i,i<=ops.size->(st (qW r t i)).env t=(st i).env t
 |0,_=>rfl
 |i+1,h=>by
  unfold qW;split
  ·rfl
  ·rename_i e;obtain⟨o,_,_,hs⟩:=hst i (by omega);rw[aSk hs e];exact uH hst t i (by omega)
theorem aC5(hst:∀i,i<ops.size->∃o,ops[i]?=some o/\ResO P ops N o (r i)/\RStep P o (r i) (st i) (st (i+1))):∀(d q:Nat),q+d<=ops.size->(∀i,q<=i->i<q+d->(r i).op.eff=false)->
  ∃hs:List Hd,∀h,(∀j,(st q).nx<=j->j<(st (q+d)).nx->h≠.O j)->(st (q+d)).lk h=if h∈hs then((st q).lk h).map Blk.frz else(st q).lk h
 |0,q,_,_=>⟨[],fun h _=>by simp⟩
 |d+1,q,hn,he=>by
  obtain⟨hs,ih⟩:=aC5 hst d q (by omega) (fun i h1 h2=>he i h1 (by omega));obtain⟨o,_,_,hstep⟩:=hst (q+d) (by omega);have hnx:=aEr hstep;have hnx0:=pO hst d q (by omega);have hold:∀(h:Hd),(∀j,(st q).nx<=j->j<(st (q+(d+1))).nx->h≠.O j)->∀j,(st q).nx<=j->j<(st (q+d)).nx->h≠.O j:=fun h hh j h1 h2=>hh j h1 (dn h2 hnx);have key:∀x nbs fz,st (q+d+1)=(st (q+d)).put (r (q+d)).dst x nbs fz->∃hs:List Hd,∀h,(∀j,(st q).nx<=j->j<(st (q+(d+1))).nx->h≠.O j)->(st (q+(d+1))).lk h=if h∈hs then((st q).lk h).map Blk.frz else(st q).lk h:=fun x nbs fz hput=>by
   refine⟨fz++hs,fun h hh=>?_⟩;have hnew:(st (q+(d+1))).lk h=lkF (st (q+d)).lk fz h:=by
    show(st (q+d+1)).lk h=_;rw[hput,hZ];unfold lkN;cases h with
    |B i=>rfl
    |O i=>
     simp only;rw[if_neg (fun hc=>hh i (by omega) (by
      show i<(st (q+d+1)).nx;rw[hput];exact hc.2) rfl)]
   rw[hnew];unfold lkF;rw[ih h (hold h hh)];by_cases e1:h∈fz<;>by_cases e2:h∈hs<;>simp[e1,e2];cases(st q).lk h<;>simp[Blk.frz_frz]
  cases hstep with
  |skip h1 h2=>exact key _ _ _ h2
  |run h1 he' x nbs fz h2=>exact key _ _ _ h2
  |eff h1 he'=>have:=he (q+d) (by omega) (by omega);rw[this]at he';cases he'
theorem aM4(hst:∀i,i<ops.size->∃o,ops[i]?=some o/\ResO P ops N o (r i)/\RStep P o (r i) (st i) (st (i+1))){q q':Nat}(hq:q<=q')(hn:q'<=ops.size)
  (he:∀i,q<=i->i<q'->(r i).op.eff=false) (hm:∀j,(st q).nx<=j->j<(st q').nx->m (.O j)=none) (hS:Sim G m (st q).lk w):
  ∃G',Sim G' m (st q').lk w/\Fr (fun _=>False) (Own m) G G' w w:=by obtain⟨d,rfl⟩:∃d,q'=q+d:=⟨q'-q,by omega⟩;obtain⟨hs,hh⟩:=aC5 hst d q hn he;obtain⟨G',h1,h2,h3⟩:=hS.freeze hs;refine⟨G',h1.congr (fun x hx=>?_),rfl,.same rfl rfl,rfl,ω _,fun _ _ _=>rfl,fun b _ ho o=>h3 b (fun h _ sz e=>ho (.at_ e)) o,h2⟩;rw[hh x (fun j a b e=>by subst e;exact hx (hm j a b))];rfl
theorem aQ2(hst:∀i,i<ops.size->∃o,ops[i]?=some o/\ResO P ops N o (r i)/\RStep P o (r i) (st i) (st (i+1))):∀(d q:Nat),q+d<=ops.size->(∀i,q<=i->i<q+d->(r i).op.eff=false/\(r i).op.ht=false)->(st (q+d)).lk=(st q).lk
 |0,q,_,_=>rfl
 |d+1,q,hn,he=>by
  obtain⟨o,_,_,hs⟩:=hst (q+d) (by omega);rw[<-aQ2 hst d q (by omega) (fun i h1 h2=>he i h1 (by omega))];show(st (q+d+1)).lk=_;cases hs with
  |skip h1 h2=>rw[h2,hZ,cD,eH]
  |run h1 he' x nbs fz h2 h3=>
   obtain⟨rfl,rfl⟩:=h3 (he (q+d) (by omega) (by omega)).2;rw[h2,hZ,cD,eH]
  |eff h1 he'=>have:=(he (q+d) (by omega) (by omega)).1;rw[this]at he';cases he'
theorem Sim.know(hS:Sim G m lk w){h:Hd}{b:Nat}{bl:Blk}(hn:m h=none)(hl:lk h=some bl)(hb:∀m',BlkRep G m' bl b sz w)(ho:¬Own m b):Sim G (aH m h (.at_ b sz)) lk w:=by
 have hle:=xO (loc:=.at_ b sz) hn;refine⟨fun x b' sz' hm=>?_,fun x hm=>?_,fun x x' l1 l2 b' h1 h2 q1 q2=>?_,hS.gh,fun x hm=>?_,hS.gl,fun x b' sz' fp hm=>?_⟩
 rotate_right
 ·unfold aH at hm;split at hm
  ·cases hm
  ·obtain⟨bl',g1,g2⟩:=hS.blkx x b' sz' fp hm;exact⟨bl',g1,g2.mono (Gh.le.refl G) hle (fun _ _ _=>rfl) (fun _ _=>rfl) (KeepIt.refl _ _)⟩
 ·unfold aH at hm;split at hm
  ·rename_i e;subst e;cases hm;exact⟨bl,hl,hb _⟩
  ·obtain⟨bl',g1,g2⟩:=hS.blk x b' sz' hm;exact⟨bl',g1,g2.mono (Gh.le.refl G) hle (fun _=>rfl) rfl⟩
 ·unfold aH at hm;split at hm
  ·cases hm
  ·exact hS.nil x hm
 ·unfold aH at h1 h2;split at h1
  ·rename_i e;cases h1;split at h2
   ·rename_i e';rw[e,e']
   ·rw[bk.1 q1]at q2;exact absurd ⟨x',l2,h2,q2⟩ ho
  ·split at h2
   ·cases h2;rw[bk.1 q2]at q1;exact absurd ⟨x,l1,h1,q1⟩ ho
   ·exact hS.injG x x' l1 l2 b' h1 h2 q1 q2
 ·unfold aH at hm;split at hm
  ·cases hm
  ·exact hS.dead x hm
def aUh(r:Nat->RO)(st:Nat->AState)(e:Nat)(E:Ent)(G:Gh)(m:HM)(a:Act)(w:World):Prop:=
 ∃t b sz es,(r e).dst=some t/\(st (e+1)).nx=(st e).nx+1/\(st (e+1)).lk (.O (st e).nx)=some (.row true 1 es)/\(st (e+1)).env t=.eptr (.O (st e).nx) 1 0 0/\
  (∀m',BlkRep G m' (.row true 1 es) b sz w)/\E.w0.heap.size<=b/\(¬Own m b)/\E.val a t=.pointer (some ⟨b,0,none⟩)
structure Inv (P:Program) (ops:Array Oper) (r:Nat->RO) (st:Nat->AState) (e:Nat) (E:Ent) (listed:Array Bool) (a:Act) (w:World):Prop where
 size:listed.size=ops.size
 closed:∀j,j<ops.size->listed.getD j false=true->∀e∈cG ops j,listed.getD e false=true
 main:∃G m p,p<=ops.size/\(∀i,i<p->(r i).op.eff=true->listed.getD i false=true)/\(p<ops.size->(r p).op.eff=true/\listed.getD p false=false)/\
  Sim G m (st p).lk w/\(∀t q,Ver ops.size r (fun i=>listed.getD i false=true) t q->(q=e+1->e<p)->AV.Rep G m ((st q).env t) (E.val a t))/\a.tmps.size=E.N/\(Marks1 E.dt (E.w0.heap.size+E.sk) E.nd a.defers w/\E.J ((st 0).env E.N) w)/\
  (∀i,i<ops.size->(listed.getD i false=false\/(i=e/\p<=e))->∀j,(st i).nx<=j->j<(st (i+1)).nx->m (.O j)=none)/\(∀j,(st ops.size).nx<=j->m (.O j)=none)/\
  Fr (Own E.m0) (Own E.m0) E.G0 G E.w0 w/\(∀i,SameB (E.m0 (.B i)) (m (.B i)))/\
  (∀h l b,m h=some l->b∈l.blks->E.w0.heap.size<=b\/Own E.m0 b)/\
  (e<ops.size->listed.getD e false=true->p<=e->aUh r st e E G m a w)
end
theorem zN(h:listed.getD i true=false):listed.getD i false=false:=by
 rcases db i listed.size with h'|h'
 ·simp[h']at h|-;exact h
 ·simp[Array.getElem?_eq_none h']at h
theorem kW(hi:i<listed.size):(listed.setIfInBounds i true).getD j false=true↔(j=i\/listed.getD j false=true):=by
 by_cases e:j=i
 ·subst e;simp[hi]
 ·have e':i≠j:=fun h=>e h.symm;simp only[cd,gm e',e,false_or]
section
variable{P:Program}{ops:Array Oper}{N:Nat}{r:Nat->RO}{st:Nat->AState}
theorem aRj(j:Nat):∀(d a:Nat),(st a).nx<=j->j<(st (a+d)).nx->∃k,a<=k/\k<a+d/\(st k).nx<=j/\j<(st (k+1)).nx
 |0,a,h1,h2=>by simp at h2;omega
 |d+1,a,h1,h2=>by
  by_cases h:(st (a+d)).nx<=j
  ·exact⟨a+d,by omega,by omega,h,h2⟩
  ·obtain⟨k,q1,q2,q3,q4⟩:=aRj j d a h1 (by omega);exact⟨k,q1,by omega,q3,q4⟩
theorem aMx(h:RStep P o ro s s')(hn:s.nx<s'.nx):ro.op.ht=true:=by
 cases h with
 |skip h1 h2=>subst h2;simp[AState.put]at hn
 |run h1 he x nbs fz h2 h3=>
  subst h2;cases hh:ro.op.ht with
  |true=>rfl
  |false=>obtain⟨rfl,_⟩:=h3 hh;simp[AState.put]at hn
 |eff h1 he h2=>exact aK2 he
theorem aFg(r:Nat->RO)(n:Nat):∀(d i:Nat),i+d=n->∃p,i<=p/\p<=n/\(∀j,i<=j->j<p->(r j).op.eff=false)/\(p<n->(r p).op.eff=true)
 |0,i,h=>⟨i,ω _,by omega,fun j a b=>by omega,fun h'=>by omega⟩
 |d+1,i,h=>by
  cases he:(r i).op.eff with
  |true=>exact⟨i,ω _,by omega,fun j a b=>by omega,fun _=>he⟩
  |false=>
   obtain⟨p,a,b,c,e⟩:=aFg r n d (i+1) (by omega);refine⟨p,by omega,b,fun j h1 h2=>?_,e⟩;by_cases ej:j=i
   ·subst ej;exact he
   ·exact c j (by omega) h2
theorem aW7(hst:∀i,i<ops.size->∃o,ops[i]?=some o/\ResO P ops N o (r i)/\RStep P o (r i) (st i) (st (i+1)))(hD:DrawOk ops r e)(h0:∀j,(st 0).nx<=j->(st 0).own j=none)
  (hstab:∀i x,i<ops.size->(r i).op.sArg=some x->∀h,((st i).ev x).hd?=some h->∀q,q<=ops.size->(∀j,j<q->(r j).op.eff=true->¬anc ops i j=true)->keepB (aXi (r i).op) ((st i).lk h) ((st q).lk h))
 (hN:E.N=N) (hI:Inv P ops r st e E listed a w) (hi:i∈Region.ready .any ops listed):
  wpOpIn (FR rd) 0 P ops Q i (Inv P ops r st e E (listed.setIfInBounds i true)) a w:=by
 subst hN;obtain⟨hun,oi,hoi,hall⟩:=mem_ready.1 hi;have hlt:i<ops.size:=(bb.1 hoi).1;have hunL:¬listed.getD i false=true:=by rw[zN hun];simp
 obtain⟨o',ho',hres,hstep⟩:=hst i hlt;rw[hoi]at ho';cases ho';obtain⟨hsize,hclosed,G,m,p,hpn,hp1,hp2,hS,htm,hasz,hdef,hfr1,hfr2,hframe,hbase,hown,hearly⟩:=hI;have haft:∀e∈cG ops i,listed.getD e false=true:=fun e he=>by unfold cG at he;rw[hoi]at he;obtain⟨ed,h1,rfl⟩:=cw.1 he;obtain⟨h1,h2⟩:=ξ.1 h1;exact hall ed (by simpa using h1) h2
 have hancL:∀j,anc ops j i=true->listed.getD j false=true:=fun j hj=>by
  obtain⟨e,he,rfl|h2⟩:=xK hD.lt hlt hj
  ·exact haft _ he
  ·exact wD hD.lt (L:=fun k=>listed.getD k false=true) hclosed e j (Nat.lt_trans (hD.lt i hlt e he) hlt) h2 (haft e he)
 have hancN:∀j,j<ops.size->anc ops i j=true->¬listed.getD j false=true:=fun j hj h hL=>
  hunL (wD hD.lt (L:=fun k=>listed.getD k false=true) hclosed j i hj h hL)
 have hpe:p<=e->e<ops.size->p≠e:=fun h he2 h'=>by subst h';obtain⟨zs,hz⟩:=hD.nw he2;have:=(hp2 he2).1;rw[hz]at this;cases this
 have hte:p<=e->e<ops.size->i≠e->∀t,(r e).dst=some t->t∉(r i).names:=fun h he2 hie t ht hin=>by obtain⟨t',ht',hus⟩:=hD.us he2;rw[ht]at ht';cases ht';have hlt2:p<e:=jy h (hpe h he2);obtain⟨g1,g2⟩:=hp2 (by omega);rw[hancL p (hus i hlt hie hin p hlt2 g1)]at g2;cases g2
 have hver:∀t∈(r i).names,Ver ops.size r (fun k=>listed.getD k false=true) t (qW r t i):=fun t ht=>by
  obtain⟨h1,h2⟩:=nN r t i;refine⟨cj (rP r t i) (Nat.le_of_lt hlt),?_,fun j h3 h4 h5 h6=>?_⟩
  ·rcases h1 with h1|⟨k,h3,h4,h5⟩
   ·exact .inl h1
   ·exact .inr ⟨k,h4,hancL k (hD.wr k i h3 hlt t h5 ht),h5⟩
  ·rcases fq j i with h7|h7|h7
   ·exact h2 j h3 h7 h6
   ·subst h7;exact hunL h5
   ·exact hancN j h4 (hD.rw i j h7 h4 t h6 ht) h5
 have henv:∀t∈(r i).names,AV.Rep G m ((st i).env t) (E.val a t):=fun t ht=>by
  rw[<-uH hst t i (Nat.le_of_lt hlt)];refine htm t _ (hver t ht) fun hq=>?_;rcases db e p with h|h
  ·exact h
  ·exfalso;have hle:=rP r t i;rcases(nN r t i).1 with h1|⟨k,h2,h3,h4⟩
   ·omega
   ·have hke:k=e:=by omega
    subst hke;exact hte h (by omega) (by omega) t h4 ht
 have hevs:∀x∈(r i).op.operands,AV.Rep G m ((st i).ev x) (a.eval x):=fun x hx=>by
  cases x with
  |tmp t=>
   have htN:t<E.N:=by simpa[Operand.inN]using hres.xs _ hx
   show AV.Rep G m ((st i).env t) (a.tmps.getD t undef);rw[<-Ent.val_lt htN];refine henv t ?_;unfold RO.names;refine List.mem_append_left _ (List.mem_append_right _ ?_);exact List.mem_filterMap.2 ⟨_,hx,rfl⟩
  |const v=>exact tO G m v
  |global g=>
   show AV.Rep G m (match aG2 g with|some ds=>.rop ds|none=>.any) (.pointer (some ⟨g,0,none⟩));cases hg:aG2 g with
   |none=>unfold AV.Rep;trivial
   |some ds=>unfold AV.Rep;exact⟨g,0,rfl,hS.gl g ds hg⟩
  |func f=>show AV.Rep G m (.clo f []) _;unfold AV.Rep;exact⟨#[],rfl,by simp[AV.RepL]⟩
 have hL':∀j,(listed.setIfInBounds i true).getD j false=true↔(j=i\/listed.getD j false=true):=fun j=>kW (by rw[hsize];exact hlt);have hclosed':∀j,j<ops.size->(listed.setIfInBounds i true).getD j false=true->∀e∈cG ops j,(listed.setIfInBounds i true).getD e false=true:=fun j hj h e he=>by
  rw[hL']at h|-;rcases h with rfl|h
  ·exact .inr (haft e he)
  ·exact .inr (hclosed j hj h e he)
 have htm':∀{G':Gh} {m':HM} {v:Value},Gh.le G G'->HM.le m m'->(i≠e->∀d,(r i).dst=some d->AV.Rep G' m' ((st (i+1)).env d) v)->(i=e->e<p->∀d,(r i).dst=some d->AV.Rep G' m' ((st (i+1)).env d) v)->
   ∀t q,Ver ops.size r (fun k=>(listed.setIfInBounds i true).getD k false=true) t q->(q=e+1->e<p)->AV.Rep G' m' ((st q).env t) (E.val (a.put oi.dst v) t):=fun{G' m' v} hG hm hd0 hd1 t q hv hqe=>by
  rw[zH t hasz hres.lt,<-hres.dst];by_cases e':(r i).dst=some t
  ·rw[if_pos e'];have hq:i<q:=by
    rcases db i q with h|h
    ·exact h
    ·exact absurd e' (hv.last i h hlt ((hL' i).2 (.inl rfl)))
   rcases hv.by_ with rfl|⟨k,rfl,hk,hkd⟩
   ·omega
   ·have hki:k=i:=by
     rcases fq k i with h|h|h
     ·omega
     ·exact h
     ·exfalso;have hkn:k<ops.size:=by have:=hv.le;omega
      have:=hancN k hkn (hD.wr i k h hkn t e' (by unfold RO.names;rw[hkd];simp));rcases(hL' k).1 hk with h'|h'
      ·omega
      ·exact this h'
    subst hki;by_cases hke:k=e
    ·exact hd1 hke (hqe (by rw[hke])) t e'
    ·exact hd0 hke t e'
  ·rw[if_neg e'];refine AV.Rep.mono hG hm _ _ (htm t q ⟨hv.le,hv.by_.imp id fun⟨k,h1,h2,h3⟩=>⟨k,h1,?_,h3⟩,fun j h1 h2 h3=>hv.last j h1 h2 ((hL' j).2 (.inr h3))⟩ hqe);rcases(hL' k).1 h2 with rfl|h2
   ·exact absurd h3 e'
   ·exact h2
 have hnxmono:∀k,k<ops.size->(st k).nx<=(st (k+1)).nx:=fun k hk=>by obtain⟨o,_,_,hs⟩:=hst k hk;exact aEr hs
 have hnames:∀k j,k<ops.size->(st k).nx<=j->j<(st (k+1)).nx->(r k).op.ht=true:=fun k j hk h1 h2=>by obtain⟨o,_,_,hs⟩:=hst k hk;exact aMx hs (by omega)
 have heffp:(r i).op.eff=true->p=i:=fun he=>by
  rcases fq p i with h|h|h
  ·exfalso;obtain⟨h1,h2⟩:=hp2 (by omega);have hie:i≠e:=fun hie=>by subst hie;obtain⟨zs,hz⟩:=hD.nw hlt;rw[hz]at he;cases he
   rw[hancL p (hD.eh p i h hlt hie h1 (aK2 he))]at h2;cases h2
  ·exact h
  ·exact absurd (hp1 i h he) hunL
 have heffe:(r i).op.eff=true->i≠e:=fun he hie=>by subst hie;obtain⟨zs,hz⟩:=hD.nw hlt;rw[hz]at he;cases he
 have hvalE:p<=e->e<ops.size->i≠e->∀t v,(r e).dst=some t->E.val (a.put oi.dst v) t=E.val a t:=fun h he2 hie t v ht=>by rw[zH t hasz hres.lt,<-hres.dst,if_neg];intro h';exact hte h he2 hie t ht (by unfold RO.names;rw[h'];simp)
 have hlE:∀{b sz:Nat} {es:List (List DV)} {G':Gh} {m':HM},BlkRep G' m' (.row true 1 es) b sz w->b<w.heap.size:=fun hb=>by unfold BlkRep at hb;obtain⟨vs,T,h1,_⟩:=hb;exact(bb.1 h1).1
 have hearlyGo:p<=e->i≠e->∀{G':Gh} {m':HM} {w':World} {v:Value},(∀b,b<w.heap.size->¬Own m b->w'.heap[b]?=w.heap[b]?/\∀o,G' b o=G b o)->(∀b,b<w.heap.size->¬Own m b->¬Own m' b)->Gh.le G G'->
   (e<ops.size->listed.getD e false=true->p<=e->aUh r st e E G m a w)->(e<ops.size->listed.getD e false=true->aUh r st e E G' m' (a.put oi.dst v) w'):=fun hpe2 hie {G' m' w' v} h1 h2 hG h he2 hl=>by obtain⟨t,b,sz,es,a1,a2,a3,a4,a5,a6,a7,a8⟩:=h he2 hl hpe2;have hbl:b<w.heap.size:=hlE (a5 m);have hno:¬Own m b:=a7;obtain⟨g1,g2⟩:=h1 b hbl hno;exact⟨t,b,sz,es,a1,a2,a3,a4,fun m''=>(a5 m'').mono hG (HM.le.refl _) g2 g1,a6,h2 b hbl hno,by rw[hvalE hpe2 he2 hie t v a1];exact a8⟩
 have forEff:(r i).op.eff=true->∀{G':Gh} {m':HM} {w':World} {v:Value},Sim G' m' (st (i+1)).lk w'->Fr (Own E.m0) (Own E.m0) E.G0 G' E.w0 w'->KeepO w w'->Gh.le G G'->HM.le m m'->
   (∀b,b<w.heap.size->¬Own m b->w'.heap[b]?=w.heap[b]?/\∀o,G' b o=G b o)->(∀b,b<w.heap.size->¬Own m b->¬Own m' b)->
   (∀j,SameB (E.m0 (.B j)) (m' (.B j)))->(∀j,(j<(st i).nx\/(st (i+1)).nx<=j)->m (.O j)=none->m' (.O j)=none)->(∀h l b,m' h=some l->b∈l.blks->E.w0.heap.size<=b\/Own E.m0 b)->
   (∀d,(r i).dst=some d->AV.Rep G' m' ((st (i+1)).env d) v)->Inv P ops r st e E (listed.setIfInBounds i true) (a.put oi.dst v) w':=fun he {G' m' w' v} hS' hF' hkeep hG' hmle hEh hEo hbase' hmO hown' hd=>by
  have hpi:=heffp he;have hie:=heffe he;subst hpi;obtain⟨p',hp'1,hp'2,hp'3,hp'4⟩:=aFg r ops.size (ops.size-(p+1)) (p+1) (by omega);have hnone:∀j,(st (p+1)).nx<=j->j<(st p').nx->m' (.O j)=none:=fun j h1 h2=>by
   obtain⟨k,q1,q2,q3,q4⟩:=aRj (st:=st) j (p'-(p+1)) (p+1) h1 (by rw[show p+1+(p'-(p+1))=p' by omega];exact h2);have hkn:k<ops.size:=by omega
   refine hmO j (.inr h1) (hfr1 k hkn ?_ j q3 q4);by_cases hke:k=e
   ·exact .inr ⟨hke,by omega⟩
   ·have hkL:¬listed.getD k false=true:=hancN k hkn (hD.eh p k (by omega) hkn hke he (hnames k j hkn q3 q4));exact .inl (by simpa using hkL)
  obtain⟨G2,hS2,hF2⟩:=aM4 hst hp'1 hp'2 (fun j h1 h2=>hp'3 j h1 h2) hnone hS';have hp'u:p'<ops.size->(listed.setIfInBounds p true).getD p' false=false:=fun h=>by
   have hp'e:p'≠e:=fun hh=>by subst hh;obtain⟨zs,hz⟩:=hD.nw h;have:=hp'4 h;rw[hz]at this;cases this
   have hkL:¬listed.getD p' false=true:=hancN p' h (hD.eh p p' (by omega) h hp'e he (aK2 (hp'4 h)));have:¬(listed.setIfInBounds p true).getD p' false=true:=by
    rw[hL'];rintro(h1|h1)
    ·omega
    ·exact hkL h1
   simpa using this
  have hlist':∀j,j<p'->(r j).op.eff=true->(listed.setIfInBounds p true).getD j false=true:=fun j h1 h2=>by
   rw[hL'];rcases fq j p with h3|h3|h3
   ·exact .inr (hp1 j h3 h2)
   ·exact .inl h3
   ·rw[hp'3 j (by omega) h1]at h2;cases h2
  have hFr2:Fr (Own E.m0) (Own E.m0) E.G0 G2 E.w0 w':=hF'.step hF2 (fun _ _ q=>q.elim) (fun b hb q=>by
   obtain⟨x,l,hx,hl⟩:=q;rcases hown' x l b hx hl with h1|h1
   ·omega
   ·exact h1)
  have hfr1':∀k,k<ops.size->((listed.setIfInBounds p true).getD k false=false\/(k=e/\p<=e))->∀j,(st k).nx<=j->j<(st (k+1)).nx->m' (.O j)=none:=fun k hk hkL j h1 h2=>by
   have hkp:k≠p:=fun e'=>by
    subst e';rcases hkL with hkL|⟨hkL,_⟩
    ·rw[(hL' k).2 (.inl rfl)]at hkL;cases hkL
    ·exact hie hkL
   have hold:listed.getD k false=false\/(k=e/\p<=e):=hkL.imp (fun hkL=>by
    have hkL':¬listed.getD k false=true:=fun h=>by rw[(hL' k).2 (.inr h)]at hkL;cases hkL
    simpa using hkL') id
   refine hmO j ?_ (hfr1 k hk hold j h1 h2);rcases jz hkp with h3|h3
   ·exact .inl (dn h2 (by have:=pO hst (p-(k+1)) (k+1) (by omega);rwa[show k+1+(p-(k+1))=p by omega]at this))
   ·exact .inr (cj (by have:=pO hst (k-(p+1)) (p+1) (by omega);rwa[show p+1+(k-(p+1))=k by omega]at this) h1)
  have hfr2':∀j,(st ops.size).nx<=j->m' (.O j)=none:=fun j h=>hmO j (.inr (cj (by have:=pO hst (ops.size-(p+1)) (p+1) (by omega);rwa[show p+1+(ops.size-(p+1))=ops.size by omega]at this) h)) (hfr2 j h);have hdef':Marks1 E.dt (E.w0.heap.size+E.sk) E.nd (a.put oi.dst v).defers w'/\E.J ((st 0).env E.N) w':=⟨by rw[nD];exact hdef.1.keep hkeep,E.Jkeep _ _ _ hdef.2 hkeep⟩;by_cases hab:e<ops.size/\listed.getD e false=true/\p<=e/\e<p'
  ·
   obtain⟨he2,hle,hpe2,hep'⟩:=hab;have hlt2:p<e:=jy hpe2 (hpe hpe2 he2);obtain⟨t,b,sz,es,a1,a2,a3,a4,a5,a6,a7,a8⟩:=hearlyGo hpe2 hie (v:=v) hEh hEo hG' hearly he2 hle;have hn0:m' (.O (st e).nx)=none:=hfr1' e he2 (.inr ⟨rfl,hpe2⟩) _ (ω _) (by omega);have hlk:(st p').lk (.O (st e).nx)=some (.row true 1 es):=by
    have:=aQ2 hst (p'-(e+1)) (e+1) (by omega) (fun k h1 h2=>by
     have hk1:=hp'3 k (by omega) (by omega);refine⟨hk1,?_⟩;cases hht:(r k).op.ht with
     |false=>rfl
     |true=>
      exfalso;obtain⟨q,q1,q2,q3⟩:=hD.bt he2 k (by omega) (by omega) hht hk1;rw[hp'3 q (by omega) (by omega)]at q3;cases q3)
    rw[show e+1+(p'-(e+1))=p' by omega]at this;rw[this];exact a3
   have hbl:b<w'.heap.size:=by have:=a5 m;unfold BlkRep at this;obtain⟨vs,T,h1,_⟩:=this;exact(bb.1 h1).1
   have hno:¬Own m' b:=a7;have hS3:=hS2.know hn0 hlk (fun m''=>(a5 m'').mono hF2.le (HM.le.refl _) (fun o=>hF2.gh b hbl hno o) rfl) a7;have hle3:=xO (loc:=.at_ b sz) hn0;refine⟨by simp[hsize],hclosed',G2,aH m' (.O (st e).nx) (.at_ b sz),p',hp'2,hlist',fun h=>⟨hp'4 h,hp'u h⟩,hS3,fun t' q hv _=>?_,by rw[pR];exact hasz,hdef',fun k hk hkL j h1 h2=>?_,fun j h=>?_,hFr2,fun j=>?_,fun x l b' hx hl=>?_,fun _ _ h=>by omega⟩
   ·by_cases hqe:q=e+1
    ·subst hqe;have htt:t'=t:=by
      rcases hv.by_ with h1|⟨k,h1,_,h3⟩
      ·omega
      ·have:k=e:=by omega
       subst this;rw[a1]at h3;cases h3;rfl
     subst htt;rw[a4,a8];exact aFt (b:=b) (sz:=sz) (by simp[aH])
    ·exact AV.Rep.mono hF2.le hle3 _ _ (htm' hG' hmle (fun _=>hd) (fun h=>absurd h hie) t' q hv (fun h=>absurd h hqe))
   ·have hke:k≠e:=fun hh=>by
     subst hh;rcases hkL with h|⟨_,h⟩
     ·rw[(hL' k).2 (.inr hle)]at h;cases h
     ·omega
    have:j≠(st e).nx:=fun hh=>by
     subst hh;rcases jz hke with h3|h3
     ·have:=pO hst (e-(k+1)) (k+1) (by omega);rw[show k+1+(e-(k+1))=e by omega]at this;omega
     ·have:=pO hst (k-(e+1)) (e+1) (by omega);rw[show e+1+(k-(e+1))=k by omega]at this;omega
    unfold aH;rw[if_neg (fun h=>this (by cases h;rfl))];exact hfr1' k hk (hkL.imp id fun h=>absurd h.1 hke) j h1 h2
   ·have:=pO hst (ops.size-(e+1)) (e+1) (by omega);rw[show e+1+(ops.size-(e+1))=ops.size by omega]at this;unfold aH;rw[if_neg (fun h'=>by cases h';omega)];exact hfr2' j h
   ·unfold aH;rw[if_neg (fun h=>by cases h)];exact hbase' j
   ·unfold aH at hx;split at hx
    ·cases hx;rw[bk.1 hl];exact .inl a6
    ·exact hown' x l b' hx hl
  ·refine⟨by simp[hsize],hclosed',G2,m',p',hp'2,hlist',fun h=>⟨hp'4 h,hp'u h⟩,hS2,fun t' q hv hqe=>?_,by rw[pR];exact hasz,hdef',fun k hk hkL=>hfr1' k hk (hkL.imp id fun h=>⟨h.1,by omega⟩),hfr2',hFr2,hbase',hown',fun he2 hle hp'e=>?_⟩
   ·refine AV.Rep.mono hF2.le (HM.le.refl m') _ _ (htm' hG' hmle (fun _=>hd) (fun h=>absurd h hie) t' q hv fun hq=>?_);have h1:=hqe hq;rcases db e p with h2|h2
    ·exact h2
    ·exfalso;refine hab ⟨by have:=hv.le;omega,?_,h2,h1⟩;rcases hv.by_ with h3|⟨k,h3,h4,_⟩
     ·omega
     ·have:k=e:=by omega
      subst this;rcases(hL' k).1 h4 with h5|h5
      ·exact absurd h5.symm hie
      ·exact h5
   ·have hle':listed.getD e false=true:=by
     rcases(hL' e).1 hle with h5|h5
     ·exact absurd h5.symm hie
     ·exact h5
    obtain⟨t,b,sz,es,a1,a2,a3,a4,a5,a6,a7,a8⟩:=hearlyGo (by omega) hie (v:=v) hEh hEo hG' hearly he2 hle';have hbl:b<w'.heap.size:=by have:=a5 m;unfold BlkRep at this;obtain⟨vs,T,h1,_⟩:=this;exact(bb.1 h1).1
    have hno:¬Own m' b:=a7;exact⟨t,b,sz,es,a1,a2,a3,a4,fun m''=>(a5 m'').mono hF2.le (HM.le.refl _) (fun o=>hF2.gh b hbl hno o) rfl,a6,a7,a8⟩
 have forRest:(r i).op.eff=false->(i=e->e<p)->∀{G':Gh} {m':HM} {w':World} {v:Value},Sim G' m' (st p).lk w'->Fr (Own E.m0) (Own E.m0) E.G0 G' E.w0 w'->KeepO w w'->Gh.le G G'->HM.le m m'->
   (∀b,b<w.heap.size->¬Own m b->w'.heap[b]?=w.heap[b]?/\∀o,G' b o=G b o)->(∀b,b<w.heap.size->¬Own m b->¬Own m' b)->
   (∀j,m' (.B j)=m (.B j))->(∀j,(j<(st i).nx\/(st (i+1)).nx<=j)->m' (.O j)=m (.O j))->(∀h l b,m' h=some l->b∈l.blks->E.w0.heap.size<=b\/Own E.m0 b)->
   (∀d,(r i).dst=some d->AV.Rep G' m' ((st (i+1)).env d) v)->Inv P ops r st e E (listed.setIfInBounds i true) (a.put oi.dst v) w':=fun he hiep {G' m' w' v} hS' hF' hkeep hG' hm' hEh hEo hmB hmO hown' hd=>by
  refine⟨by simp[hsize],hclosed',G',m',p,hpn,fun j h1 h2=>(hL' j).2 (.inr (hp1 j h1 h2)),fun h=>⟨(hp2 h).1,?_⟩,hS',htm' hG' hm' (fun _=>hd) (fun _ _=>hd),by rw[pR];exact hasz,⟨by rw[nD];exact hdef.1.keep hkeep,E.Jkeep _ _ _ hdef.2 hkeep⟩,fun k hk hkL j h1 h2=>?_,fun j h=>?_,hF',fun j=>by rw[hmB];exact hbase j,hown',fun he2 hle hpe2=>?_⟩
  ·have:¬(listed.setIfInBounds i true).getD p false=true:=by
    rw[hL'];rintro(h1|h1)
    ·subst h1;rw[(hp2 h).1]at he;cases he
    ·rw[(hp2 h).2]at h1;cases h1
   simpa using this
  ·have hki:k≠i:=fun e'=>by
    subst e';rcases hkL with hkL|⟨hkL,h⟩
    ·rw[(hL' k).2 (.inl rfl)]at hkL;cases hkL
    ·have:=hiep hkL;omega
   have hold:listed.getD k false=false\/(k=e/\p<=e):=hkL.imp (fun hkL=>by
    have hkL':¬listed.getD k false=true:=fun h=>by rw[(hL' k).2 (.inr h)]at hkL;cases hkL
    simpa using hkL') id
   rw[hmO j ?_]
   ·exact hfr1 k hk hold j h1 h2
   ·rcases jz hki with h3|h3
    ·exact .inl (dn h2 (by have:=pO hst (i-(k+1)) (k+1) (by omega);rwa[show k+1+(i-(k+1))=i by omega]at this))
    ·exact .inr (cj (by have:=pO hst (k-(i+1)) (i+1) (by omega);rwa[show i+1+(k-(i+1))=k by omega]at this) h1)
  ·rw[hmO j (.inr (cj (by have:=pO hst (ops.size-(i+1)) (i+1) (by omega);rwa[show i+1+(ops.size-(i+1))=ops.size by omega]at this) h))];exact hfr2 j h
  ·have hie:i≠e:=fun h=>by have:=hiep h;omega
   have hle':listed.getD e false=true:=by
    rcases(hL' e).1 hle with h5|h5
    ·exact absurd h5.symm hie
    ·exact h5
   exact hearlyGo hpe2 hie hEh hEo hG' hearly he2 hle'
 have hyield:∀(j t:Nat),(ops[j]?).bind (·.dst)=some t->yielded ops a.tmps j=match a.tmps.getD t undef with|.bool b=>some b|_=>none:=fun j t ht=>by
  unfold yielded;rw[ht];simp only[jg,cd];cases a.tmps[t]?with
  |none=>rfl
  |some v=>cases v<;>rfl
 have hgname:∀t want,(r i).guard=some (t,want)->t∈(r i).names:=fun t want h=>by unfold RO.names;rw[h];simp
 have hwT:aD3 (r i) (st i).env->Region.wanted oi (yielded ops a.tmps)=true:=fun hg=>by
  have hgd:=hres.guard;cases hog:oi.guard with
  |none=>simp[Region.wanted,hog]
  |some g=>
   obtain⟨j,want⟩:=g;rw[hog]at hgd;obtain⟨t,ht,htN,hgd⟩:=hgd;unfold aD3 at hg;rw[hgd]at hg;have hv:=zL (hg▸henv t (hgname t want hgd));rw[Ent.val_lt htN]at hv;simp only[Region.wanted,hog,hyield j t ht,hv];cases want<;>rfl
 have hwF:sZ (r i) (st i).env->Region.wanted oi (yielded ops a.tmps)=false:=fun hg=>by
  have hgd:=hres.guard;cases hog:oi.guard with
  |none=>rw[hog]at hgd;unfold sZ at hg;rw[hgd]at hg;exact hg.elim
  |some g=>
   obtain⟨j,want⟩:=g;rw[hog]at hgd;obtain⟨t,ht,htN,hgd⟩:=hgd;unfold sZ at hg;rw[hgd]at hg;rcases hg with⟨c,hc,hne⟩|⟨v,hc⟩
   ·have hv:=zL (hc▸henv t (hgname t want hgd));rw[Ent.val_lt htN]at hv;simp only[Region.wanted,hog,hyield j t ht,hv];cases c<;>cases want<;>first|rfl|exact absurd rfl hne
   ·have hv:=henv t (hgname t want hgd);rw[hc,Ent.val_lt htN]at hv;unfold AV.Rep DV.Rep at hv;simp only[Region.wanted,hog,hyield j t ht,hv];rfl
 unfold wpOpIn;rw[hoi];simp only;cases hstep with
 |skip h1 h2=>
  rw[hwF h1];refine⟨fun f _=>lF rd f,?_⟩;have hun':∀(m':HM) d,(r i).dst=some d->AV.Rep G m' ((st (i+1)).env d) undef:=fun m' d hd=>by rw[h2];show AV.Rep G m' (bR (st i).env (r i).dst .un d) undef;rw[hd];show AV.Rep G m' (upd (st i).env d .un d) undef;unfold upd;rw[if_pos rfl];unfold AV.un AV.Rep DV.Rep;rfl
  have hlk:(st (i+1)).lk=(st i).lk:=by rw[h2,hZ,eH,cD]
  have hnx:(st (i+1)).nx=(st i).nx:=by rw[h2];rfl
  cases he:(r i).op.eff with
  |true=>
   have hpi:=heffp he;exact forEff he (by rw[hlk,<-hpi];exact hS) hframe (KeepO.refl w) (Gh.le.refl G) (HM.le.refl m) (fun _ _ _=>⟨rfl,fun _=>rfl⟩) (fun _ _ h=>h) hbase (fun _ _ h=>h) hown (hun' m)
  |false=>
   refine forRest he (fun hie=>?_) hS hframe (KeepO.refl w) (Gh.le.refl G) (HM.le.refl m) (fun _ _ _=>⟨rfl,fun _=>rfl⟩) (fun _ _ h=>h) (fun _=>rfl) (fun _ _=>rfl) hown (hun' m);exfalso;subst hie;unfold sZ at h1;rw[hD.gd hlt]at h1;exact h1
 |eff h1 he h2=>
  rw[hwT h1];have hpi:=heffp he;have hO:∀b,b<E.w0.heap.size->Own m b->Own E.m0 b:=fun b hb ⟨y,l,hy,hl⟩=>by
   rcases hown y l b hy hl with h|h
   ·omega
   ·exact h
  refine kS (h2.run G m w a.eval (fun _=>rfl) (hpi▸hS) hevs (fun j q1 q2=>hfr1 i hlt (.inl (zN hun)) _ q1 q2)) fun v w' hp'=>?_;obtain⟨G1,m1,hS1,hr1,hF1,hle1,hB1,hO1,hnew1⟩:=hp';refine forEff he hS1 (hframe.step hF1 hO hO) (hF1.keep fun b q=>hS.data q) hF1.le hle1 (fun b hb hno=>⟨hF1.heap b hb hno,fun o=>hF1.gh b hb hno o⟩) (fun b hb hno ⟨x,l,hx,hl⟩=>?_) (fun j=>(hbase j).trans (hB1 j)) (fun j hj hn=>(hO1 j hj).none hn) (fun x l b hj hl=>?_) hr1
  ·rcases hnew1 x l b hx hl with q|q
   ·omega
   ·exact hno q
  ·rcases hnew1 x l b hj hl with q|q
   ·exact .inl (cj hframe.size q)
   ·rcases db b E.w0.heap.size with q2|q2
    ·exact .inr (hO b q2 q)
    ·exact .inl q2
 |run h1 he x nbs fz h2 h3 h5 h4 h6=>
  rw[hwT h1];have hnx:(st (i+1)).nx=(st i).nx+nbs.length:=by rw[h2];rfl
  by_cases hearly2:i=e/\p<=e
  ·
   obtain⟨hie,hpe2⟩:=hearly2;subst hie;obtain⟨zs,hz⟩:=hD.nw hlt;obtain⟨rfl,es,rfl,rfl,hnew⟩:=h6 (by rw[hz];rfl);obtain⟨t,ht,_⟩:=hD.us hlt;refine kS (hnew G m (st p).lk w a.eval hS) fun v w' hp'=>?_;obtain⟨rfl,vs,T,rfl,hblk⟩:=hp';have hFa:Fr (fun _=>False) (fun _=>False) G G w (w.alloc (.cells vs T)):=Fr.alloc _;refine⟨by simp[hsize],hclosed',G,m,p,hpn,fun j h1 h2=>(hL' j).2 (.inr (hp1 j h1 h2)),fun h=>⟨(hp2 h).1,?_⟩,hS.alloc _,htm' (Gh.le.refl G) (HM.le.refl m) (fun h=>absurd rfl h) (fun _ h=>by omega),by rw[pR];exact hasz,⟨by rw[nD];exact hdef.1.keep (hFa.keep fun b q=>q.elim),E.Jkeep _ _ _ hdef.2 (hFa.keep fun b q=>q.elim)⟩,fun k hk hkL j g1 g2=>?_,hfr2,hframe.step hFa (fun _ _ q=>q.elim) (fun _ _ q=>q.elim),hbase,hown,fun _ _ _=>?_⟩
   ·have:¬(listed.setIfInBounds i true).getD p false=true:=by
     rw[hL'];rintro(g1|g1)
     ·exact hpe hpe2 hlt g1
     ·rw[(hp2 h).2]at g1;cases g1
    simpa using this
   ·by_cases hki:k=i
    ·subst hki;exact hfr1 k hk (.inl (zN hun)) j g1 g2
    ·refine hfr1 k hk (.inl ?_) j g1 g2;rcases hkL with hkL|⟨hkL,_⟩
     ·have hkL':¬listed.getD k false=true:=fun h=>by rw[(hL' k).2 (.inr h)]at hkL;cases hkL
      simpa using hkL'
     ·exact absurd hkL hki
   ·refine⟨t,w.heap.size,vs.size,es,ht,by rw[hnx];rfl,?_,?_,hblk,hframe.size,fun⟨x,l,hx,hl⟩=>?_,?_⟩
    ·rw[h2,hZ,cD];simp[lkN]
    ·rw[h2];show bR (st i).env (r i).dst _ t=_;rw[ht];show upd (st i).env t _ t=_;unfold upd;rw[if_pos rfl]
    ·have:=hS.ltG hx hl;omega
    ·rw[zH t hasz hres.lt,<-hres.dst,if_pos ht]
  have hiep:i=e->e<p:=fun h=>Nat.lt_of_not_le fun h'=>hearly2 ⟨h,h'⟩;have hip:(r i).op.ht=true->i<p/\∀j,i<=j->j<p->(r j).op.eff=false:=fun hht=>by
   have hlt':i<p:=by
    rcases fq p i with h|h|h
    ·exfalso;obtain⟨g1,g2⟩:=hp2 (by omega);rw[hancL p (hD.eh p i h hlt (fun hh=>by have:=hiep hh;omega) g1 hht)]at g2;cases g2
    ·exfalso;obtain⟨g1,g2⟩:=hp2 (by omega);rw[h]at g1;rw[g1]at he;cases he
    ·exact h
   refine⟨hlt',fun j g1 g2=>?_⟩;cases hej:(r j).op.eff with
   |false=>rfl
   |true=>
    exfalso;rcases Nat.eq_or_lt_of_le g1 with g3|g3
    ·subst g3;rw[hej]at he;cases he
    ·exact hancN j (by omega) (hD.he i j g3 (by omega) hht hej) (hp1 j g2 hej)
  have hnone:=aEi hst h0;have hls:(r i).op.ht=true->LkSame (st i).lk (st p).lk:=fun hht=>by
   obtain⟨g1,g2⟩:=hip hht;obtain⟨hs,hh⟩:=aC5 hst (p-i) i (by omega) (fun j a1 a2=>g2 j a1 (by omega));rw[show i+(p-i)=p by omega]at hh;intro h b hb;have:=hh h (fun j a1 _ e=>by
    subst e;have:(st i).own j=some b:=hb;rw[hnone i (Nat.le_of_lt hlt) j a1]at this;cases this)
   rw[hb]at this;split at this
   ·exact⟨_,this,.inr rfl⟩
   ·exact⟨_,this,.inl rfl⟩
  have hneed:Need (r i).op (st i).ev (st i).lk (st p).lk:=by
   unfold Need;split
   ·rename_i x hl;exact fun h hx=>hstab i x hlt hl h hx p hpn fun j hj he ha=>hancN j (by omega) ha (hp1 j hj he)
   ·exact hls
  refine kS (h4 G m w a.eval (fun _=>rfl) (st p).lk hneed hS hevs (fun j hj=>hfr1 i hlt (.inl (zN hun)) _ (by omega) (by omega))) fun v w' hp'=>?_;obtain⟨G1,m1,hS1,hr1,hF1,hold,hnew⟩:=hp';have hm1:HM.le m m1:=fun h loc hx=>.inl (.inl (by
   rw[hold h (fun j hj e=>by subst e;rw[hfr1 i hlt (.inl (zN hun)) _ (by omega) (by omega)]at hx;cases hx)];exact hx))
  have hfin:∃G2,Sim G2 m1 (st p).lk w'/\Fr (fun _=>False) (fun b=>w.heap.size<=b\/Own m b) G1 G2 w' w':=by
   cases hht:(r i).op.ht with
   |false=>
    obtain⟨rfl,rfl⟩:=h3 hht;rw[eH,cD]at hS1;exact⟨G1,hS1,Fr.refl _ _ _ _⟩
   |true=>
    obtain⟨g1,g2⟩:=hip hht;obtain⟨hs,hh⟩:=aC5 hst (p-(i+1)) (i+1) (by omega) (fun j a1 a2=>g2 j (by omega) (by omega));rw[show i+1+(p-(i+1))=p by omega]at hh;have hnew1:(st (i+1)).lk=lkN (lkF (st i).lk fz) (st i).nx nbs:=by rw[h2,hZ]
    let ns:List Hd:=((c8 nbs.length).map fun j=>Hd.O ((st i).nx+j)).filter (fun h=>decide (h∈hs));obtain⟨G2,k1,k2,k3⟩:=hS1.freeze ns;refine⟨G2,k1.congr (fun h hh1=>?_),rfl,.same rfl rfl,rfl,ω _,fun _ _ _=>rfl,fun b hb hnb o=>k3 b (fun h hin sz e=>?_) o,k2⟩
    ·by_cases hc:∃j,j<nbs.length/\h=.O ((st i).nx+j)
     ·obtain⟨j,hj,rfl⟩:=hc;have e1:(st p).lk (.O ((st i).nx+j))=if Hd.O ((st i).nx+j)∈hs then((st (i+1)).lk (.O ((st i).nx+j))).map Blk.frz else(st (i+1)).lk (.O ((st i).nx+j)):=
       hh _ (fun k a1 _ e=>by cases e;omega)
      have e2:(st (i+1)).lk (.O ((st i).nx+j))=lkN (lkF (st p).lk fz) (st i).nx nbs (.O ((st i).nx+j)):=by rw[hnew1];simp only[lkN];rw[if_pos ⟨by omega,by omega⟩,if_pos ⟨by omega,by omega⟩]
      have e3:(Hd.O ((st i).nx+j)∈ns)↔Hd.O ((st i).nx+j)∈hs:=by simp only[ns,ξ,cw,e8,decide_eq_true_eq];exact⟨fun h=>h.2,fun h=>⟨⟨j,hj,rfl⟩,h⟩⟩
      unfold lkF at*;rw[e1,e2];by_cases e4:Hd.O ((st i).nx+j)∈hs
      ·rw[if_pos e4,if_pos (e3.2 e4)]
      ·rw[if_neg e4,if_neg (fun h=>e4 (e3.1 h))]
     ·have hc':∀j,j<nbs.length->h≠.O ((st i).nx+j):=fun j hj e=>hc ⟨j,hj,e⟩;have hns:h∉ns:=fun hin=>by simp only[ns,ξ,cw,e8]at hin;obtain⟨⟨j,hj,rfl⟩,_⟩:=hin;exact hc' j hj rfl
      have e1:lkN (lkF (st p).lk fz) (st i).nx nbs h=lkF (st p).lk fz h:=by
       cases h with
       |B j=>rfl
       |O j=>
        simp only[lkN];rw[if_neg (fun hcc=>hc' (j-(st i).nx) (by omega) (by rw[show(st i).nx+(j-(st i).nx)=j by omega]))]
      show(st p).lk h=lkF (lkN (lkF (st p).lk fz) (st i).nx nbs) ns h;have e2:lkF (lkN (lkF (st p).lk fz) (st i).nx nbs) ns h=lkN (lkF (st p).lk fz) (st i).nx nbs h:=by show(if h∈ns then _ else _)=_;rw[if_neg hns]
      rw[e2,e1];show(st p).lk h=if h∈fz then((st p).lk h).map Blk.frz else(st p).lk h
      by_cases e3:h∈fz
      ·rw[if_pos e3];have hex:=h5 h e3;obtain⟨b,hb⟩:=da.1 hex;have hsmall:∀j,(st i).nx<=j->h≠.O j:=fun j a1 e=>by subst e;have:(st i).own j=some b:=hb;rw[hnone i (Nat.le_of_lt hlt) j a1]at this;cases this
       have e4:(st (i+1)).lk h=(some b).map Blk.frz:=by
        rw[hnew1];have:lkN (lkF (st i).lk fz) (st i).nx nbs h=lkF (st i).lk fz h:=by
         cases h with
         |B j=>rfl
         |O j=>simp only[lkN];rw[if_neg (fun hcc=>hsmall j hcc.1 rfl)]
        rw[this];show(if h∈fz then((st i).lk h).map Blk.frz else(st i).lk h)=_;rw[if_pos e3,hb]
       have e5:=hh h (fun j a1 _=>hsmall j (by omega));rw[e4]at e5;rw[e5];split<;>simp[Blk.frz_frz]
      ·rw[if_neg e3]
    ·simp only[ns,ξ,cw,e8]at hin;obtain⟨⟨j,hj,rfl⟩,_⟩:=hin;exact hnb (.inl (hnew j _ b hj e (bk.2 rfl)))
  obtain⟨G2,hS2,hF2⟩:=hfin;have hF12:Fr (Own E.m0) (Own E.m0) E.G0 G2 E.w0 w':=by
   have hO:∀b,b<E.w0.heap.size->Own m b->Own E.m0 b:=fun b hb ⟨y,l,hy,hl⟩=>by
    rcases hown y l b hy hl with h|h
    ·omega
    ·exact h
   refine(hframe.step hF1 (fun _ _ q=>q.elim) hO).step hF2 (fun _ _ q=>q.elim) (fun b hb q=>?_);rcases q with q|q
   ·have:=hframe.size;omega
   ·exact hO b hb q
  refine forRest he hiep hS2 hF12 (hF1.keep fun b q=>q.elim) (hF1.le.trans hF2.le) hm1 (fun b hb hno=>⟨hF1.heap b hb (fun q=>q),fun o=>?_⟩) (fun b hb hno ⟨y,l,hy,hl⟩=>?_) (fun j=>hold _ (fun _ _ e=>by cases e)) (fun j hj=>hold _ (fun k hk e=>by cases e;omega)) (fun x l b hj hl=>?_) (fun d hd=>?_)
  ·have hb1:b<w'.heap.size:=dn hb hF1.size;rw[hF2.gh b hb1 (fun q=>q.elim (fun q=>by omega) hno) o];exact hF1.gh b hb hno o
  ·by_cases hc:∃k,k<nbs.length/\y=.O ((st i).nx+k)
   ·obtain⟨k,hk,rfl⟩:=hc;have:=hnew k l b hk hy hl;omega
   ·rw[hold y (fun k hk e'=>hc ⟨k,hk,e'⟩)]at hy;exact hno ⟨_,l,hy,hl⟩
  ·by_cases hc:∃k,k<nbs.length/\x=.O ((st i).nx+k)
   ·obtain⟨k,hk,rfl⟩:=hc;exact .inl (cj hframe.size (hnew k l b hk hj hl))
   ·rw[hold x (fun k hk e=>hc ⟨k,hk,e⟩)]at hj;exact hown x l b hj hl
  ·refine AV.Rep.mono hF2.le (HM.le.refl m1) _ _ ?_;rw[h2];show AV.Rep G1 m1 (bR (st i).env (r i).dst x d) v;rw[hd];show AV.Rep G1 m1 (upd (st i).env d x d) v;unfold upd;rw[if_pos rfl];exact hr1
end
theorem aHs{α:Type}{p p':α->Bool}:∀{l:List α},(∀x∈l,p' x=true->p x=true)->(∃x∈l,p x=true/\p' x=false)->l.countP p'<l.countP p
 |[],_,h=>by obtain⟨x,hx,_⟩:=h;simp at hx
 |y::l,h1,h2=>by
  have hle:l.countP p'<=l.countP p:=List.countP_mono_left (fun x hx=>h1 x (by simp[hx]));obtain⟨x,hx,hp,hp'⟩:=h2;rcases br.1 hx with rfl|hx
  ·simp[hp,hp'];omega
  ·have ih:=aHs (fun z hz=>h1 z (by simp[hz])) ⟨x,hx,hp,hp'⟩;rw[List.countP_cons,List.countP_cons];have:=h1 y (by simp);cases e1:p y<;>cases e2:p' y<;>simp_all<;>omega
theorem tT{rd:Option Nat}{P:Program}{md:Region.Mode}{ops:Array Oper}{Q:Exit->Act->World->Prop}(I:Array Bool->Act->World->Prop)(hsz:∀listed a w,I listed a w->listed.size=ops.size)
  (hstep:∀listed a w i,I listed a w->i∈Region.ready md ops listed->wpOpIn (FR rd) 0 P ops Q i (I (listed.setIfInBounds i true)) a w) (hend:∀listed a w,I listed a w->Region.ready md ops listed=[]->Q .normal a w):
  ∀(fuel:Nat) (listed:Array Bool) (a:Act) (w:World),(c8 ops.size).countP (fun j=>!listed.getD j true)<=fuel->I listed a w->wpAnyIn (FR rd) 0 P md ops Q fuel listed a w
 |0,listed,a,w,hc,hI=>by
  have hr:Region.ready md ops listed=[]:=by rw[List.eq_nil_iff_forall_not_mem];intro i hi;obtain⟨h1,o,h2,_⟩:=mem_ready.1 hi;have hlt:i<ops.size:=(bb.1 h2).1;have:0<(c8 ops.size).countP (fun j=>!listed.getD j true):=List.countP_pos_iff.2 ⟨i,by simpa using hlt,by simp[h1]⟩;omega
  exact⟨hr,hend _ _ _ hI hr⟩
 |fuel+1,listed,a,w,hc,hI=>by
  refine⟨fun hr=>hend _ _ _ hI hr,fun i hi=>?_⟩;obtain⟨h1,o,h2,_⟩:=mem_ready.1 hi;have hlt:i<ops.size:=(bb.1 h2).1;refine wpOpIn_mono (fun a' w' h=>tT I hsz hstep hend fuel _ a' w' ?_ h) (hstep _ _ _ i hI hi);have hil:i<listed.size:=by rw[hsz _ _ _ hI];exact hlt
  have:(c8 ops.size).countP (fun j=>!(listed.setIfInBounds i true).getD j true)<(c8 ops.size).countP (fun j=>!listed.getD j true):=by
   refine aHs (fun j _ hj=>?_) ⟨i,by simpa using hlt,by simp[h1],by simp[hil]⟩;by_cases e:i=j
   ·subst e;simp[hil]at hj
   ·simpa only[cd,gm e]using hj
  omega
theorem aOm{r:Nat->RO}(hst:∀i,i<ops.size->∃o,ops[i]?=some o/\ResO P ops N o (r i)/\RStep P o (r i) (st i) (st (i+1)))(hN:E.N=N):(st (qW r E.N ops.size)).env E.N=(st 0).env E.N:=by
 have:qW r E.N ops.size=0:=by
  rcases(nN r E.N ops.size).1 with h|⟨k,hk,_,hd⟩
  ·exact h
  ·exfalso;obtain⟨o,_,hres,_⟩:=hst k hk;have h9:E.N<N:=hres.lt E.N (by rw[<-hres.dst];exact hd);rw[hN]at h9;exact iu _ h9
 rw[this]
theorem aHv{r:Nat->RO}(hm:P.follows .mixedOrders=true)(hD:DrawOk ops r e)(hst:∀i,i<ops.size->∃o,ops[i]?=some o/\ResO P ops N o (r i)/\RStep P o (r i) (st i) (st (i+1)))
  (hstab:∀i x,i<ops.size->(r i).op.sArg=some x->∀h,((st i).ev x).hd?=some h->∀q,q<=ops.size->(∀j,j<q->(r j).op.eff=true->¬anc ops i j=true)->keepB (aXi (r i).op) ((st i).lk h) ((st q).lk h))
 {Q:Exit->AState->Prop} (hN:E.N=N) (hst0:st 0=s) (hK':Q .normal (st ops.size)) (hA:ASim E s a w):(Code.region id ops true).wpIn (FR rd) 0 P (aQo E Q) a w:=by
 obtain⟨G,m,hA⟩:=hA;have h0:∀j,(st 0).nx<=j->(st 0).own j=none:=by rw[hst0];exact hA.nxOk
 have hfresh:∀j,(st 0).nx<=j->m (.O j)=none:=by rw[hst0];exact hA.fresh
 refine wpIn_region_any hm (tT (Inv P ops r st e E) (fun _ _ _ hI=>hI.size) (fun listed a w i hI hi=>aW7 hst hD h0 hstab hN hI hi) (fun listed a w hI hr=>?_) _ _ _ _ ?_ ?_)
 ·
  obtain⟨hsize,hclosed,G,m,p,hpn,hp1,hp2,hS,htm,hasz,hdef,hfr1,hfr2,hframe,hbase,hown,_⟩:=hI;have hall:∀j,j<ops.size->listed.getD j false=true:=by
   intro j
   induction j using gv with
   |_ j ih=>
    intro hj;cases hl:listed.getD j false with
    |true=>rfl
    |false=>
     exfalso;have hjs:j<listed.size:=by rw[hsize];exact hj
     have:j∈Region.ready .any ops listed:=mem_ready.2 ⟨by simp[hjs]at hl|-;exact hl,ops[j],by simp[hj],fun e he hb=>by
      have hin:e.on∈cG ops j:=by unfold cG;rw[show ops[j]?=some ops[j] by simp[hj]];exact cw.2 ⟨e,ξ.2 ⟨by simpa using he,hb⟩,rfl⟩
      have hlt:=hD.lt j hj _ hin;exact ih e.on hlt (by omega)⟩
     rw[hr]at this;cases this
  have hp:p=ops.size:=by
   rcases db p ops.size with h|h
   ·have:=(hp2 h).2;rw[hall p h]at this;cases this
   ·omega
  subst hp;refine⟨_,hK',G,m,hS,fun t=>?_,hasz,hdef.1,(by rw[<-uH hst E.N ops.size (ω _),aOm hst hN];exact hdef.2),hfr2,hframe,hbase,hown,hA.noO,aEi hst h0 _ (ω _)⟩;rw[<-uH hst t ops.size (ω _)];obtain⟨g1,g2⟩:=nN r t ops.size;exact htm t _ ⟨rP r t _,g1.imp (fun x=>x) fun⟨k,a,b,c⟩=>⟨k,b,hall k a,c⟩,fun j a b _=>g2 j a b⟩ (fun hq=>by have:=rP r t ops.size;omega)
 ·refine cj List.countP_le_length (by simp)
 ·obtain⟨p,hp1,hp2,hp3,hp4⟩:=aFg r ops.size ops.size 0 (by omega);have hS0:Sim G m (st 0).lk w.drew:=by rw[hst0];exact hA.sim.drew
  obtain⟨G2,hS2,hF2⟩:=aM4 hst (Nat.zero_le p) hp2 (fun j a b=>hp3 j a b) (fun j a _=>hfresh j a) hS0;have hf:∀j,(ey ops.size false).getD j false=false:=fun j=>by
   rcases db j ops.size with h|h
   ·simp[h]
   ·simp[h]
  refine⟨by simp,(fun j _ h=>by rw[hf]at h;cases h),G2,m,p,hp2,(fun j a b=>by rw[hp3 j (Nat.zero_le _) a]at b;cases b),fun h=>⟨hp4 h,hf p⟩,hS2,fun t q hv _=>?_,hA.size,⟨hA.defers.keep fun _ _ h _=>h,by rw[hst0];exact E.Jkeep _ _ _ hA.jok fun _ _ h _=>h⟩,
   fun k hk _ j a _=>hfresh j (cj (by have:=pO hst k 0 (by omega);simpa using this) a),fun j a=>hfresh j (cj (by have:=pO hst ops.size 0 (by omega);simpa using this) a),?_,hA.base,hA.own,fun _ h _=>by rw[hf]at h;cases h⟩
  ·rcases hv.by_ with rfl|⟨k,_,hk,_⟩
   ·rw[hst0];exact AV.Rep.mono hF2.le (HM.le.refl m) _ _ (hA.env t)
   ·rw[hf]at hk;cases hk
  ·have hd:Fr (Own E.m0) (Own E.m0) E.G0 G E.w0 w.drew:=⟨hA.frame.os,hA.frame.tape.drew,hA.frame.output,hA.frame.size,hA.frame.heap,hA.frame.gh,hA.frame.le⟩;exact hd.step hF2 (fun _ _ q=>q.elim) (fun b hb q=>hA.ownOld hb q)
def isS:ROp->Bool
 |.loadS _ _=>true
 |.faddrS _ _=>true
 |.nilcS _=>true
 |.lenS _ _=>true
 |.slsA _ _ _ _=>true
 |.arrP _ _=>true
 |_=>false
theorem aQp(h:op.sArg=some x):isS op=true:=by cases op<;>first|rfl|(cases h;done)
def bEv(ros:List RO):Bool:=ros.any fun r=>isS r.op
theorem CodeOk.draw(hm:P.follows .mixedOrders=true)(h:rY P ops N ops.toList ros)(hd:aEb ops ros=true)(hs:bEv ros=false):CodeOk P N (.region id ops true) (.reg true ros):=fun rd Y E Q s a w hY hN hc hA=>by
 obtain⟨st,hst0,hlen,hK,hsteps⟩:=aT6 h hc;have hlen':ros.length=ops.size:=by simpa using hlen
 have hget:∀i,i<ops.size->ros[i]?=some (ros.getD i default):=fun i hi=>by rw[bc,μ (by omega)];rfl
 refine aHv (r:=fun i=>ros.getD i default) hm (aBt hd) (fun i hi=>?_) (fun i x hi he=>?_) hN hst0 (by simpa using hK) hA
 ·obtain⟨g1,g2⟩:=hsteps i ops[i] _ (by simp[hi]) (hget i hi);exact⟨_,by simp[hi],g1,g2⟩
 ·exfalso;have:=List.any_eq_false.1 hs _ (bu (hget i hi));exact this (aQp he)
def aHd(ops:Array Oper)(ros:List RO):Bool:=(ros.getD (ops.size-1) default).op.eff&&(c8 ops.size).all fun i=>!isS (ros.getD i default).op||anc ops i (ops.size-1)
theorem CodeOk.drawS(hm:P.follows .mixedOrders=true)(h:rY P ops N ops.toList ros)(hd:aEb ops ros=true):CodeOk P N (.region id ops true) (.regS (aHd ops ros) ros):=fun rd Y E Q s a w hY hN hc hA=>by
 obtain⟨hs,hc⟩:=hc;obtain⟨st,hst0,hlen,hK,hkeep,hsteps⟩:=aT4 h hc;have hlen':ros.length=ops.size:=by simpa using hlen
 have hget:∀i,i<ops.size->ros[i]?=some (ros.getD i default):=fun i hi=>by rw[bc,μ (by omega)];rfl
 have hall:∀x,x∈hs->∀q,q<=ops.size->(aHd ops ros=false\/q<ops.size)->keepB (aTb ros) ((st 0).lk x) ((st q).lk x):=fun x hx q=>by
  induction q with
  |zero=>exact fun _ _=>keepB.refl _ _
  |succ q ih=>exact fun hq hl=>(ih (by omega) (hl.imp (fun x=>x) fun h=>by omega)).trans (hkeep q (by rw[en];omega) (hl.imp (fun x=>x) fun h=>by rw[en];omega) x hx)
 refine aHv (r:=fun i=>ros.getD i default) hm (aBt hd) (fun i hi=>?_) (fun i x hi he=>?_) hN hst0 (by simpa using hK) hA
 ·obtain⟨g1,g2,_⟩:=hsteps i ops[i] _ (by simp[hi]) (hget i hi);exact⟨_,by simp[hi],g1,g2⟩
 ·obtain⟨_,_,g3⟩:=hsteps i ops[i] _ (by simp[hi]) (hget i hi);intro h hx q hq hbe;have he':(ros.getD i default).op.sArg=some x:=he;have hl:∀k,k<=ops.size->(∀j,j<k->(ros.getD j default).op.eff=true->¬anc ops i j=true)->aHd ops ros=false\/k<ops.size:=fun k hk hb=>by
   cases e:aHd ops ros with
   |false=>exact .inl rfl
   |true=>
    refine .inr (jy hk fun ek=>?_);unfold aHd at e;rw[ν,c6]at e;have:=e.2 i (e8.2 hi);rw[aQp he']at this;exact hb (ops.size-1) (by omega) e.1 (by simpa using this)
  unfold aUd at g3;simp only[he']at g3;have hin:=g3 h hx;exact((hall h hin i (by omega) (.inr hi)).symm.trans (hall h hin q hq (hl q hq hbe))).weak fun e=>List.any_eq_true.2 ⟨_,bu (hget i hi),e⟩
def drP(r:RO):Bool:=
 r.guard.isNone&&match r.op with
 |.callP _ _=>true
 |.pan _=>false
 |op=>!op.ht&& !op.eff&& !isS op
def aSy:ROp->Bool
 |.callP _ _=>true
 |_=>false
def aWd(ops:Array Oper)(σ:List Nat)(ros:List RO):Bool:=
 (c8 ops.size).all (fun j=>(cG ops j).all fun e=>decide (e<j))&&
 decide (σ.length=ops.size)&&σ.all (fun i=>decide (i<ops.size))&&(c8 ops.size).all (fun i=>σ.contains i)&&ros.all drP&&
 (c8 ops.size).all fun q=>(c8 ops.size).all fun p=>
  (!(decide (p<q))||(!anc ops (σ.getD q 0) (σ.getD p 0)&& !(σ.getD p 0==σ.getD q 0)&&(!aSy (ros.getD p default).op||anc ops (σ.getD p 0) (σ.getD q 0))&&((ros.getD p default).dst.isNone|| !((ros.getD p default).dst==(ros.getD q default).dst))))&&
  (match(ros.getD p default).dst with
  |some d=>!(aJ0 (ros.getD q default).op.operands).contains d||anc ops (σ.getD p 0) (σ.getD q 0)
  |none=>true)
structure DpOk (ops:Array Oper) (g:Nat->Nat) (r:Nat->RO):Prop where
 lt:∀j,j<ops.size->∀e∈cG ops j,e<j
 bd:∀p,p<ops.size->g p<ops.size
 sur:∀i,i<ops.size->∃p,p<ops.size/\g p=i
 pure:∀p,p<ops.size->drP (r p)=true
 ord:∀p q,p<q->q<ops.size->¬anc ops (g q) (g p)=true
 inj:∀p q,p<q->q<ops.size->g p≠g q
 call:∀p q,p<q->q<ops.size->aSy (r p).op=true->anc ops (g p) (g q)=true
 dst:∀p q,p<q->q<ops.size->∀d,(r p).dst=some d->(r q).dst≠some d
 use:∀p q,p<ops.size->q<ops.size->∀d,(r p).dst=some d->d∈aJ0 (r q).op.operands->anc ops (g p) (g q)=true
theorem aSn(hl:ros.length=ops.size)(h:aWd ops σ ros=true):DpOk ops (fun p=>σ.getD p 0) (fun p=>ros.getD p default):=by
 unfold aWd at h;simp only[ν,c6,e8,decide_eq_true_eq]at h;obtain⟨⟨⟨⟨⟨h1,h2⟩,h3⟩,h4⟩,h5⟩,h6⟩:=h;have hg:∀p,p<ops.size->σ[p]?=some (σ.getD p 0):=fun p hp=>by rw[bc,μ (by omega)];rfl
 have hr:∀p,p<ops.size->ros[p]?=some (ros.getD p default):=fun p hp=>by rw[bc,μ (by omega)];rfl
 refine⟨h1,fun p hp=>h3 _ (bu (hg p hp)),fun i hi=>?_,fun p hp=>h5 _ (bu (hr p hp)),fun p q a b hc=>?_,fun p q a b hc=>?_,fun p q a b hc=>?_,fun p q a b d hd he=>?_,fun p q a b d hd he=>?_⟩
 ·have:=h4 i hi;rw[jk,decide_eq_true_eq]at this;obtain⟨p,hp,e⟩:=List.mem_iff_getElem.1 this;exact⟨p,by omega,by show σ.getD p 0=i;rw[bc,μ hp];exact e⟩
 ·have:=(h6 q b p (by omega)).1;simp only[a,decide_true,fv,ji,ν,cz]at this;rw[this.1.1.1]at hc;cases hc
 ·have:=(h6 q b p (by omega)).1;simp only[a,decide_true,fv,ji,ν,cz]at this;have h7:=this.1.1.2;rw[beq_eq_false_iff_ne]at h7;exact h7 hc
 ·have:=(h6 q b p (by omega)).1;simp only[a,decide_true,fv,ji,ν,cz,e9]at this;exact this.1.2.resolve_left (by show¬aSy (ros.getD p default).op=false;rw[show aSy (ros.getD p default).op=true from hc];simp)
 ·have:=(h6 q b p (by omega)).1;simp only[a,decide_true,fv,ji,ν,cz,e9]at this;have hd':(ros.getD p default).dst=some d:=hd;have he':(ros.getD q default).dst=some d:=he;have:=this.2;rw[hd',he']at this;simp at this
 ·have:=(h6 q b p a).2;have hd':(ros.getD p default).dst=some d:=hd;rw[hd']at this;simp only[e9,cz]at this;refine this.resolve_left fun e=>?_;rw[jk,decide_eq_false_iff_not]at e;exact e he
inductive DStep (P:Program) (o:Oper) (ro:RO) (s s':AState):Prop
 |pure (hc:aSy ro.op=false) (h:RStep P o ro s s')
 |call (f:Operand) (args:List Operand) (fn:FuncId) (caps:List AV) (r:AV) (h1:ro.op=.callP f args) (h2:s.ev f=.clo fn caps) (h3:AV.flat r=true) (h4:ACall P fn (AV.convL s.lk (fun _=>none) (args.map s.ev++caps)) [] r [] []) (h5:s'=s.put ro.dst r [] [])
def bDj(P:Program)(ro:RO)(s:AState)(v:Value):Prop:=
 ∃f args fn caps,ro.op=.callP f args/\s.ev f=.clo fn caps/\aNl P fn (AV.convL s.lk (fun _=>none) (args.map s.ev++caps)) v
theorem aWj{P:Program}{ops:Array Oper}{N:Nat}:∀{os:List Oper} {ros:List RO} {s:AState} {K:AState->Prop} {Pn:Value->AState->Prop},rY P ops N os ros->(∀r∈ros,drP r=true)->mT P true ros s K Pn->
  ∃(st:Nat->AState) (k:Nat),st 0=s/\ros.length=os.length/\k<=os.length/\(∀(i:Nat) (o:Oper) (r:RO),os[i]?=some o->ros[i]?=some r->ResO P ops N o r/\(i<k->DStep P o r (st i) (st (i+1))))/\
   ((k=os.length/\K (st k))\/∃r v,ros[k]?=some r/\bDj P r (st k) v/\Pn v (st k))
 |[],[],s,K,Pn,_,_,h=>⟨fun _=>s,0,rfl,rfl,ω _,fun i o r hi=>by simp at hi,.inl ⟨rfl,h⟩⟩
 |[],_::_,_,_,_,hr,_,_=>hr.elim
 |_::_,[],_,_,_,hr,_,_=>hr.elim
 |o::os,r::ros,s,K,Pn,hr,hd,h=>by
  obtain⟨h1,h2⟩:=hr;have hlens:∀(os:List Oper) (ros:List RO),rY P ops N os ros->ros.length=os.length:=fun os=>by
   induction os with
   |nil=>intro ros h;cases ros with
    |nil=>rfl
    |cons _ _=>exact h.elim
   |cons _ _ ih=>intro ros h;cases ros with
    |nil=>exact h.elim
    |cons _ _=>simp[ih _ h.2]
  have hlen:=hlens _ _ h2;have hres:∀(os:List Oper) (ros:List RO),rY P ops N os ros->∀(i:Nat) (o:Oper) (r:RO),os[i]?=some o->ros[i]?=some r->ResO P ops N o r:=fun os=>by
   induction os with
   |nil=>intro ros _ i o r hi;simp at hi
   |cons o' os ih=>
    intro ros h i o r hi hi';cases ros with
    |nil=>exact h.elim
    |cons r' ros=>match i with
     |0=>simp at hi hi';subst hi;subst hi';exact h.1
     |i+1=>exact ih ros h.2 i o r (by simpa using hi) (by simpa using hi')
  have go:∀s',mT P true ros s' K Pn->DStep P o r s s'->∃(st:Nat->AState) (k:Nat),st 0=s/\(r::ros).length=(o::os).length/\k<=(o::os).length/\(∀(i:Nat) (o':Oper) (r':RO),(o::os)[i]?=some o'->(r::ros)[i]?=some r'->ResO P ops N o' r'/\(i<k->DStep P o' r' (st i) (st (i+1))))/\
   ((k=(o::os).length/\K (st k))\/∃r' v,(r::ros)[k]?=some r'/\bDj P r' (st k) v/\Pn v (st k)):=fun s' hs' hstep=>by
   obtain⟨st,k,g1,g2,g3,g4,g5⟩:=aWj h2 (fun x hx=>hd x (by simp[hx])) hs';refine⟨fun i=>match i with|0=>s|i+1=>st i,k+1,rfl,by simp[g2],by simpa using g3,fun i o' r' hi hi'=>?_,?_⟩
   ·match i with
    |0=>
     simp at hi hi';subst hi;subst hi';refine⟨h1,fun _=>?_⟩;show DStep P o r s (st 0);rw[g1];exact hstep
    |i+1=>
     obtain⟨q1,q2⟩:=g4 i o' r' (by simpa using hi) (by simpa using hi');exact⟨q1,fun h=>q2 (by omega)⟩
   ·rcases g5 with⟨e,hK⟩|⟨r',v,e,hp,hK⟩
    ·exact .inl ⟨by simp[e],hK⟩
    ·exact .inr ⟨r',v,by simpa using e,hp,hK⟩
  unfold mT at h;split at h
  ·rename_i f args heq;obtain⟨hg,fn,caps,hf,h⟩:=h;rcases h with⟨rr,nbs,hfl,hcall,hK⟩|⟨pv,hpan,hK⟩
   ·obtain⟨hf2,rfl⟩:=hfl rfl;refine go _ hK (.call f args fn caps rr heq hf hf2 hcall ?_);rw[AV.flat_ren rr hf2,if_pos ⟨hf2,rfl⟩];rfl
   ·refine⟨fun _=>s,0,rfl,by simp[hlen],by simp,fun i o' r' hi hi'=>⟨?_,fun h=>absurd h (Nat.not_lt_zero i)⟩,.inr ⟨r,pv,rfl,⟨f,args,fn,caps,heq,hf,hpan⟩,hK⟩⟩;exact hres (o::os) (r::ros) ⟨h1,h2⟩ i o' r' hi hi'
  ·rename_i x heq;have:=hd r (by simp);unfold drP at this;rw[heq]at this;simp at this
  ·obtain⟨s',hK,hs⟩:=aLz h1 h;exact go s' hK (.pure (by
    rename_i hne _;cases e:r.op with
    |callP f args=>exact absurd e (hne f args)
    |_=>rfl) hs)
theorem aMv(hd:drP ro=true)(hc:aSy ro.op=false):ro.guard=none/\ro.op.ht=false/\ro.op.eff=false:=by
 unfold drP at hd;rw[ν,gj]at hd;obtain⟨hg,hd⟩:=hd;refine⟨hg,?_⟩;split at hd
 ·rename_i e;rw[e]at hc;cases hc
 ·cases hd
 ·simp only[ν,cz]at hd;exact⟨hd.1.1,hd.1.2⟩
theorem DStep.put{P:Program}{o:Oper}{ro:RO}{s s':AState}(hd:drP ro=true)(h:DStep P o ro s s'):∃x,s'=s.put ro.dst x [] []:=by
 cases h with
 |call f args fn caps r h1 h2 h3 h4 h5=>exact⟨r,h5⟩
 |pure hc h=>
  obtain⟨hg,hht,heff⟩:=aMv hd hc;cases h with
  |skip h1 h2=>exact⟨_,h2⟩
  |eff h1 he h2=>rw[he]at heff;cases heff
  |run h1 he x nbs fz h2 h3 h5 h4 h6=>
   obtain⟨rfl,rfl⟩:=h3 hht;exact⟨x,h2⟩
theorem aSo{s2:AState}{l:List Operand}(h:∀t∈aJ0 l,s2.env t=s.env t):∀x∈l,s2.ev x=s.ev x:=fun x hx=>by
 cases x with
 |tmp t=>exact h t (List.mem_filterMap.2 ⟨_,hx,rfl⟩)
 |_=>rfl
theorem DStep.sound{s2:AState}(hr:ResO P ops E.N o ro)(hd:drP ro=true)(h:DStep P o ro s s')(hlk:s2.lk=s.lk)
  (hev:∀x∈ro.op.operands,s2.ev x=s.ev x) (hA:ASim E s2 a w) (hQ:∀x a' w',s'=s.put ro.dst x [] []->ASim E (s2.put ro.dst x [] []) a' w'->next a' w'):o.wpIn (FR rd) 0 P a w next Q:=by
 obtain⟨G,m,hA'⟩:=hA;cases h with
 |call f args fn caps r h1 h2 h3 h4 h5=>
  obtain e0|⟨b,op0,hop,hmk⟩:=hr.op
  ·rw[h1]at e0;cases e0
  rw[h1]at hmk;rcases vW hmk with e|e
  case inr=>rw[e]at hop;exact(aDq hop).elim
  rw[e]at hop;obtain⟨c,ho,hc,rfl⟩:=sD hop;have hxs:=hr.xs;rw[h1]at hxs hev;have hrf:=hA'.evs f (hxs f (by simp[ROp.operands]));rw[hev f (by simp[ROp.operands]),h2]at hrf;unfold AV.Rep at hrf;obtain⟨vs,hv,hcaps⟩:=hrf;have hargs:AV.RepL G m (c.args.toList.map s.ev) (c.args.toList.map a.eval):=AV.RepL_map (fun x hx=>by
   have hx':x∈(ROp.callP f c.args.toList).operands:=by simp only[ROp.operands,br];exact .inr hx
   rw[<-hev x hx'];exact hA'.evs x (hxs x hx'))
  have hrep:AV.RepL G m (c.args.toList.map s.ev++caps) (c.args.map a.eval++vs).toList:=by rw[du,dx];exact AV.RepL_append hargs hcaps
  have hS:=hA'.sim;refine kS (uJ ho hc hv (aTc (ks:=[]) (n:=s2.nx) h4 (LkSame.refl _) (hlk▸hS) hrep (fun j hj=>by simp at hj))) fun v w' hp=>?_;refine hQ r _ _ h5 ?_;rw[AV.flat_ren r h3,if_pos ⟨h3,rfl⟩,<-hlk]at hp;rw[hr.dst];exact hA'.step (dst:=o.dst) hr.lt hp
 |pure hcp h=>
  obtain⟨hg,hht,heff⟩:=aMv hd hcp;cases h with
  |skip h1 h2=>
   unfold sZ at h1;rw[hg]at h1;exact h1.elim
  |eff h1 he h2=>rw[he]at heff;cases heff
  |run h1 he x nbs fz h2 h3 h5 h4 h6=>
   obtain⟨rfl,rfl⟩:=h3 hht;have hneed:Need ro.op s.ev s.lk s2.lk:=by rw[hlk];exact Need.refl _ _ _
   refine kS (h4 G m w a.eval (fun v=>rfl) s2.lk hneed hA'.sim (fun y hy=>by rw[<-hev y hy];exact hA'.evs y (hr.xs y hy)) (fun j hj=>by simp at hj)) fun v w' hp=>?_;refine hQ x _ _ h2 ?_;rw[hr.dst];refine hA'.step (dst:=o.dst) hr.lt ?_;obtain⟨G',m',p1,p2,p3,p4,p5⟩:=hp;exact⟨G',m',by rw[eH]at p1|-;exact p1,p2,p3,fun h hh=>p4 h (fun j hj=>by simp at hj),fun j b sz hj=>by simp at hj⟩
theorem aFd:∀(ros:List RO) (s:AState),(vP ros s).bs=s.bs/\(vP ros s).own=s.own/\(vP ros s).nx=s.nx/\∀t,((∃r∈ros,r.dst=some t)/\(vP ros s).env t=.any)\/((∀r∈ros,r.dst≠some t)/\(vP ros s).env t=s.env t)
 |[],s=>⟨rfl,rfl,rfl,fun t=>.inr ⟨fun r h=>(by cases h),rfl⟩⟩
 |r::ros,s=>by
  obtain⟨h1,h2,h3,h4⟩:=aFd ros (s.put r.dst .any [] []);refine⟨h1,h2,h3,fun t=>?_⟩;rcases h4 t with⟨⟨x,hx,hd⟩,h⟩|⟨h,h'⟩
  ·exact .inl ⟨⟨x,by simp[hx],hd⟩,h⟩
  ·by_cases e:r.dst=some t
   ·refine .inl ⟨⟨r,by simp,e⟩,h'.trans ?_⟩;show bR s.env r.dst .any t=_;rw[e];simp[bR,upd]
   ·refine .inr ⟨fun x hx=>?_,h'.trans ?_⟩
    ·rcases br.1 hx with rfl|hx
     ·exact e
     ·exact h x hx
    ·show bR s.env r.dst .any t=_;cases hd:r.dst with
     |none=>rfl
     |some d=>simp only[bR,upd];rw[if_neg (fun e'=>e (by rw[hd,e']))]
theorem ASim.less(h:ASim E s a w)(h1:s'.bs=s.bs)(h2:s'.own=s.own)(h3:s'.nx=s.nx)(h4:∀t,s'.env t=s.env t\/(t<E.N/\s'.env t=.any)):ASim E s' a w:=by
 obtain⟨G,m,h⟩:=h;have hlk:s'.lk=s.lk:=by funext x;cases x<;>simp[AState.lk,h1,h2]
 refine⟨G,m,by rw[hlk];exact h.sim,fun t=>?_,h.size,h.defers,?_,by rw[h3];exact h.fresh,h.frame,h.base,h.own,h.noO,by rw[h3,h2];exact h.nxOk⟩
 ·rcases h4 t with e|⟨_,e⟩
  ·rw[e];exact h.env t
  ·rw[e];unfold AV.Rep;trivial
 ·rcases h4 E.N with e|⟨e,_⟩
  ·rw[e];exact h.jok
  ·exact absurd e (iu _)
def SLp(k:Nat)(g:Nat->Nat)(r:Nat->RO)(L:Nat->Prop)(t:Nat):Prop:=∃p,p<k/\L (g p)/\(r p).dst=some t
noncomputable def SL(st:Nat->AState)(k:Nat)(g:Nat->Nat)(r:Nat->RO)(L:Nat->Prop):AState:=
 {st 0 with env:=fun t=>@ite _ (SLp k g r L t) (iw _) ((st k).env t) ((st 0).env t)}
theorem aDx{r:Nat->RO}(h:SLp k g r L t):(SL st k g r L).env t=(st k).env t:=by show@ite _ _ (iw _) _ _=_;exact if_pos h
theorem aA0{r:Nat->RO}(h:¬SLp k g r L t):(SL st k g r L).env t=(st 0).env t:=by show@ite _ _ (iw _) _ _=_;exact if_neg h
theorem aNw{r:Nat->RO}(hm:P.follows .mixedOrders=true)(hD:DpOk ops g r)(hk:k<=ops.size)
  (hst:∀p,p<ops.size->∃o,ops[g p]?=some o/\ResO P ops N o (r p)/\(p<k->DStep P o (r p) (st p) (st (p+1)))) (hros:∀p,p<ops.size->r p∈ros) (hros2:∀x∈ros,∃p,p<ops.size/\x=r p)
 {Q:Exit->AState->Prop} (hN:E.N=N) (hst0:st 0=s)
  (hK:(k=ops.size/\Q .normal (st k))\/(k<ops.size/\∃v,bDj P (r k) (st k) v/\Q (.panic [{v:=v,recovered:=false}]) (vP ros (st k)))) (hA:ASim E s a w):(Code.region id ops true).wpIn (FR rd) 0 P (aQo E Q) a w:=by
 subst hN;have hput:∀p,p<k->∃x,st (p+1)=(st p).put (r p).dst x [] []:=fun p hp=>by obtain⟨o,_,_,h⟩:=hst p (by omega);exact(h hp).put (hD.pure p (by omega))
 have hblk:∀p,p<=k->(st p).bs=(st 0).bs/\(st p).own=(st 0).own/\(st p).nx=(st 0).nx:=fun p=>by
  induction p with
  |zero=>exact fun _=>⟨rfl,rfl,rfl⟩
  |succ p ih=>
   intro hp;obtain⟨h1,h2,h3⟩:=ih (by omega);obtain⟨x,e⟩:=hput p (by omega);rw[e];exact⟨h1,h2,h3⟩
 have hlk:∀p,p<=k->(st p).lk=(st 0).lk:=fun p hp=>by obtain⟨h1,h2,_⟩:=hblk p hp;funext x;cases x<;>simp[AState.lk,h1,h2]
 have henv:∀(d p:Nat) (t:Nat),p+d<=k->(∀q,p<=q->q<p+d->(r q).dst≠some t)->(st (p+d)).env t=(st p).env t:=fun d=>by
  induction d with
  |zero=>exact fun p t _ _=>rfl
  |succ d ih=>
   intro p t h1 h2;obtain⟨x,e⟩:=hput (p+d) (by omega);rw[<-ih p t (by omega) (fun q a b=>h2 q a (by omega))];show(st (p+d+1)).env t=_;rw[e];show bR (st (p+d)).env (r (p+d)).dst x t=_;have:=h2 (p+d) (by omega) (by omega);cases hd:(r (p+d)).dst with
   |none=>rfl
   |some d'=>simp only[bR,upd];rw[if_neg (fun e'=>this (by rw[hd,e']))]
 have hfin:∀p t,p<k->(r p).dst=some t->(st k).env t=(st (p+1)).env t:=fun p t hp hd=>by have:=henv (k-(p+1)) (p+1) t (by omega) (fun q a b e=>hD.dst p q (by omega) (by omega) t hd e);rwa[show p+1+(k-(p+1))=k by omega]at this
 have hini:∀p t,p<=k->(∀q,q<p->(r q).dst≠some t)->(st p).env t=(st 0).env t:=fun p t hp h=>by have:=henv p 0 t (by omega) (fun q _ b=>h q (by omega));rwa[show 0+p=p by omega]at this
 have hdlt:∀p,p<ops.size->∀d,(r p).dst=some d->d<E.N:=fun p hp d hd=>by obtain⟨o,_,h,_⟩:=hst p hp;exact h.lt d (by rw[<-h.dst];exact hd)
 have hSLlk:∀L,(SL st k g r L).lk=(st 0).lk:=fun L=>by funext x;cases x<;>rfl
 let I:Array Bool->Act->World->Prop:=fun listed a w=>listed.size=ops.size/\(∀j,j<ops.size->listed.getD j false=true->∀e∈cG ops j,listed.getD e false=true)/\
  (∀p,p<ops.size->listed.getD (g p) false=true->p<k)/\ASim E (SL st k g r fun i=>listed.getD i false=true) a w
 refine wpIn_region_any hm (tT I (fun _ _ _ hI=>hI.1) (fun listed a w i hI hi=>?_) (fun listed a w hI hr=>?_) _ _ _ _ ?_ ?_)
 ·obtain⟨hsize,hclosed,hbef,hA⟩:=hI;obtain⟨hun,oi,hoi,hall⟩:=mem_ready.1 hi;have hlt:i<ops.size:=(bb.1 hoi).1;have haft:∀e∈cG ops i,listed.getD e false=true:=fun e he=>by unfold cG at he;rw[hoi]at he;obtain⟨ed,h1,rfl⟩:=cw.1 he;obtain⟨h1,h2⟩:=ξ.1 h1;exact hall ed (by simpa using h1) h2
  have hancL:∀j,anc ops j i=true->listed.getD j false=true:=fun j hj=>by
   obtain⟨e,he,rfl|h2⟩:=xK hD.lt hlt hj
   ·exact haft _ he
   ·exact wD hD.lt (L:=fun k=>listed.getD k false=true) hclosed e j (Nat.lt_trans (hD.lt i hlt e he) hlt) h2 (haft e he)
  obtain⟨p,hp,rfl⟩:=hD.sur i hlt;have hpk:p<=k:=by
   rcases db k p with h|h
   ·exfalso;rcases hK with⟨e,_⟩|⟨hks,v,hpan,_⟩
    ·omega
    ·obtain⟨f,args,fn,caps,e,_⟩:=hpan;exact absurd (hbef k hks (hancL _ (hD.call k p h hp (by rw[e];rfl)))) (iu _)
   ·exact h
  obtain⟨o,ho,hres,hstep⟩:=hst p hp;rw[hoi]at ho;cases ho;have hg:=hD.pure p hp;have hgn:(r p).guard=none:=by unfold drP at hg;rw[ν,gj]at hg;exact hg.1
  have hev:∀x∈(r p).op.operands,(SL st k g r fun i=>listed.getD i false=true).ev x=(st p).ev x:=by
   refine aSo fun t ht=>?_;by_cases h:SLp k g r (fun i=>listed.getD i false=true) t
   ·rw[aDx h];obtain⟨q,hq,hL,hd⟩:=h;have ha:=hD.use q p (by omega) hp t hd ht;have hqp:q<p:=by
     rcases db q p with h|h
     ·exact h
     ·rcases db p q with h'|h'
      ·exact absurd ha (hD.ord p q h' (by omega))
      ·have:q=p:=by omega
       subst this;exact absurd (bCo hD.lt _ _ (hD.bd q hp) ha) (iu _)
    rw[hfin q t hq hd];have:=henv (p-(q+1)) (q+1) t (by omega) (fun x a b e=>hD.dst q x (by omega) (by omega) t hd e);rw[show q+1+(p-(q+1))=p by omega]at this;exact this.symm
   ·rw[aA0 h];exact(hini p t hpk fun q hq hd=>h ⟨q,by omega,hancL _ (hD.use q p (by omega) hp t hd ht),hd⟩).symm
  unfold wpOpIn;rw[hoi];simp only;rw[if_pos (by simp[Region.wanted,hres.guardN hgn])];rcases db p k with hlt2|hge
  ·refine(hstep hlt2).sound hres hg (by rw[hSLlk,hlk p hpk]) hev hA fun x a' w' he hA'=>?_;refine⟨by simp[hsize],fun j hj hL e he=>?_,fun q hq hL=>?_,?_⟩
   ·rw[kW (by omega)]at hL|-;rcases hL with rfl|hL
    ·exact .inr (haft e he)
    ·exact .inr (hclosed j hj hL e he)
   ·rw[kW (by omega)]at hL;rcases hL with hL|hL
    ·have:q=p:=by
      rcases fq q p with h|h|h
      ·exact absurd hL (hD.inj q p h hp)
      ·exact h
      ·exact absurd hL.symm (hD.inj p q h hq)
     omega
    ·exact hbef q hq hL
   ·refine hA'.less rfl rfl rfl fun t=>.inl ?_;show _=bR (SL st k g r fun i=>listed.getD i false=true).env (r p).dst x t;by_cases hd:(r p).dst=some t
    ·rw[aDx ⟨p,hlt2,(kW (by omega)).2 (.inl rfl),hd⟩,hfin p t hlt2 hd,he];show bR (st p).env (r p).dst x t=_;rw[hd];simp[bR,upd]
    ·have hset:∀env:Nat->AV,bR env (r p).dst x t=env t:=fun env=>by
      cases hdd:(r p).dst with
      |none=>rfl
      |some d'=>simp only[bR,upd];rw[if_neg (fun e'=>hd (by rw[hdd,e']))]
     rw[hset];by_cases hs:SLp k g r (fun i=>listed.getD i false=true) t
     ·rw[aDx hs];obtain⟨q,h1,h2,h3⟩:=hs;exact aDx ⟨q,h1,(kW (by omega)).2 (.inr h2),h3⟩
     ·rw[aA0 hs];refine aA0 fun⟨q,h1,h2,h3⟩=>hs ⟨q,h1,?_,h3⟩;rcases(kW (by omega)).1 h2 with h2|h2
      ·exfalso;have:q=p:=by
        rcases fq q p with h|h|h
        ·exact absurd h2 (hD.inj q p h hp)
        ·exact h
        ·exact absurd h2.symm (hD.inj p q h (by omega))
       subst this;exact hd h3
      ·exact h2
  ·have hpe:p=k:=by omega
   subst hpe;rcases hK with⟨e,_⟩|⟨hks,v,⟨f,args,fn,caps,h1,h2,h3⟩,hQ⟩
   ·omega
   obtain e0|⟨b,op0,hop,hmk⟩:=hres.op
   ·rw[h1]at e0;cases e0
   rw[h1]at hmk;rcases vW hmk with e|e
   case inr=>rw[e]at hop;exact(aDq hop).elim
   rw[e]at hop;obtain⟨c,ho,hc,rfl⟩:=sD hop;have hxs:=hres.xs;rw[h1]at hxs hev;obtain⟨G,m,hA'⟩:=hA;have hrf:=hA'.evs f (hxs f (by simp[ROp.operands]));rw[hev f (by simp[ROp.operands]),h2]at hrf;unfold AV.Rep at hrf;obtain⟨vs,hv,hcaps⟩:=hrf;have hargs:AV.RepL G m (c.args.toList.map (st p).ev) (c.args.toList.map a.eval):=AV.RepL_map (fun x hx=>by
    have hx':x∈(ROp.callP f c.args.toList).operands:=by simp only[ROp.operands,br];exact .inr hx
    rw[<-hev x hx'];exact hA'.evs x (hxs x hx'))
   have hrep:AV.RepL G m (c.args.toList.map (st p).ev++caps) (c.args.map a.eval++vs).toList:=by rw[du,dx];exact AV.RepL_append hargs hcaps
   have hS:=hA'.sim;rw[hSLlk,<-hlk p (ω _)]at hS;refine aIe ho hc hv (bFa (n:=(st 0).nx) h3 (LkSame.refl _) hS hrep) fun v' w' hp=>?_;refine⟨_,hQ,?_⟩;have hA2:=hA'.step (dst:=none) (fun d hd=>by cases hd) (by rw[hSLlk,<-hlk p (ω _)];exact hp);obtain⟨m1,m2,m3,m4⟩:=aFd ros (st p);obtain⟨b1,b2,b3⟩:=hblk p (ω _);refine hA2.less (m1.trans b1) (m2.trans b2) (m3.trans b3) fun t=>?_;rcases m4 t with⟨⟨x,hx,hd⟩,h⟩|⟨hn,h⟩
   ·obtain⟨q,hq,rfl⟩:=hros2 x hx;exact .inr ⟨hdlt q hq t hd,h⟩
   ·refine .inl (h.trans ?_);rw[hini p t (ω _) (fun q hq hd=>hn _ (hros q (by omega)) hd)];exact(aA0 fun⟨q,h1,_,h3⟩=>hn _ (hros q (by omega)) h3).symm
 ·obtain⟨hsize,hclosed,hbef,hA⟩:=hI;have hall:∀j,j<ops.size->listed.getD j false=true:=by
   intro j
   induction j using gv with
   |_ j ih=>
    intro hj;cases hl:listed.getD j false with
    |true=>rfl
    |false=>
     exfalso;have hjs:j<listed.size:=by rw[hsize];exact hj
     have:j∈Region.ready .any ops listed:=mem_ready.2 ⟨by simp[hjs]at hl|-;exact hl,ops[j],by simp[hj],fun e he hb=>by
      have hin:e.on∈cG ops j:=by unfold cG;rw[show ops[j]?=some ops[j] by simp[hj]];exact cw.2 ⟨e,ξ.2 ⟨by simpa using he,hb⟩,rfl⟩
      have hlt:=hD.lt j hj _ hin;exact ih e.on hlt (by omega)⟩
     rw[hr]at this;cases this
  rcases hK with⟨e,hQ⟩|⟨hks,_⟩
  ·refine⟨_,hQ,?_⟩;obtain⟨b1,b2,b3⟩:=hblk k (ω _);refine hA.less b1 b2 b3 fun t=>.inl ?_;by_cases h:SLp k g r (fun i=>listed.getD i false=true) t
   ·rw[aDx h]
   ·rw[aA0 h];exact hini k t (ω _) fun q hq hd=>h ⟨q,hq,hall _ (hD.bd q (by omega)),hd⟩
  ·exact absurd (hbef k hks (hall _ (hD.bd k hks))) (iu _)
 ·refine cj List.countP_le_length (by simp)
 ·have hf:∀j,(ey ops.size false).getD j false=false:=fun j=>by
   rcases db j ops.size with h|h
   ·simp[h]
   ·simp[h]
  refine⟨by simp,fun j _ h=>(by rw[hf]at h;cases h),fun p _ h=>(by rw[hf]at h;cases h),?_⟩;obtain⟨G,m,hA⟩:=hA;have hd:ASim E s a w.drew:=⟨G,m,hA.sim.drew,hA.env,hA.size,hA.defers.keep fun _ _ h _=>h,E.Jkeep _ _ _ hA.jok fun _ _ h _=>h,hA.fresh,⟨hA.frame.os,hA.frame.tape.drew,hA.frame.output,hA.frame.size,hA.frame.heap,hA.frame.gh,hA.frame.le⟩,hA.base,hA.own,hA.noO,hA.nxOk⟩;rw[<-hst0]at hd;refine hd.less rfl rfl rfl fun t=>.inl ?_;exact aA0 fun⟨p,_,h,_⟩=>absurd ((hf (g p)).symm.trans h) (by decide)
theorem CodeOk.drawD(hm:P.follows .mixedOrders=true)(h:rY P ops N (σ.map fun i=>ops.getD i default) ros)(hd:aWd ops σ ros=true):CodeOk P N (.region id ops true) (.regDP ros):=fun rd Y E Q s a w hY hN hc hA=>by
 have hd':=hd;unfold aWd at hd';simp only[ν,c6,e8,decide_eq_true_eq]at hd';obtain⟨⟨⟨⟨⟨_,hsl⟩,hsb⟩,_⟩,hdr⟩,_⟩:=hd';obtain⟨st,k,hst0,hlen,hk,hsteps,hK⟩:=aWj h hdr hc;rw[List.length_map,hsl]at hlen hk hK;have hget:∀p,p<ops.size->ros[p]?=some (ros.getD p default):=fun p hp=>by rw[bc,μ (by omega)];rfl
 have hg:∀p,p<ops.size->σ[p]?=some (σ.getD p 0):=fun p hp=>by rw[bc,μ (by omega)];rfl
 refine aNw (g:=fun p=>σ.getD p 0) (r:=fun p=>ros.getD p default) (ros:=ros) hm (aSn hlen hd) hk (fun p hp=>?_) (fun p hp=>bu (hget p hp)) (fun x hx=>?_) hN hst0 ?_ hA
 ·have hb:σ.getD p 0<ops.size:=hsb _ (bu (hg p hp));obtain⟨g1,g2⟩:=hsteps p ops[σ.getD p 0] _ (by rw[ao,hg p hp];simp only[Option.map_some,Array.getD,hb,dif_pos];rfl) (hget p hp);exact⟨_,by simp[hb],g1,g2⟩
 ·obtain⟨p,hp,e⟩:=List.mem_iff_getElem.1 hx;exact⟨p,by omega,by show x=ros.getD p default;rw[bc,μ hp];exact e.symm⟩
 ·rcases hK with⟨e,hQ⟩|⟨r,v,e,hp,hQ⟩
  ·exact .inl ⟨e,hQ⟩
  ·have hks:k<ops.size:=by have:=(aq.1 e).1;omega
   refine .inr ⟨hks,v,?_,hQ⟩;rw[hget k hks]at e;cases e;exact hp
def bFl:Nat:=1000000
def cZ(P:Program)(fl:List Nat)(N:Nat)(ops:Array Oper):List Oper->Option (List RO)
 |[]=>some []
 |o::os=>match aA5 P fl N ops o,cZ P fl N ops os with
  |some r,some rs=>some (r::rs)
  |_,_=>none
def bA7(ops:Array Oper)(ros:List RO):List Nat:=
 let late:=fun j=>isP (ros.getD j default).op||(c8 j).any fun i=>isP (ros.getD i default).op&&anc ops i j
 ((c8 ops.size).filter fun j=>!late j)++(c8 ops.size).filter late
theorem gW{P:Program}{fl:List Nat}{N:Nat}{ops:Array Oper}:∀{os:List Oper} {ros:List RO},cZ P fl N ops os=some ros->rY P ops N os ros
 |[],ros,h=>by unfold cZ at h;cases h;trivial
 |o::os,ros,h=>by
  unfold cZ at h;split at h
  ·rename_i r rs h1 h2;cases h;exact⟨aDc h1,gW h2⟩
  ·cases h
theorem CodeOk.sem{P:Program}{N:Nat}{c:Code}:CodeOk P N c (.sem N c):=fun r Y E Q s a w hY hN h hA=>by obtain rfl:=(hY.1 h.1).1;exact h.2 E a w hY hN hA
def bC7:Nat:=2000000
def wkIf:Bool->RCode->RCode
 |true,rc=>.wkr rc
 |false,rc=>rc
theorem CodeOk.wkIf{P:Program}{N:Nat}{c:Code}{rc:RCode}(h:CodeOk P N c rc):∀b,CodeOk P N c (wkIf b rc)
 |true=>fun r Y E Q s a w hY hN ⟨s0,hw,hc⟩ hA=>h r Y E Q s0 a w hY hN hc (hw _ _ _ hA)
 |false=>h
def isN:ROp->Bool
 |.nxt _=>true
 |_=>false
def aMw(_P:Program)(_fl:List Nat)(_N:Nat)(_ops:Array Oper):Option RCode:=none
theorem aM9(h:aMw P fl N ops=some rc):CodeOk P N (.region id ops false) rc:=by cases h
def aE(P:Program)(fl:List Nat)(N:Nat):Code->Option RCode
 |.skip=>some .skip
 |.region id ops draw=>if(!draw&&bC4 ops)=true then aMw P fl N ops else Option.map (wkIf (fl.contains (bC7+id)))<|match cZ P fl N ops ops.toList with
  |some ros=>if draw=true then(if aEb ops ros=true then(if ros.any (fun r=>isP r.op)=true then(match cZ P fl N ops ((bA7 ops ros).map fun i=>ops.getD i default)with|some rs=>if aWd ops (bA7 ops ros) rs=true then some (.regDP rs)else none|none=>none)else if bEv ros=true then some (.regS (aHd ops ros) ros)else some (.reg true ros))else none)else(if ros.any (fun r=>isN r.op)=true then none else if ros.any (fun r=>isP r.op)=true then some (.regP ros)else if fl.contains bFl then some (.regY ros)else some (.reg false ros))
  |none=>none
 |.seq a b=>match aE P fl N a,aE P fl N b with
  |some x,some y=>some (.seq x (wkIf true y))
  |_,_=>none
 |.cond c a b=>match aE P fl N a,aE P fl N b with
  |some x,some y=>if c.inN N=true then some (.cond c x y)else none
  |_,_=>none
 |.block id b=>(aE P fl N b).map (.block id)
 |.loop b=>(aE P fl N b).map .loop
 |.exit id=>some (.exit id)
 |.scope b=>(aE P fl N b).map .scope
 |.ret=>some .ret
 |.rangeFunc g ps as bd=>some (.sem N (.rangeFunc g ps as bd))
 |.label _=>some .skip
 |_=>none
theorem aU{P:Program}{fl:List Nat}{N:Nat}(hm:P.follows .mixedOrders=true):∀{c:Code} {rc:RCode},aE P fl N c=some rc->CodeOk P N c rc
 |.skip,rc,h=>by unfold aE at h;cases h;exact .skip
 |.label l,rc,h=>by unfold aE at h;cases h;exact .label
 |.region id ops draw,rc,h=>by
  unfold aE at h;split at h
  ·rename_i hc;rw[ν]at hc;cases draw with
   |true=>cases hc.1
   |false=>exact aM9 h
  rw[ζ]at h;obtain⟨rc0,h,e⟩:=h;subst e;refine CodeOk.wkIf ?_ _;split at h
  ·rename_i ros h1;have h2:=gW h1;cases draw with
   |true=>
    simp only[if_true]at h;split at h
    ·rename_i hd;split at h
     ·split at h
      ·rename_i rs h3;rw[δ]at h;obtain⟨h4,h⟩:=h;cases h;exact .drawD hm (gW h3) h4
      ·cases h
     ·split at h
      ·cases h;exact .drawS hm h2 hd
      ·rename_i hs;cases h;exact .draw hm h2 hd (by simpa using hs)
    ·cases h
   |false=>
    simp only[ew,if_false]at h;split at h
    ·cases h
    split at h
    ·cases h;exact .regionP h2
    ·split at h
     ·cases h;exact .regionY h2
     ·cases h;exact .region h2
  ·cases h
 |.seq a b,rc,h=>by
  unfold aE at h;split at h
  ·rename_i x y h1 h2;cases h;exact .seq (aU hm h1) (CodeOk.wkIf (aU hm h2) true)
  ·cases h
 |.cond c a b,rc,h=>by
  unfold aE at h;split at h
  ·rename_i x y h1 h2;rw[δ]at h;obtain⟨hx,h⟩:=h;cases h;exact .cond hx (aU hm h1) (aU hm h2)
  ·cases h
 |.block id b,rc,h=>by
  unfold aE at h;rw[ζ]at h;obtain⟨x,h1,rfl⟩:=h;exact .block (aU hm h1)
 |.loop b,rc,h=>by
  unfold aE at h;rw[ζ]at h;obtain⟨x,h1,rfl⟩:=h;exact .loop (aU hm h1)
 |.exit id,rc,h=>by unfold aE at h;cases h;exact .exit
 |.scope b,rc,h=>by
  unfold aE at h;rw[ζ]at h;obtain⟨x,h1,rfl⟩:=h;exact .scope (aU hm h1)
 |.ret,rc,h=>by unfold aE at h;cases h;exact .ret
 |.rangeFunc ..,rc,h=>by unfold aE at h;cases h;exact .sem
 |.goto _,rc,h=>by unfold aE at h;cases h
 |.refuse _,rc,h=>by unfold aE at h;cases h
def pH(j:Nat):List Nat->Nat->Option Nat
 |[],_=>none
 |x::xs,i=>if x=j then some i else pH j xs (i+1)
theorem qM{j:Nat}:∀{l:List Nat} {n i:Nat},pH j l n=some i->n<=i/\l[i-n]?=some j
 |[],_,_,h=>by cases h
 |x::xs,n,i,h=>by
  unfold pH at h;split at h
  ·rename_i e;cases h;simp[e]
  ·obtain⟨h1,h2⟩:=qM h;refine⟨by omega,?_⟩;rw[show i-n=(i-(n+1))+1 by omega];simpa using h2
theorem wK{j:Nat}:∀{l:List Nat} {n:Nat},pH j l n=none->j∉l
 |[],_,_=>by simp
 |x::xs,n,h=>by
  unfold pH at h;split at h
  ·cases h
  ·rename_i e;have:=wK h;simp only[br,not_or];exact⟨fun q=>e q.symm,this⟩
def phi(slots:List Nat):Hd->Option Hd
 |.B i=>some (.B i)
 |.O j=>(pH j slots 0).map .O
def aG7:List (Nat×AV)->Nat->AV
 |[],_=>.any
 |(t,a)::r,i=>if i=t then a else aG7 r i
def AState.wk(s:AState)(keep:List Nat)(slots:List Nat):AState:=
 {env:=aG7 (keep.map fun t=>(t,AV.conv s.lk (phi slots) (s.env t)))
  bs:=fun i=>(s.bs i).map (Blk.conv s.lk (phi slots))
  own:=fun i=>(slots[i]?).bind fun j=>(s.own j).map (Blk.conv s.lk (phi slots))
  nx:=slots.length}
theorem aEx(f:Nat->AV):∀(keep:List Nat) (t:Nat),aG7 (keep.map fun t=>(t,f t)) t=.any\/aG7 (keep.map fun t=>(t,f t)) t=f t
 |[],_=>.inl rfl
 |k::ks,t=>by
  simp only[ct,aG7];split
  ·rename_i e;subst e;exact .inr rfl
  ·exact aEx f ks t
def qU(nx:Nat)(slots:List Nat):List Hd:=((c8 nx).filter fun j=>decide (j∉slots)).map .O
def wkM(m:HM)(slots:List Nat):HM
 |.B i=>m (.B i)
 |.O i=>(slots[i]?).bind fun j=>m (.O j)
theorem AtS.wk{E:Ent}{G:Gh}{m:HM}{s:AState}{a:Act}{w:World}(h:AtS E G m s a w)(keep:List Nat){slots:List Nat}(hn:slots.Nodup):
  ∃G',AtS E G' (wkM m slots) (s.wk keep slots) a w/\∀x v,AV.Rep G m x v->AV.Rep G' (wkM m slots) (AV.conv s.lk (phi slots) x) v:=by
 obtain⟨G',hS,hle,hG⟩:=h.sim.freeze (qU s.nx slots);have hmem:∀j,(.O j:Hd)∈qU s.nx slots↔j<s.nx/\j∉slots:=fun j=>by simp[qU]
 have hphi:∀hd hd' loc,phi slots hd=some hd'->m hd=some loc->wkM m slots hd'=some loc:=by
  intro hd hd' loc hp hm;cases hd with
  |B i=>cases hp;exact hm
  |O j=>
   simp only[phi,ζ]at hp;obtain⟨i,hi,rfl⟩:=hp;obtain⟨_,h2⟩:=qM hi;show(slots[i]?).bind _=_;rw[show slots[i]?=some j by simpa using h2];exact hm
 have hrow:∀hd mt k es,s.lk hd=some (.row mt k es)->∃mt',lkF s.lk (qU s.nx slots) hd=some (.row mt' k es):=fun hd mt k es hh=>by
  unfold lkF;split
  ·exact⟨false,by rw[hh];rfl⟩
  ·exact⟨mt,hh⟩
 have hfz:∀hd mt k es,phi slots hd=none->(s.lk hd).isSome=true->lkF s.lk (qU s.nx slots) hd=some (.row mt k es)->mt=false:=by
  intro hd mt k es hp hsome hr;cases hd with
  |B i=>cases hp
  |O j=>
   simp only[phi,Option.map_eq_none_iff]at hp;have hj:j<s.nx:=by
    rcases db j s.nx with h'|h'
    ·exact h'
    ·have:s.lk (.O j)=none:=h.nxOk j h';rw[this]at hsome;cases hsome
   unfold lkF at hr;rw[if_pos ((hmem j).2 ⟨hj,wK hp⟩)]at hr;cases hx:s.lk (.O j)with
   |none=>rw[hx]at hr;cases hr
   |some bl=>
    rw[hx]at hr;cases bl with
    |row mt' k' es'=>cases hr;rfl
    |_=>cases hr
 have hrep:∀x v,AV.Rep G m x v->AV.Rep G' (wkM m slots) (AV.conv s.lk (phi slots) x) v:=fun x v hx=>
  AV.conv_rep hS hrow hphi x v (fun hd _ mt k es a b c=>hfz hd mt k es a b c) (AV.Rep.mono hle (HM.le.refl m) _ _ hx)
 have hblk:∀bl b sz,BlkRep G' m bl b sz w->BlkRep G' (wkM m slots) (Blk.conv s.lk (phi slots) bl) b sz w:=fun bl b sz hb=>by
  cases bl with
  |row mt k es=>cases mt<;>exact hb
  |box cs=>
   obtain⟨vs,T,h1,h2,h3,h4⟩:=hb;exact⟨vs,T,h1,h2,AV.convL_rep hS hrow hphi cs _ (fun hd _ mt k es a b c=>hfz hd mt k es a b c) h3,h4⟩
  |_=>exact hb.elim
 have hlkB:∀i,lkF s.lk (qU s.nx slots) (.B i)=s.bs i:=fun i=>by unfold lkF;rw[if_neg (by simp[qU])];rfl
 have hlkO:∀j,j∈slots->lkF s.lk (qU s.nx slots) (.O j)=s.own j:=fun j hj=>by unfold lkF;rw[if_neg (by rw[hmem];exact fun q=>q.2 hj)];rfl
 have hgetO:∀{i loc},wkM m slots (.O i)=some loc->∃j,slots[i]?=some j/\m (.O j)=some loc:=fun{i loc} hx=>by simpa[wkM,ε]using hx
 have hlk':∀i j,slots[i]?=some j->(s.wk keep slots).lk (.O i)=(s.own j).map (Blk.conv s.lk (phi slots)):=fun i j hj=>by show(slots[i]?).bind _=_;rw[hj];rfl
 have hbk:∀hd loc,wkM m slots hd=some loc->∃hd0,m hd0=some loc/\(s.wk keep slots).lk hd=(lkF s.lk (qU s.nx slots) hd0).map (Blk.conv s.lk (phi slots))/\(∀hd',wkM m slots hd'≠none->(∃loc',wkM m slots hd'=some loc'/\((∃i,hd'=.B i/\hd0=.B i)\/∃i j,hd'=.O i/\hd0=.O j/\slots[i]?=some j))->hd'=hd):=by
  intro hd loc hx;cases hd with
  |B i=>
   refine⟨.B i,hx,by rw[hlkB];rfl,fun hd' _ ⟨loc',_,h2⟩=>?_⟩;rcases h2 with⟨i',rfl,e⟩|⟨_,_,_,e,_⟩
   ·cases e;rfl
   ·cases e
  |O i=>
   obtain⟨j,hj,hm⟩:=hgetO hx;refine⟨.O j,hm,by rw[hlkO j (bu hj),hlk' i j hj],fun hd' _ ⟨loc',_,h2⟩=>?_⟩;rcases h2 with⟨_,_,e⟩|⟨i',j',rfl,e,hj'⟩
   ·cases e
   ·cases e;have h2:=(aq.1 hj');rw[(jc h2.1 hn).1 (hj'.trans hj.symm)]
 have hjok:E.J ((s.wk keep slots).env E.N) w:=by
  show E.J (aG7 (keep.map fun t=>(t,AV.conv s.lk (phi slots) (s.env t))) E.N) w;rcases aEx (fun t=>AV.conv s.lk (phi slots) (s.env t)) keep E.N with e|e
  ·rw[e];exact E.Jany _ _ h.jok
  ·rw[e];exact E.Jconv _ _ _ _ h.jok
 refine⟨G',⟨⟨?_,?_,?_,hS.gh,?_,hS.gl,fun hd b sz fp hx=>?_⟩,?_,h.size,h.defers,hjok,?_,?_,h.base,?_,h.noO,?_⟩,hrep⟩
 rotate_left 4
 ·obtain⟨hd0,h1,h2,_⟩:=hbk hd _ hx;obtain⟨bl,h3,h4⟩:=hS.blkx _ _ _ _ h1;exact⟨_,by rw[h2,h3];rfl,h4.conv hphi⟩
 rotate_right 4
 ·intro hd b sz hx;obtain⟨hd0,h1,h2,_⟩:=hbk hd _ hx;obtain⟨bl,h3,h4⟩:=hS.blk _ _ _ h1;exact⟨_,by rw[h2,h3];rfl,hblk _ _ _ h4⟩
 ·intro hd hx;obtain⟨hd0,h1,h2,_⟩:=hbk hd _ hx;obtain⟨mt,k,h3⟩:=hS.nil _ h1;exact⟨mt,k,by rw[h2,h3];rfl⟩
 ·intro hd hd' l l' b hx hx' hb hb';cases hd with
  |B i=>
   cases hd' with
   |B i'=>exact hS.injG (.B i) (.B i') l l' b hx hx' hb hb'
   |O i'=>
    obtain⟨j,_,hm⟩:=hgetO hx';have:=hS.injG (.B i) (.O j) l l' b hx hm hb hb';cases this
  |O i=>
   obtain⟨j,hj,hm⟩:=hgetO hx;cases hd' with
   |B i'=>
    have:=hS.injG (.O j) (.B i') l l' b hm hx' hb hb';cases this
   |O i'=>
    obtain⟨j',hj',hm'⟩:=hgetO hx';have:=hS.injG (.O j) (.O j') l l' b hm hm' hb hb';cases this;have h2:=(aq.1 hj');rw[(jc h2.1 hn).1 (hj'.trans hj.symm)]
 ·intro hd hx;obtain⟨hd0,h1,h2,_⟩:=hbk hd _ hx;rw[h2,hS.dead _ h1];rfl
 ·intro t;show AV.Rep G' _ (aG7 (keep.map fun t=>(t,AV.conv s.lk (phi slots) (s.env t))) t) _;rcases aEx (fun t=>AV.conv s.lk (phi slots) (s.env t)) keep t with e|e
  ·rw[e];unfold AV.Rep;trivial
  ·rw[e];exact hrep _ _ (h.env t)
 ·intro i hi;have hi':slots.length<=i:=hi;show(slots[i]?).bind _=none;rw[cx hi'];rfl
 ·have hF:Fr (fun _=>False) (Own m) G G' w w:=⟨rfl,.same rfl rfl,rfl,ω _,fun _ _ _=>rfl,fun b _ ho o=>hG b (fun h' _ sz q=>ho (.at_ q)) o,hle⟩;exact h.frame.step hF (fun b _ q=>q.elim) (fun b hb q=>h.ownOld hb q)
 ·intro x l b hx hl;cases x with
  |B i=>exact h.own _ l b hx hl
  |O i=>
   obtain⟨j,_,hm⟩:=hgetO hx;exact h.own _ l b hm hl
 ·intro i hi;have hi':slots.length<=i:=hi;show(slots[i]?).bind _=none;rw[cx hi'];rfl
theorem AState.wk_ok(s:AState)(keep:List Nat)(hn:slots.Nodup):Wk s (s.wk keep slots):=fun _ _ _ ⟨_,_,h⟩=>
 let⟨G',h',_⟩:=h.wk keep hn;⟨G',_,h'⟩
inductive RRes where
 |tmp (t:Nat)
 |cell (ag:Option Nat) (t:Nat)
 deriving Inhabited
variable{rs:List RRes}
def eM(P:Program):List ResultVar->Option (List RRes)
 |[]=>some []
 |.tmp t::r=>(eM P r).map (.tmp t::·)
 |.cell t T::r=>match P.underlying T,P.info? T,eM P r with
  |some d,some i,some rs=>some (.cell (if aT d then some i.size else none) t::rs)
  |_,_,_=>none
def aFu(N:Nat):ResultVar->Bool
 |.tmp t=>decide (t<N)
 |.cell t _=>decide (t<N)
def bT(P:Program)(N:Nat)(l:List ResultVar):Option (List RRes):=if l.all (aFu N)=true then eM P l else none
def oE(s:AState):RRes->Option AV
 |.tmp t=>some (s.env t)
 |.cell ag t=>match s.env t with
  |.ptr h off=>match s.lk h with
   |some (.box cs)=>match ag with
    |none=>cs[off]?
    |some n=>if off+n<=cs.length then some (.agg ((cs.drop off).take n))else none
   |_=>none
  |.eptr h k ix off=>match s.lk h,ag with
   |some (.row _ k' es),some n=>if k=1/\k'=1/\off=0/\ix+n<=es.length then some (.agg ((((es.drop ix).take n).flatten).map .D))else none
   |_,_=>none
  |_=>none
def kI(s:AState):List RRes->Option (List AV)
 |[]=>some []
 |r::rs=>match oE s r,kI s rs with
  |some a,some as=>some (a::as)
  |_,_=>none
def aTk(s:AState)(rs:List RRes):Option AV:=
 match kI s rs with
 |some [a]=>some a
 |some as=>some (.tup as)
 |none=>none
def vX(tmps:Array Value):ResultVar->Sem Value
 |.tmp t=>pure (tmps.getD t undef)
 |.cell a t=>do loadVar t (<-asAddr (tmps.getD a undef))
theorem mW{P:Program}{E:Ent}{G:Gh}{m:HM}{s:AState}{a:Act}{w:World}(h:AtS E G m s a w):∀{rvs:List ResultVar} {rs:List RRes} {as:List AV},(∀x∈rvs,aFu E.N x=true)->eM P rvs=some rs->kI s rs=some as->
  ∃vs:List Value,(rvs.mapM (vX a.tmps)).run P w=.ok vs w/\AV.RepL G m as vs
 |[],rs,as,_,h1,h2=>by
  cases h1;cases h2;exact⟨[],by simp,by simp[AV.RepL]⟩
 |.tmp t::rvs,rs,as,h0,h1,h2=>by
  have htN:t<E.N:=by simpa[aFu]using h0 (.tmp t) (by simp)
  simp only[eM,ζ]at h1;obtain⟨rs',h1,rfl⟩:=h1;simp only[kI,oE]at h2;split at h2
  ·rename_i x y e1 e2;cases e1;cases h2;obtain⟨vs,k1,k2⟩:=mW h (fun x hx=>h0 x (by simp[hx])) h1 e2;exact⟨a.tmps.getD t undef::vs,by simp[vX,k1],by unfold AV.RepL;exact⟨_,_,rfl,Ent.val_lt htN▸h.env t,k2⟩⟩
  ·cases h2
 |.cell t T::rvs,rs,as,h0,h1,h2=>by
  have htN:t<E.N:=by simpa[aFu]using h0 (.cell t T) (by simp)
  simp only[eM]at h1;split at h1
  ·rename_i d i rs' hd hi hrs;cases h1;simp only[kI]at h2;split at h2
   ·rename_i x y e1 e2;cases h2;obtain⟨vs,k1,k2⟩:=mW h (fun x hx=>h0 x (by simp[hx])) hrs e2;have hv:=h.env t;rw[Ent.val_lt htN]at hv;simp only[oE]at e1;split at e1
    ·rename_i hd' off he;rw[he]at hv;unfold AV.Rep at hv;obtain⟨_,loc,hloc,hp⟩:=hv;split at e1
     ·rename_i cs hl;have hnd:loc≠.dead:=fun e=>by subst e;rw[h.sim.dead _ hloc]at hl;cases hl
      obtain⟨b,sz,rfl,hp'⟩:=hp hnd;obtain⟨bl,hl3,hb⟩:=h.sim.blk _ _ _ hloc;rw[hl]at hl3;cases hl3;obtain⟨ws,T',h1,h2,h3,h4⟩:=hb;have hm:(match(if aT d then some i.size else none)with
       |none=>∃x',cs[off]?=some x'/\x=x'
       |some n=>off+n<=cs.length/\x=.agg ((cs.drop off).take n)):=by
       split at e1
       ·exact⟨x,e1,rfl⟩
       ·rw[δ]at e1;exact⟨e1.1,(Option.some.inj e1.2).symm⟩
      obtain⟨v,hv,hrep⟩:=aNm (P:=P) hd hi h1 h3 hm;refine⟨v::vs,?_,by unfold AV.RepL;exact⟨_,_,rfl,hrep,k2⟩⟩;simp only[cd]at hp';simp[vX,hp',asAddr,hv,k1]
     ·cases e1
    ·rename_i hd' k ix off he;rw[he]at hv;unfold AV.Rep at hv;obtain⟨_,loc,hloc,hp⟩:=hv;split at e1
     ·rename_i mt k' es n hl hag;rw[δ]at e1;obtain⟨⟨rfl,rfl,rfl,hle⟩,e1⟩:=e1;cases e1;have ha:aT d=true:=by
       cases hh:aT d with
       |true=>rfl
       |false=>rw[hh]at hag;cases hag
      rw[ha]at hag;cases hag;have hnd:loc≠.dead:=fun e=>by subst e;rw[h.sim.dead _ hloc]at hl;cases hl
      obtain⟨b,sz,rfl,hp'⟩:=hp hnd;obtain⟨bl,hl3,hb⟩:=h.sim.blk _ _ _ hloc;rw[hl]at hl3;cases hl3;obtain⟨f,hrow,hf,_⟩:=mM hb h.sim.gh;have hrow2:=DV.rows_drop ix hrow;rw[Nat.zero_add]at hrow2;have hcell:=rows_flat hrow2;have hfl:=aDn hrow2;rw[List.length_drop,Nat.mul_one]at hfl;obtain⟨v,hv,hrep⟩:=qJ (P:=P) (m:=m) hd hi (b:=b) hcell hf (a:=.agg ((((es.drop ix).take i.size).flatten).map .D)) (by
       rw[ha];exact⟨by rw[hfl];omega,by rw[nA i.size hrow2]⟩)
      refine⟨v::vs,?_,by unfold AV.RepL;exact⟨_,_,rfl,hrep,k2⟩⟩;simp only[cd,Nat.mul_one,Nat.add_zero]at hp' hv;simp[vX,hp',asAddr,hv,k1]
     ·cases e1
    ·cases e1
   ·cases h2
  ·cases h1
theorem aNy(h:AtS E G m s a w){x:AV}(h0:∀x∈fn.results.toList,aFu E.N x=true)(h1:eM P fn.results.toList=some rs)(h2:aTk s rs=some x):
  ∃v,(results fn a.tmps).run P w=.ok v w/\AV.Rep G m x v:=by
 have key:∀as,kI s rs=some as->∃vs:List Value,(fn.results.mapM (vX a.tmps)).run P w=.ok vs.toArray w/\AV.RepL G m as vs:=fun as he=>by obtain⟨vs,k1,k2⟩:=mW (P:=P) h h0 h1 he;refine⟨vs,?_,k2⟩;rw[Array.mapM_eq_mapM_toList];simp[k1]
 have hres:∀vs:List Value,(fn.results.mapM (vX a.tmps)).run P w=.ok vs.toArray w->(results fn a.tmps).run P w=.ok (if h:vs.toArray.size=1 then vs.toArray[0]else .tuple vs.toArray) w:=fun vs hr=>by have:results fn a.tmps=(do let vs<-fn.results.mapM (vX a.tmps);pure (if h:vs.size=1 then vs[0]else .tuple vs)):=rfl;rw[this];simp[hr]
 unfold aTk at h2;split at h2
 ·rename_i y he;cases h2;obtain⟨vs,k1,k2⟩:=key _ he;refine⟨_,hres vs k1,?_⟩;unfold AV.RepL AV.RepL at k2;obtain⟨v,vs',rfl,k3,rfl⟩:=k2;simpa using k3
 ·rename_i as hne he;cases h2;obtain⟨vs,k1,k2⟩:=key _ he;refine⟨_,hres vs k1,?_⟩;have hl:=AV.RepL_length k2;have:¬vs.toArray.size=1:=fun e=>by
   have:as.length=1:=by simpa[hl]using e
   match as,this with
   |[y],_=>exact hne y rfl
  rw[dif_neg this];unfold AV.Rep;exact⟨_,rfl,by simpa using k2⟩
 ·cases h2
def bEq(n:Nat)(rs:List RRes)(r:AV)(bs':List (Option Blk))(nbs:List Blk):Exit->AState->Prop:=fun e s=>
 (e=.normal\/e=.ret)/\∃slots x,slots.Nodup/\aTk s rs=some x/\AV.conv s.lk (phi slots) x=r/\((c8 n).map fun i=>(s.bs i).map (Blk.conv s.lk (phi slots)))=bs'/\
  (slots.map fun j=>(s.own j).map (Blk.conv s.lk (phi slots)))=nbs.map some
def entry(args:List AV)(bs:List (Option Blk)):AState:=
 {env:=fun t=>args.getD t .un,bs:=fun i=>(bs[i]?).join,own:=fun _=>none,nx:=0}
theorem Sim.putObj{G:Gh}{m:HM}{lk:aV}{w:World}(h:Sim G m lk w){r:Nat}{o o':Obj}(hr:w.heap[r]?=some o)(hn:o.isD=false):Sim G m lk (w.putObj r o'):=by
 refine⟨fun x b sz hx=>?_,h.nil,h.injG,fun b q v hv=>?_,h.dead,h.gl,fun x b sz fp hx=>?_⟩
 rotate_right
 ·obtain⟨bl,h1,h2⟩:=h.blkx x b sz fp hx;have hne:∀c∈b::fp,c≠r:=fun c hc e=>by obtain⟨o2,hc2,hd2⟩:=h2.data c hc;subst e;rw[hr]at hc2;cases hc2;rw[hd2]at hn;cases hn
  refine⟨bl,h1,h2.mono (Gh.le.refl G) (HM.le.refl m) (fun _ _ _=>rfl) (fun c hc=>World.putObj_heap_other (hne c hc)) fun _ c _ _ _ _ _ _ _ hc=>World.putObj_heap_other (fun e=>?_)⟩;subst e;rw[hr]at hc;cases hc;cases hn
 ·obtain⟨bl,h1,h2⟩:=h.blk x b sz hx;obtain⟨o2,hc,hd⟩:=h.data (.at_ hx);have hne:b≠r:=fun e=>by subst e;rw[hr]at hc;cases hc;rw[hd]at hn;cases hn
  exact⟨bl,h1,h2.mono (Gh.le.refl G) (HM.le.refl m) (fun _=>rfl) (World.putObj_heap_other hne)⟩
 ·have hv':=h.gh b q v hv;have hne:b≠r:=fun e=>by subst e;unfold World.cell? at hv';simp only[hr]at hv';cases o<;>first|(cases hn;done)|cases hv'
  unfold World.cell?;rw[World.putObj_heap_other hne];exact hv'
theorem Fr.putObj{oh og:Nat->Prop}{G0 G:Gh}{w0 w:World}(h:Fr oh og G0 G w0 w){r:Nat}{o:Obj}(hr:w0.heap.size<=r):Fr oh og G0 G w0 (w.putObj r o):=
 ⟨h.os,h.tape,h.output,by rw[World.putObj_size];exact h.size,fun b hb ho=>by rw[World.putObj_heap_other (by omega)];exact h.heap b hb ho,h.gh,h.le⟩
theorem yO{P:Program}{fn:Func}{E:Ent}{G:Gh}{m:HM}{s:AState}{R:Ending->World->Prop}{tmps:Array Value}:∀(ms:List Deferred) (w:World),AtS E G m s {tmps:=tmps,defers:=ms++E.dt} w->Marks (E.w0.heap.size+E.sk) E.nd ms w->
  (∀w',AtS E G m s {tmps:=tmps,defers:=E.dt} w'->LeavesInM (FR none) 0 P fn tmps R E.dt .returning w')->LeavesInM (FR none) 0 P fn tmps R (ms++E.dt) .returning w
 |[],w,h,_,hR=>hR w h
 |d::ms,w,h,hM,hR=>by
  obtain⟨r,rfl,hr1,hr2⟩:=hM.1 d (by simp);have hnd:=hM.2.1;have hM':Marks (E.w0.heap.size+E.sk) E.nd ms (w.putObj r (.deferred none)):=by refine⟨fun d' hd'=>?_,(dw.1 hnd).2,fun e=>by have:=hM.2.2 e;cases this⟩;obtain⟨r',rfl,q1,q2⟩:=hM.1 d' (by simp[hd']);refine⟨r',rfl,q1,?_⟩;rw[World.putObj_heap_other (fun e=>(dw.1 hnd).1 (by subst e;exact hd'))];exact q2
  refine⟨by simp,.inl ⟨r,w.putObj r (.deferred none),rfl,run_takeDeferred hr2,yO ms _ ?_ hM' hR⟩⟩;exact⟨h.sim.putObj hr2 rfl,h.env,h.size,⟨ms,rfl,hM'⟩,E.Jput _ _ _ _ h.jok hr1,h.fresh,h.frame.putObj (cj (fy _ _) hr1),h.base,h.own,h.noO,h.nxOk⟩
theorem vO(hdt:E.dt=[])(ds:List Deferred)(w:World)(h:AtS E G m s {tmps:=tmps,defers:=ds} w)
  (hR:∀w',AtS E G m s {tmps:=tmps,defers:=[]} w'->∃v,(results fn tmps).run P w'=.ok v w'/\R (.returned v) w'):LeavesInM (FR none) 0 P fn tmps R ds .returning w:=by obtain⟨ms,e,hM⟩:=h.defers;have e:ds=ms++E.dt:=e;subst e;exact yO ms w h hM (fun w' h'=>by rw[hdt]at h'|-;exact hR w' h')
def lW(n:Nat)(rs:List RRes)(r:AV)(bs':List (Option Blk))(nbs:List Blk):Exit->AState->Prop:=fun e s=>∃s',Wk s s'/\bEq n rs r bs' nbs e s'
theorem pW(nd:Bool)(hn:args.length<=N)(hS:Sim G m (eX bs []) w)(hO:∀i,m (.O i)=none)(hA:AV.RepL G m args vs.toList):
  AtS {w0:=w,G0:=G,m0:=m,N:=N,nd:=nd:Ent} G m (entry args bs) {tmps:=vs++ey (N-vs.size) undef,defers:=[]} w:=by
 have hlen:=AV.RepL_length hA;have hlen':args.length=vs.size:=by simpa using hlen
 refine⟨?_,fun t=>?_,?_,iR.2 Marks.nil,trivial,fun i _=>hO i,Fr.refl _ _ _ _,fun i=>.inl rfl,fun x l b hi hl=>.inr ⟨x,l,hi,hl⟩,trivial,fun _ _=>rfl⟩
 ·have:(entry args bs).lk=eX bs []:=by funext h;cases h<;>simp[AState.lk,entry,eX]
  rw[this];exact hS
 ·have hval:Ent.val {w0:=w,G0:=G,m0:=m,N:=N,nd:=nd:Ent} {tmps:=vs++ey (N-vs.size) undef,defers:=[]} t=(vs++ey (N-vs.size) undef).getD t undef:=by
   unfold Ent.val;split
   ·rfl
   ·rename_i ht;have ht:N<=t:=Nat.le_of_not_lt ht;have:(vs++ey (N-vs.size) undef)[t]?=none:=Array.getElem?_eq_none (by simp;omega);simp only[cd,this];rfl
  rw[hval];show AV.Rep G m (args.getD t .un) ((vs++ey (N-vs.size) undef).getD t undef);rcases db t vs.size with ht|ht
  ·have h1:args[t]?=some args[t]:=by simp[hlen',ht]
   obtain⟨v,h2,h3⟩:=AV.RepL_get hA h1;rw[bc,h1];simp only[Array.getElem?_toList]at h2;simp only[cd,Array.getElem?_append_left ht,h2];exact h3
  ·rw[bc,cx (by omega)];have:(vs++ey (N-vs.size) undef).getD t undef=undef:=by simp only[cd,Array.getElem?_append_right ht,Array.getElem?_replicate];split<;>rfl
   rw[this];show AV.Rep G m .un undef;unfold AV.un AV.Rep DV.Rep;rfl
 ·simp;omega
theorem wW{r:AV}(hrs0:(∀x∈fn.results.toList,aFu fn.ntmps x=true)/\eM P fn.results.toList=some rs)
 (h0:E.w0=w) (h1:E.G0=G) (h2:E.m0=m) (hN:E.N=fn.ntmps) (hS:Sim G m (eX bs []) w) {G1:Gh} {m1:HM} (hA':AtS E G1 m1 s a' w') {e:Exit} (hq:bEq bs.length rs r bs' nbs e s):
  ∃v,(results fn a'.tmps).run P w'=.ok v w'/\nC w G m (eX bs' nbs) r v w':=by
 subst h0;subst h1;subst h2;rw[<-hN]at hrs0;obtain⟨he,slots,x,hnd,hx,hr,hbs,hnbs⟩:=hq;obtain⟨v,hv,hrep⟩:=aNy (P:=P) (fn:=fn) hA' hrs0.1 hrs0.2 hx;obtain⟨G2,hA2,hconv⟩:=hA'.wk [] hnd;have hlkO:∀i,eX bs' nbs (.O i)=(s.wk [] slots).lk (.O i):=fun i=>by
  show nbs[i]?=(slots[i]?).bind _;have:=congrArg (fun l=>l[i]?) hnbs;simp only[ao]at this;cases h1:nbs[i]?with
  |none=>cases h2:slots[i]?with
   |none=>rfl
   |some j=>rw[h1,h2]at this;cases this
  |some b=>cases h2:slots[i]?with
   |none=>rw[h1,h2]at this;cases this
   |some j=>
    rw[h1,h2]at this;exact(Option.some.inj this).symm
 have hlen2:slots.length=nbs.length:=by simpa using congrArg List.length hnbs
 have hpost:nC E.w0 E.G0 E.m0 (eX bs' nbs) r v w':=by
  have hS2:Sim G2 (wkM m1 slots) (eX bs' nbs) w':=by
   have hB:∀i,i<bs.length->eX bs' nbs (.B i)=(s.wk [] slots).lk (.B i):=fun i hi=>by show(bs'[i]?).join=_;rw[<-hbs];simp[hi];rfl
   have hB':∀i,bs.length<=i->eX bs' nbs (.B i)=none/\(wkM m1 slots (.B i)=none\/wkM m1 slots (.B i)=some .dead):=fun i hi=>by
    refine⟨?_,?_⟩
    ·show(bs'[i]?).join=_;have:bs'.length=bs.length:=by rw[<-hbs];simp
     rw[cx (by omega)];rfl
    ·have hno:eX bs [] (.B i)=none:=by show(bs[i]?).join=none;rw[cx hi];rfl
     rcases hA2.base i with h1|⟨_,h1⟩|⟨_,_,_,_,h1,_⟩
     rotate_right
     ·obtain⟨bl,h3,_⟩:=hS.blkx _ _ _ _ h1;rw[hno]at h3;cases h3
     ·rw[h1];show E.m0 (.B i)=none\/E.m0 (.B i)=some .dead;cases hm:E.m0 (.B i)with
      |none=>exact .inl rfl
      |some loc=>
       cases loc with
       |dead=>exact .inr rfl
       |none=>obtain⟨mt,k,h3⟩:=hS.nil _ hm;rw[hno]at h3;cases h3
       |at_ b sz=>obtain⟨bl,h3,_⟩:=hS.blk _ _ _ hm;rw[hno]at h3;cases h3
       |atx b sz fp=>obtain⟨bl,h3,_⟩:=hS.blkx _ _ _ _ hm;rw[hno]at h3;cases h3
     ·exact .inr h1
   have hcase:∀x,eX bs' nbs x=(s.wk [] slots).lk x\/(eX bs' nbs x=none/\(wkM m1 slots x=none\/wkM m1 slots x=some .dead)):=fun x=>by
    cases x with
    |O i=>exact .inl (hlkO i)
    |B i=>
     rcases db i bs.length with h|h
     ·exact .inl (hB i h)
     ·exact .inr (hB' i h)
   refine⟨fun x b sz hx=>?_,fun x hx=>?_,hA2.sim.injG,hA2.sim.gh,fun x hx=>?_,hA2.sim.gl,fun x b sz fp hx=>?_⟩
   rotate_right
   ·rcases hcase x with h|⟨_,h|h⟩
    ·rw[h];exact hA2.sim.blkx x b sz fp hx
    ·rw[h]at hx;cases hx
    ·rw[h]at hx;cases hx
   ·rcases hcase x with h|⟨_,h|h⟩
    ·rw[h];exact hA2.sim.blk x b sz hx
    ·rw[h]at hx;cases hx
    ·rw[h]at hx;cases hx
   ·rcases hcase x with h|⟨_,h|h⟩
    ·rw[h];exact hA2.sim.nil x hx
    ·rw[h]at hx;cases hx
    ·rw[h]at hx;cases hx
   ·rcases hcase x with h|⟨h,_⟩
    ·rw[h];exact hA2.sim.dead x hx
    ·exact h
  refine⟨G2,wkM m1 slots,hS2,hr▸hconv _ _ hrep,hA2.frame,hA2.base,hA2.own,fun i hi=>?_⟩;have:slots[i]?=none:=by have hi:nbs[i]?=none:=hi;rw[List.getElem?_eq_none_iff]at hi|-;omega
  show(slots[i]?).bind _=none;rw[this];rfl
 exact⟨v,hv,hpost⟩
theorem xQ(hrs:bT P fn.ntmps fn.results.toList=some rs):(∀x∈fn.results.toList,aFu fn.ntmps x=true)/\eM P fn.results.toList=some rs:=by unfold bT at hrs;rw[δ,c6]at hrs;exact hrs
theorem ACall.of_bodyS(fl:List Nat)(S:AState->Prop){f:FuncId}{r:AV}
  (hf:P.funcs[f]?=some fn) (hb:fn.body=some c) (hname:(fn.name== "runtime.NumGoroutine")=false) (hm:P.follows .mixedOrders=true) (hrc:aE P fl fn.ntmps c=some rc) (hrs:bT P fn.ntmps fn.results.toList=some rs)
  (hn:args.length<=fn.ntmps) (hw0:∀E a w,E.N=fn.ntmps->ASim E (entry args bs) a w->∃s0,S s0/\ASim E s0 a w) (h:∀s0,S s0->dK P noY rc (lW bs.length rs r bs' nbs) s0):ACall P f args bs r bs' nbs:=by
 have hrs0:=xQ hrs;refine fun w G m vs hS hO hA=>.inl ⟨⟨fn,hf,by rw[hb];rfl,hname⟩,zI (r:=none) (n:=0) (callsIn_of_wp_marks hf hb (lF none f) ?_)⟩;have hent:=pW false hn hS hO hA;obtain⟨s0,hs0,hsim0⟩:=hw0 _ _ _ rfl ⟨G,m,hent⟩;refine wpIn_mono (aU hm hrc none noY _ _ _ _ _ (YOk.none rfl rfl) rfl (h s0 hs0) hsim0) fun e a' w' ⟨s00,⟨s,hw,hq⟩,hA0⟩=>?_;obtain⟨G1,m1,hA'⟩:=hw _ _ _ hA0;have key:∀w',AtS {w0:=w,G0:=G,m0:=m,N:=fn.ntmps:Ent} G1 m1 s {tmps:=a'.tmps,defers:=[]} w'->∃v,(results fn a'.tmps).run P w'=.ok v w'/\∃v',Ending.returned v=.returned v'/\nC w G m (eX bs' nbs) r v' w':=fun w' hA'=>by obtain⟨v,hv,hp⟩:=wW hrs0 rfl rfl rfl rfl hS hA' hq;exact⟨v,hv,v,rfl,hp⟩
 rcases hq.1 with rfl|rfl<;>exact vO rfl a'.defers w' hA' key
theorem ACall.of_bodyX(fl:List Nat)(s0:AState){f:FuncId}{r:AV}
  (hf:P.funcs[f]?=some fn) (hb:fn.body=some c) (hname:(fn.name== "runtime.NumGoroutine")=false) (hm:P.follows .mixedOrders=true) (hrc:aE P fl fn.ntmps c=some rc) (hrs:bT P fn.ntmps fn.results.toList=some rs)
  (hn:args.length<=fn.ntmps) (hw0:Wk (entry args bs) s0) (h:dK P noY rc (lW bs.length rs r bs' nbs) s0):ACall P f args bs r bs' nbs:=
 ACall.of_bodyS fl (·=s0) hf hb hname hm hrc hrs hn (fun E a w _ h=>⟨s0,rfl,hw0 E a w h⟩) (fun _ e=>e▸h)
def shE(N:Nat)(top:Nat->AV)(g:AV)(low:Nat->AV):Nat->AV:=fun t=>if t<N then top t else if t=N then g else low (t-N-1)
def AState.withEnv(s:AState)(env:Nat->AV):AState:={s with env:=env}
section
variable{B:Nat}{fid:FuncId}{tmps:Array Value}{ps:Array Tmp}{as bd:Code}{ds:List Deferred}{E:Ent}{x0:AV}
end
theorem aO0(s:AState)(env:Nat->AV):(s.withEnv env).lk=s.lk:=by funext h;cases h<;>rfl
theorem AtS.turn{E':Ent}(h:AtS E G m s a w)(env:Nat->AV)(h0:E'.w0=E.w0)(h1:E'.G0=E.G0)(h2:E'.m0=E.m0)(hs:Sim G m s.lk w')(hf:Fr (Own E.m0) (Own E.m0) E.G0 G E.w0 w')
  (he:∀t,AV.Rep G m (env t) (E'.val a' t)) (hsz:a'.tmps.size=E'.N) (hd:Marks1 E'.dt (E'.w0.heap.size+E'.sk) E'.nd a'.defers w') (hj:E'.J (env E'.N) w'):AtS E' G m (s.withEnv env) a' w':=by refine⟨by rw[aO0];exact hs,he,hsz,hd,hj,h.fresh,by rw[h0,h1,h2];exact hf,by rw[h2];exact h.base,by rw[h0,h2];exact h.own,trivial,h.nxOk⟩
theorem aYn{top low:Nat->AV}{g:AV}{v:Nat->Value}(h1:∀t,t<N->AV.Rep G m (top t) (v t))(h2:AV.Rep G m g (v N))(h3:∀t,AV.Rep G m (low t) (v (N+1+t)))(t:Nat):AV.Rep G m (shE N top g low t) (v t):=by
 unfold shE;split
 ·exact h1 t ‹_›
 ·split
  ·rename_i e;subst e;exact h2
  ·rename_i ha hb;have:=h3 (t-N-1);rwa[show N+1+(t-N-1)=t by omega]at this
def aQm(f:Nat->Value):Nat->Value:=fun j=>if j=0 then undef else f (j-1)
theorem aXb{f:Nat->Value}(h:E.cv=aQm f)(t:Nat):E.val a (E.N+1+t)=f t:=by rw[Ent.val_ge (by omega),h];unfold aQm;rw[if_neg (by omega),show E.N+1+t-E.N-1=t by omega]
theorem aC6{v:Value}:AV.Rep G m .any v:=by unfold AV.Rep;trivial
theorem AtS.epost{v:Value}(h:AtS E G m s a w)(henv:∀t,s'.env t=s.env t)(hnx:s.nx<=s'.nx)(hown:(∀i,s.nx<=i->s.own i=none)->∀i,s'.nx<=i->s'.own i=none)(hp:aF0 G m s none s' w v w'):ASim E s' a w':=by
 obtain⟨G',m',hS,_,hF,hle,hB,hO,hnew⟩:=hp;have hk:KeepO w w':=hF.keep (fun b q=>h.sim.data q);refine⟨G',m',hS,fun t=>?_,h.size,h.defers.keep hk,by rw[henv];exact E.Jkeep _ _ _ h.jok hk,fun i hi=>?_,h.frame.step hF (fun b hb q=>h.ownOld hb q) (fun b hb q=>h.ownOld hb q),fun i=>(h.base i).trans (hB i),fun x l b hi hl=>?_,h.noO,hown h.nxOk⟩
 ·rw[henv t];exact AV.Rep.mono hF.le hle _ _ (h.env t)
 ·exact(hO i (.inr hi)).none (h.fresh i (cj hnx hi))
 ·rcases hnew x l b hi hl with h1|h1
  ·exact .inl (cj h.frame.size h1)
  ·rcases db b E.w0.heap.size with h2|h2
   ·exact .inr (h.ownOld h2 h1)
   ·exact .inl h2
def bGx(N:Nat)(xs:List AV)(env:Nat->AV):Nat->AV:=shE N env .any fun t=>xs.getD t .any
def aTs(N:Nat)(xs:List AV)(s:AState):AState:=s.withEnv (bGx N xs s.env)
def aCf(N:Nat)(s:AState):Nat->List AV
 |0=>[]
 |n+1=>aCf N s n++[s.env (N+1+n)]
def vR(P:Program):List RCode->(AState->Prop)->(Exit->AState->Prop)->AState->Prop
 |[],K,_,s=>K s
 |rc::rcs,K,Q,s=>dK P iC rc (rV (vR P rcs K Q) Q) s
def iV(P:Program)(fl:List Nat)(N:Nat):List Code->Option (List RCode)
 |[]=>some []
 |c::cs=>match aE P fl N c,iV P fl N cs with
  |some x,some y=>some (x::y)
  |_,_=>none
theorem aHo{P:Program}{fl:List Nat}{N:Nat}(hm:P.follows .mixedOrders=true){E:Ent}(hE:E.N=N){c:Code}{K:AState->Prop}{Q:Exit->AState->Prop}{R:Exit->Act->World->Prop}
  (hK:∀s a w,K s->ASim E s a w->c.wpIn (FR none) 0 P R a w) (hQ:∀e s a w,Q e s->ASim E s a w->R e a w):∀{cs:List Code} {rcs:List RCode} {s:AState} {a:Act} {w:World},iV P fl N cs=some rcs->vR P rcs K Q s->ASim E s a w->(cs.foldr Code.seq c).wpIn (FR none) 0 P R a w
 |[],rcs,s,a,w,hr,h,hA=>by
  unfold iV at hr;cases hr;exact hK s a w h hA
 |d::cs,rcs,s,a,w,hr,h,hA=>by
  unfold iV at hr;split at hr
  ·rename_i x y h1 h2;cases hr;subst hE;refine wpIn_seq ?_;refine wpIn_mono (aU hm h1 none iC E _ _ _ _ YOk.body rfl h hA) fun e a' w' ⟨s',hq,hA'⟩=>?_;cases e with
   |normal=>exact aHo hm rfl hK hQ h2 hq hA'
   |_=>exact hQ _ _ _ _ hq hA'
  ·cases hr
theorem aHa{r:Option Nat}{P:Program}{ops:Array Oper}{E:Ent}{Q:Exit->Act->World->Prop}{tl:List Oper}:∀{os:List Oper} {ros:List RO} {s:AState} {a:Act} {w:World} {K:AState->Prop},rY P ops E.N os ros->iD P ros s K->ASim E s a w->
  (∀s' a' w',K s'->ASim E s' a' w'->wpListIn (FR r) 0 P ops Q tl a' w')->wpListIn (FR r) 0 P ops Q (os++tl) a w
 |[],[],s,a,w,K,_,h,hA,hQ=>hQ _ _ _ h hA
 |[],_::_,_,_,_,_,hr,_,_,_=>hr.elim
 |_::_,[],_,_,_,_,hr,_,_,_=>hr.elim
 |o::os,ro::ros,s,a,w,K,hr,h,hA,hQ=>
  tV (K:=fun s'=>iD P ros s' K) hr.1 h hA fun s' a' w' hK hA'=>aHa hr.2 hK hA' hQ
theorem aLu{G:Gh}{m:HM}{N:Nat}{s:AState}{vs:List Value}(h:∀i v,vs[i]?=some v->AV.Rep G m (s.env (N+1+i)) v):∀k,k<=vs.length->AV.RepL G m (aCf N s k) (vs.take k)
 |0,_=>by simp[aCf,AV.RepL]
 |k+1,hk=>by
  have h1:vs[k]?=some vs[k]:=by simp
  rw[List.take_add_one,h1];unfold aCf;refine AV.RepL_append (aLu h k (by omega)) ?_;unfold AV.RepL;exact⟨_,_,rfl,h k _ h1,by unfold AV.RepL;rfl⟩
def aVg(l:List Oper):Option (List Oper×Oper):=match l.reverse with
 |od::r=>some (r.reverse,od)
 |[]=>none
theorem aO3{l:List Oper}{od:Oper}(h:aVg l=some (os,od)):l=os++[od]:=by
 unfold aVg at h;split at h
 ·rename_i x r e;cases h;have:=congrArg List.reverse e;simpa using this
 ·cases h
def bA9(P:Program)(fl:List Nat)(N:Nat)(ops:Array Oper):Option (List RO×FuncId×List Operand):=
 match aVg ops.toList with
 |some (os,od)=>match od.op with
  |.defer cl=>match cl.callee with
   |.value (.func g)=>if(od.guard.isNone&&od.dst.isNone&&cl.args.toList.all (Operand.inN N))=true then(cZ P fl N ops os).map fun ros=>(ros,g,cl.args.toList)else none
   |_=>none
  |_=>none
 |none=>none
def bCl(P:Program)(fl:List Nat)(N:Nat):Code->Option (List RO×FuncId×List Operand)
 |.region _ ops false=>bA9 P fl N ops
 |_=>none
def cM(P:Program)(fl:List Nat)(N:Nat):Code->Option (List RCode×List RO×FuncId×List Operand×RCode)
 |.seq a b=>match bCl P fl N a with
  |some (ros,g,xs)=>(aE P fl N b).map fun rc=>([],ros,g,xs,rc)
  |none=>match aE P fl N a,cM P fl N b with
   |some x,some (rcs,r)=>some (x::rcs,r)
   |_,_=>none
 |_=>none
theorem aS0{g:FuncId}(h:bCl P fl N c=some (ros,g,xs)):∃id ops os od cl,c=.region id ops false/\ops.toList=os++[od]/\od.op=.defer cl/\od.guard=none/\od.dst=none/\
  cl.callee=.value (.func g)/\cl.args.toList.all (Operand.inN N)=true/\cZ P fl N ops os=some ros/\xs=cl.args.toList:=by
 unfold bCl at h;split at h
 case h_2=>cases h
 rename_i id ops;unfold bA9 at h;split at h
 case h_2=>cases h
 rename_i os od hl;split at h
 case h_2=>cases h
 rename_i cl hop;split at h
 case h_2=>cases h
 rename_i g' hc;rw[δ]at h;obtain⟨hb,h⟩:=h;rw[ζ]at h;obtain⟨ros',hr,e⟩:=h;cases e;simp only[ν,gj]at hb;exact⟨id,ops,os,od,cl,rfl,aO3 hl,hop,hb.1.1,hb.1.2,hc,hb.2,hr,rfl⟩
theorem vG{P:Program}{fl:List Nat}{N:Nat}:∀{c:Code} {rcs:List RCode} {ros:List RO} {g:FuncId} {xs:List Operand} {rc:RCode},cM P fl N c=some (rcs,ros,g,xs,rc)->
  ∃cs id ops os od cl rest,c=cs.foldr Code.seq (.seq (.region id ops false) rest)/\iV P fl N cs=some rcs/\ops.toList=os++[od]/\od.op=.defer cl/\od.guard=none/\od.dst=none/\
  cl.callee=.value (.func g)/\cl.args.toList.all (Operand.inN N)=true/\cZ P fl N ops os=some ros/\xs=cl.args.toList/\aE P fl N rest=some rc
 |.seq a b,rcs,ros,g,xs,rc,h=>by
  unfold cM at h;split at h
  ·rename_i ros' g' xs' hd;rw[ζ]at h;obtain⟨rc',hr,e⟩:=h;cases e;obtain⟨id,ops,os,od,cl,rfl,h1,h2,h3,h4,h5,h6,h7,h8⟩:=aS0 hd;exact⟨[],id,ops,os,od,cl,b,rfl,rfl,h1,h2,h3,h4,h5,h6,h7,h8,hr⟩
  ·split at h
   case h_2=>cases h
   rename_i x rcs' r' hx hD;cases h;obtain⟨cs,id,ops,os,od,cl,rest,rfl,h0,hrest⟩:=vG hD;exact⟨a::cs,id,ops,os,od,cl,rest,rfl,by unfold iV;rw[hx,h0],hrest⟩
 |.skip,_,_,_,_,_,h=>by unfold cM at h;cases h
 |.region ..,_,_,_,_,_,h=>by unfold cM at h;cases h
 |.cond ..,_,_,_,_,_,h=>by unfold cM at h;cases h
 |.block ..,_,_,_,_,_,h=>by unfold cM at h;cases h
 |.loop ..,_,_,_,_,_,h=>by unfold cM at h;cases h
 |.exit ..,_,_,_,_,_,h=>by unfold cM at h;cases h
 |.scope ..,_,_,_,_,_,h=>by unfold cM at h;cases h
 |.ret,_,_,_,_,_,h=>by unfold cM at h;cases h
 |.rangeFunc ..,_,_,_,_,_,h=>by unfold cM at h;cases h
 |.label ..,_,_,_,_,_,h=>by unfold cM at h;cases h
 |.goto ..,_,_,_,_,_,h=>by unfold cM at h;cases h
 |.refuse ..,_,_,_,_,_,h=>by unfold cM at h;cases h
def AOut(P:Program)(f:FuncId)(args:List AV)(pv:Value):Option (AV×List Blk)->Prop
 |some p=>ACall P f args [] p.1 [] p.2
 |none=>aNl P f args pv
theorem aZk{P:Program}(h0:E.w0=w)(h1:E.G0=G)(h2:E.m0=m)(hN:E.N=N)(hS:Sim G m (eX bs []) w){G1:Gh}{m1:HM}(hA':AtS E G1 m1 s a' w')
  (hn:bs.length=n) (hbs:((c8 n).map fun i=>(s.bs i).map (Blk.conv s.lk (phi [])))=bs'):nC w G m (eX bs' []) .any undef w':=by subst hn;obtain⟨v,_,G2,m2,a1,a2,a3,a4,a5,a6⟩:=wW (P:=P) (fn:={(default:Func)with ntmps:=N,results:=#[]}) (rs:=[]) (r:=.tup []) (bs':=bs') (nbs:=[]) ⟨fun x hx=>by simp at hx,rfl⟩ h0 h1 h2 hN hS hA' (e:=.ret) ⟨.inr rfl,[],.tup [],List.nodup_nil,rfl,rfl,hbs,rfl⟩;exact⟨G2,m2,a1,aC6,a3,a4,a5,a6⟩
def DRec(P:Program)(f:FuncId)(args:List AV)(bs:List (Option Blk))(u u1:FrameMode)(bs':List (Option Blk)):Prop:=
 aVv P f/\∀(w:World) (G:Gh) (m:HM) (vs:Array Value),Sim G m (eX bs []) w->(∀i,m (.O i)=none)->AV.RepL G m args vs.toList->
  CallsDIn (FR none) 0 P f vs u w fun e u' w'=>u'=u1/\∃v,e=.returned v/\nC w G m (eX bs' []) .any v w'
def aP1(u u1:FrameMode)(pv:Value):Prop:=∀(c0:Frame) (cs:List Frame),c0.mode=u->(recoverD (c0::cs)=none/\pv=.nilIface/\u1=u)\/recoverD (c0::cs)=some (pv,{c0 with mode:=u1}::cs)
theorem aRm:aP1 .returning .returning .nilIface:=fun c0 cs h=>.inl ⟨by simp[recoverD,h],rfl,rfl⟩
theorem aRy:aP1 (.panicking [{v:=pv,recovered:=false}]) (.panicking [{v:=pv,recovered:=true}]) pv:=fun c0 cs h=>.inr (by simp[recoverD,h])
def aUj(args:List AV)(bs:List (Option Blk))(t:Nat)(v:Value):AState:=(entry args bs).put (some t) (.D (.C v)) [] []
theorem DRec.of_body(fl:List Nat){f:FuncId}{cl:Call}{rest:Code}{u1:FrameMode}{r:AV}
  (hf:P.funcs[f]?=some fn) (hb:fn.body=some (.seq (.region id #[o] false) rest)) (hname:(fn.name== "runtime.NumGoroutine")=false)
  (ho:o.op=.call cl) (hcl:cl.callee=.builtin .recover) (hca:cl.args=#[]) (hog:o.guard=none) (hot:o.dst=some t) (ht:t<fn.ntmps) (hm:P.follows .mixedOrders=true) (hrc:aE P fl fn.ntmps rest=some rc) (hrs:bT P fn.ntmps fn.results.toList=some rs)
  (hn:args.length<=fn.ntmps) (hrec:aP1 u u1 pv) (hw0:Wk (aUj args bs t pv) s0) (h:dK P iC rc (lW bs.length rs r bs' []) s0):DRec P f args bs u u1 bs':=by
 have hrs0:=xQ hrs;refine⟨⟨fn,hf,by rw[hb];rfl,hname⟩,fun w G m vs hS hO hA=>callsDIn_of_wpSIn hf hb (lF none f) fun c0 cs hu=>?_⟩;refine wpSIn_seq (wpSIn_region ?_);have hnd:∀c,o.op≠.defer c:=fun c e=>by rw[ho]at e;cases e
 have hrun:∀ρ:Operand->Value,(execOp ρ o).run P w=.ok .recover w:=fun ρ=>by simp[execOp,ho,resolve,hcl,hca,invoke,builtin]
 have hent:=pW true hn hS hO hA;have hsim:∀pv',pv'=pv->ASim {w0:=w,G0:=G,m0:=m,N:=fn.ntmps,nd:=true:Ent} (aUj args bs t pv) (({tmps:=vs++ey (fn.ntmps-vs.size) undef,defers:=[]}:Act).put (some t) pv') w:=fun pv' e=>by subst e;exact hent.step (dst:=some t) (fun d hd=>by cases hd;exact ht) (PPost.val hent.sim (by unfold AV.Rep DV.Rep;rfl))
 have key:∀(a:Act),ASim {w0:=w,G0:=G,m0:=m,N:=fn.ntmps,nd:=true:Ent} (aUj args bs t pv) a w->∀cs1,cs1={c0 with mode:=u1}::cs->rest.wpSIn (FR none) 0 P (bodyPostS P fn c0 cs fun e u' w'=>u'=u1/\∃v,e=.returned v/\nC w G m (eX bs' []) .any v w') a cs1 w:=fun a ha cs1 hcs=>by
  refine wpSIn_of_wpIn rfl (wpIn_mono (aU hm hrc none iC _ _ _ _ _ YOk.body rfl h (hw0 _ _ _ ha)) fun e a' w' ⟨s00,⟨s,hw,hq⟩,hA0⟩=>?_);obtain⟨G1,m1,hA'⟩:=hw _ _ _ hA0;obtain⟨v,hv,hp⟩:=wW hrs0 rfl rfl rfl rfl hS hA' hq;have hd:a'.defers=[]:=(iR.1 hA'.defers).2.2 rfl;have hp':nC w G m (eX bs' []) .any v w':=by obtain⟨G2,m2,a1,_,a3⟩:=hp;exact⟨G2,m2,a1,aC6,a3⟩
  rcases hq.1 with rfl|rfl<;>exact⟨hd,u1,hcs,v,hv,rfl,v,rfl,hp'⟩
 have hab:∀f',o.about P w (({tmps:=vs++ey (fn.ntmps-vs.size) undef,defers:=[]}:Act).eval)=some f'->(FR none).fn f':=fun f' _=>lF none f';have hw:Region.wanted o (yielded #[o] (vs++ey (fn.ntmps-vs.size) undef))=true:=by simp[Region.wanted,hog]
 show wpOpsSIn _ _ _ #[o] _ [0] _ _ _;unfold wpOpsSIn;simp only[List.getElem?_toArray,List.getElem?_cons_zero];refine⟨hab,?_⟩;rw[if_pos hw,hrun];rcases hrec c0 cs hu with⟨h1,h2,h3⟩|h1
 ·rw[h1];simp only;unfold wpOpsSIn;refine key _ ?_ _ ?_
  ·rw[hot];exact hsim _ h2.symm
  ·rw[h3,<-hu]
 ·rw[h1];simp only;unfold wpOpsSIn;refine key _ ?_ _ rfl;rw[hot];exact hsim _ rfl
theorem vC{P:Program}{fn:Func}{E:Ent}{G:Gh}{m:HM}{s:AState}{R:Ending->World->Prop}{tmps:Array Value}{u:FrameMode}(hu:u≠.run):∀(ms:List Deferred) (w:World),AtS E G m s {tmps:=tmps,defers:=ms++E.dt} w->Marks (E.w0.heap.size+E.sk) E.nd ms w->
  (∀w',AtS E G m s {tmps:=tmps,defers:=E.dt} w'->LeavesInM (FR none) 0 P fn tmps R E.dt u w')->LeavesInM (FR none) 0 P fn tmps R (ms++E.dt) u w
 |[],w,h,_,hR=>hR w h
 |d::ms,w,h,hM,hR=>by
  obtain⟨r,rfl,hr1,hr2⟩:=hM.1 d (by simp);have hnd:=hM.2.1;have hM':Marks (E.w0.heap.size+E.sk) E.nd ms (w.putObj r (.deferred none)):=by refine⟨fun d' hd'=>?_,(dw.1 hnd).2,fun e=>by have:=hM.2.2 e;cases this⟩;obtain⟨r',rfl,q1,q2⟩:=hM.1 d' (by simp[hd']);refine⟨r',rfl,q1,?_⟩;rw[World.putObj_heap_other (fun e=>(dw.1 hnd).1 (by subst e;exact hd'))];exact q2
  refine⟨hu,.inl ⟨r,w.putObj r (.deferred none),rfl,run_takeDeferred hr2,vC hu ms _ ?_ hM' hR⟩⟩;exact⟨h.sim.putObj hr2 rfl,h.env,h.size,⟨ms,rfl,hM'⟩,E.Jput _ _ _ _ h.jok hr1,h.fresh,h.frame.putObj (cj (fy _ _) hr1),h.base,h.own,h.noO,h.nxOk⟩
def aP2(P:Program)(N n:Nat)(g:FuncId)(k:Nat)(rs:List RRes)(r:AV)(bs':List (Option Blk))(nbs:List Blk):Exit->AState->Prop:=fun e s=>
 ∃u u1,(((e=.normal\/e=.ret)/\u=.returning/\u1=.returning)\/∃pv,e=.panic [{v:=pv,recovered:=false}]/\u=.panicking [{v:=pv,recovered:=false}]/\u1=.panicking [{v:=pv,recovered:=true}])/\
  ∃hs bs2,hs.Nodup/\aG6 s.nx hs=true/\(∀h∈hs,(s.lk h).any Blk.isIt=false)/\bs2.length=hs.length/\
  DRec P g (AV.convL s.lk (vB hs) (aCf N s k)) (oP s.lk hs) u u1 bs2/\lW n rs r bs' nbs .ret (dV s hs (aCf N s k) none .any bs2 [])
theorem ACall.of_bodyDR(fl:List Nat){f:FuncId}(cs:List Code){od:Oper}{cl:Call}{g:FuncId}{rest:Code}{r:AV}
  (hf:P.funcs[f]?=some fn) (hb:fn.body=some (cs.foldr Code.seq (.seq (.region id ops false) rest))) (hname:(fn.name== "runtime.NumGoroutine")=false) (hm:P.follows .mixedOrders=true)
  (hcs:iV P fl fn.ntmps cs=some rcs) (hops:ops.toList=os++[od]) (hod:od.op=.defer cl) (hog:od.guard=none) (hdst:od.dst=none) (hcl:cl.callee=.value (.func g)) (hxs:cl.args.toList.all (Operand.inN fn.ntmps)=true)
  (hos:cZ P fl fn.ntmps ops os=some ros) (hrest:aE P fl fn.ntmps rest=some rc) (hrs:bT P fn.ntmps fn.results.toList=some rs)
  (hn:args.length<=fn.ntmps) (hw0:Wk (entry args bs) s0) (h:vR P rcs (fun s=>iD P ros s fun s'=>dK P iC rc (aP2 P fn.ntmps bs.length g cl.args.size rs r bs' nbs) (aTs fn.ntmps (cl.args.toList.map s'.ev) s')) (lW bs.length rs r bs' nbs) s0):ACall P f args bs r bs' nbs:=by
 have hrs0:=xQ hrs;refine fun w G m vs hS hO hA=>.inl ⟨⟨fn,hf,by rw[hb];rfl,hname⟩,zI (r:=none) (n:=0) (callsIn_of_wp_marks hf hb (lF none f) ?_)⟩;have hent:=pW true hn hS hO hA;refine aHo hm (N:=fn.ntmps) rfl (fun s a1 w1 hK hA1=>?_) (fun e s a1 w1 hq hA1=>?_) hcs h (hw0 _ _ _ ⟨G,m,hent⟩)
 ·refine wpIn_seq (wpIn_region_list ?_);rw[hops];refine aHa (gW hos) hK hA1 fun s' a2 w2 hq ⟨G2,m2,hA2⟩=>?_;unfold wpListIn;rw[if_pos (by simp[Region.wanted,hog])];unfold Oper.wpIn;refine⟨fun f' _=>lF none f',?_⟩;rw[aT8,Oper.semAt_none];have hexec:(execOp a2.eval od).run P w2=.ok (.defer {target:=.fn (.func g) #[],args:=cl.args.map a2.eval}) w2:=by simp only[execOp,hod,resolve,hcl,Deferred.ofValue,Act.eval,Sem.run_bind];simp
  rw[hexec,Oper.uponIn_defer,hdst];unfold wpListIn;show Exit.then _ _ .normal _ _;show rest.wpIn _ _ _ _ _ _;have hd0:a2.defers=[]:=(iR.1 hA2.defers).2.2 rfl;obtain⟨d,hd⟩:∃d:Deferred,d={target:=.fn (.func g) #[],args:=cl.args.map a2.eval}:=⟨_,rfl⟩;have hrl:AV.RepL G2 m2 (cl.args.toList.map s'.ev) d.args.toList:=by rw[hd,dx];exact AV.RepL_map fun x hx=>hA2.evs x (c6.1 hxs x hx)
  let E2:Ent:={w0:=w,G0:=G,m0:=m,N:=fn.ntmps,cv:=aQm fun i=>d.args.toList.getD i undef,dt:=[d]};have hE2v:∀a t,E2.val a (fn.ntmps+1+t)=d.args.toList.getD t undef:=fun a t=>aXb (E:=E2) (f:=fun i=>d.args.toList.getD i undef) rfl t;have hA3:AtS E2 G2 m2 (aTs fn.ntmps (cl.args.toList.map s'.ev) s') {a2 with defers:=d::a2.defers} w2:=by
   refine hA2.turn (E':=E2) _ rfl rfl rfl hA2.sim hA2.frame (aYn (N:=fn.ntmps) (v:=E2.val _) (fun t ht=>?_) aC6 fun t=>?_) hA2.size ⟨[],by rw[hd0];rfl,Marks.nil⟩ trivial
   ·have:=hA2.env t;rw[Ent.val_lt ht]at this;rw[Ent.val_lt (E:=E2) ht];exact this
   ·rw[hE2v];rw[bc,bc];cases h1:(cl.args.toList.map s'.ev)[t]?with
    |none=>exact aC6
    |some x=>
     obtain⟨v,h2,h3⟩:=AV.RepL_get hrl h1;rw[h2];exact h3
  rw[<-hd];refine wpIn_mono (aU hm hrest none iC E2 _ _ _ _ YOk.body rfl hq ⟨G2,m2,hA3⟩) fun e a' w' ⟨s,hq,G1,m1,hA1⟩=>?_;obtain⟨u,u1,he,hs,bs2,hnd,hok,hits,hlen,hcall,hend⟩:=hq;obtain⟨tmps,ds⟩:=a';obtain⟨ms,e1,hM⟩:=hA1.defers;have e1:ds=ms++E2.dt:=e1;subst e1;obtain⟨fd,hfd,hbd,hnm⟩:=hcall.1;have hset:settle u1=.returning:=by rcases he with⟨_,_,rfl⟩|⟨pv,_,_,rfl⟩<;>rfl
  have hur:u≠.run:=by rcases he with⟨_,rfl,_⟩|⟨pv,_,rfl,_⟩<;>(intro e;cases e)
  have key:LeavesInM (FR none) 0 P fn tmps (fun e w'=>∃v,e=.returned v/\nC w G m (eX bs' nbs) r v w') (ms++E2.dt) u w':=by
   refine vC (E:=E2) hur ms w' hA1 hM fun w4 h4=>?_;refine⟨hur,.inr ⟨fun hd=>by simp[FR,Fence.wide]at hd,.func g,#[],g,d.args,by rw[hd],?_,fun f' _=>lF none f',?_⟩⟩
   ·rw[hd];have hnone:fd.body.isNone=false:=by cases hb2:fd.body<;>rw[hb2]at hbd<;>simp_all
    simp only[invoke,callFunc,Sem.run_bind,run_program,hfd,hnm,hnone,ew,if_false,Result.andThen_ok];simp
   ·obtain⟨c1,c2,c3,c4⟩:=aHl (s:=s) (dst:=none) (vals:=aCf fn.ntmps s cl.args.size) (r:=.any) (nbs:=[]) hnd hok hits hlen;have hrep4:AV.RepL G1 m1 (aCf fn.ntmps s cl.args.size) d.args.toList:=by
     have:=aLu (G:=G1) (m:=m1) (N:=fn.ntmps) (s:=s) (vs:=d.args.toList) (fun i v hi=>by
      have:=h4.env (fn.ntmps+1+i);rw[hE2v,bc,hi]at this;exact this) cl.args.size (by rw[hd];simp)
     rwa[List.take_of_length_le (by rw[hd];simp)]at this
    obtain⟨G3,m3,hS3,hO3,hr3,hpost⟩:=c4 G1 m1 w4 d.args h4.sim hrep4 (fun j hj _=>h4.fresh j hj);refine(hcall.2 w4 G3 m3 d.args hS3 hO3 hr3).mono ?_;rintro e u' w5 ⟨hu',v,rfl,hp⟩;have hA5:AtS {w0:=w,G0:=G,m0:=m,N:=fn.ntmps,cv:=aQm fun i=>d.args.toList.getD i undef:Ent} G1 m1 s {tmps:=tmps,defers:=[]} w4:=
     ⟨h4.sim,h4.env,h4.size,iR.2 Marks.nil,trivial,h4.fresh,h4.frame,h4.base,h4.own,trivial,h4.nxOk⟩
    obtain⟨s6,hw6,hq6⟩:=hend;obtain⟨G6,m6,hA6⟩:=hw6 _ _ _ (hA5.epost (fun t=>c1 t (by simp)) c2 c3 (hpost v w5 hp));obtain⟨v6,hv6,hp6⟩:=wW hrs0 rfl rfl rfl rfl hS hA6 hq6;show LeavesInM _ _ _ _ _ _ [] (settle u') _;rw[hu',hset];exact⟨v6,hv6,v6,rfl,hp6⟩
  rcases he with⟨rfl|rfl,rfl,_⟩|⟨pv,rfl,rfl,_⟩<;>exact key
 ·obtain⟨s',hw,hq⟩:=hq;obtain⟨G1,m1,hA'⟩:=hw _ _ _ hA1;have key:∀w',AtS {w0:=w,G0:=G,m0:=m,N:=fn.ntmps,nd:=true:Ent} G1 m1 s' {tmps:=a1.tmps,defers:=[]} w'->∃v,(results fn a1.tmps).run P w'=.ok v w'/\∃v',Ending.returned v=.returned v'/\nC w G m (eX bs' nbs) r v' w':=fun w' hA'=>by obtain⟨v,hv,hp⟩:=wW hrs0 rfl rfl rfl rfl hS hA' hq;exact⟨v,hv,v,rfl,hp⟩
  rcases hq.1 with rfl|rfl<;>exact vO rfl a1.defers w1 hA' key
theorem ACall.of_bodyRR(fl:List Nat){f:FuncId}{g:FuncId}{r:AV}
  (hf:P.funcs[f]?=some fn) (hb:fn.body=some c) (hname:(fn.name== "runtime.NumGoroutine")=false) (hm:P.follows .mixedOrders=true)
  (hrc:cM P fl fn.ntmps c=some (rcs,ros,g,xs,rc)) (hrs:bT P fn.ntmps fn.results.toList=some rs)
  (hn:args.length<=fn.ntmps) (hw0:Wk (entry args bs) s0) (h:vR P rcs (fun s=>iD P ros s fun s'=>dK P iC rc (aP2 P fn.ntmps bs.length g xs.length rs r bs' nbs) (aTs fn.ntmps (xs.map s'.ev) s')) (lW bs.length rs r bs' nbs) s0):ACall P f args bs r bs' nbs:=by obtain⟨cs,id,ops,os,od,cl,rest,rfl,h0,h1,h2,h3,h4,h5,h6,h7,rfl,h8⟩:=vG hrc;exact ACall.of_bodyDR fl cs hf hb hname hm h0 h1 h2 h3 h4 h5 h6 h7 h8 hrs hn hw0 (by simpa using h)
end Go.Eng

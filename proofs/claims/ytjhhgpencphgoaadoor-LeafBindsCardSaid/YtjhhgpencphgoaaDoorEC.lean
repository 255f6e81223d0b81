/- Texts of this claim. -/
import Derived.Test.YtjhhgpencphgoaaDoorEB
import Derived.Maps.RangeRun
import Derived.Scope
import Derived.Orders
import Derived.RangeFuncIn
import Derived.DefersIn
import Derived.RecoverIn
open Array renaming getD_eq_getD_getElem?->cp,getElem?_eq_some_iff->bx,getElem?_setIfInBounds_ne->gv,length_toList->e7,replicate->fj,toList_append->ep,toList_map->eu
open Bool renaming and_eq_true->μ,false_eq_true->fg,false_or->ia,not_eq_true'->dh,not_true->d9,or_eq_true->fh
open Classical renaming propDecidable->i4
open List renaming all_eq_true->di,contains_eq_mem->jh,getD_eq_getElem?_getD->bk,getElem?_eq_getElem->ν,getElem?_eq_none->dc,getElem?_eq_some_iff->ω,getElem?_inj->i9,getElem?_map->τ,length_nil->bv,map_cons->df,mem_cons->cq,mem_filter->ξ,mem_map->db,mem_of_getElem?->cf,mem_range->fq,mem_singleton->bo,nodup_cons->eq,range->dm
open Nat renaming beq->χ,le_add_right->ge,le_refl->π,le_trans->cx,lt_irrefl->iy,lt_of_le_of_ne->jw,lt_of_lt_of_le->d7,lt_or_ge->dv,lt_or_gt_of_ne->iz,lt_trichotomy->fy,strongRecOn->gz
open Option renaming bind_eq_some_iff->ε,bind_some->jf,isNone_iff_eq_none->gn,isSome_iff_exists->du,ite_none_right_eq_some->δ,map_eq_some_iff->ζ
set_option linter.all false
namespace Go.Eng
open Go.RowKit
variable{P:Program}{o:Oper}{x y f i:Operand}{N k id j t bytes sz off n e:Nat}{ops:Array Oper}{s s' s0:AState}{E:Ent}{w w':World}{b:Mk}{op0 op:ROp}{G:Gh}{m:HM}{a a':Act}{ro:RO}{c:Code}{ros:List RO}{kd:KD}{Q:Exit->Act->World->Prop}{fn:Func}{K:AState->Prop}{r ag rd:Option Nat}{bs bs':List (Option Blk)}{fl σ slots:List Nat}{args zs:List AV}{st:Nat->AState}{nbs:List Blk}{lk:aY}{next:Act->World->Prop}{z:AV}{ok str:Bool}{lo hi mx:Option Operand}{pv:Value}{L:Nat->Prop}{listed:Array Bool}{g:Nat->Nat}{R:Ending->World->Prop}{tmps vs:Array Value}{ev:Operand->AV}{os:List Oper}{xs:List Operand}{u:FrameMode}
section
variable{P:Program}{o:Oper}
def bGh(s:AState)(dst:Option Nat)(K:AState->Prop):AV->Prop
 |.itr h hi=>(s.lk hi).isSome=true/\∃kd es cur rem,s.lk h=some (.mp kd es (some (hi,cur,rem)))/\(rem=[]->K (s.put dst (.tup [.D (.B false)]) [] []))/\
  ∀j key,rem[j]?=some key->K ((s.setBlk h (some (.mp kd es (some (hi,[key],rem.eraseIdx j))))).put dst (.tup [.D (.B true),.any,.any]) [] [])
 |_=>False
end
structure ResO (P:Program) (ops:Array Oper) (N:Nat) (o:Oper) (ro:RO):Prop where
 op:ro.op=.stop\/∃b op0,aA P o=some op0/\ro.op=bG b op0
 dst:ro.dst=o.dst
 lt:∀d,o.dst=some d->d<N
 xs:∀x∈ro.op.operands,x.inN N=true
 guard:match o.guard with
  |none=>ro.guard=none
  |some (j,want)=>∃t,(ops[j]?).bind (·.dst)=some t/\t<N/\ro.guard=some (t,want)
def bE1:Nat:=3000000
def bFk:Nat:=4000000
def bD5:Nat:=5000000
def aJn(fl:List Nat)(o:Oper):Mk:=
 match o.op with
 |.call c=>match c.callee with
  |.value (.func f)=>if fl.contains (bFk+f)=true then .d else if fl.contains (bD5+f)=true then .e else match o.dst with|some d=>if fl.contains d=true then .e else .n|none=>.n
  |_=>match o.dst with|some d=>if fl.contains d=true then .e else .n|none=>.n
 |_=>match o.dst with|some d=>if fl.contains d=true then .e else if fl.contains (bE1+d)=true then .d else .n|none=>.n
def aAk(P:Program)(fl:List Nat)(N:Nat)(ops:Array Oper)(o:Oper):Option RO:=
 match((aA P o).map (bG (aJn fl o))).getD .stop with
 |op=>
  if((match o.dst with|some d=>decide (d<N)|none=>true)&&op.operands.all (Operand.inN N))=true then
   match o.guard with
   |none=>some ⟨o.dst,op,none⟩
   |some (j,want)=>match(ops[j]?).bind (·.dst)with
    |some t=>if t<N then some ⟨o.dst,op,some (t,want)⟩else none
    |none=>none
  else none
theorem aEb(h:aAk P fl N ops o=some ro):ResO P ops N o ro:=by
 unfold aAk at h;have hop:((aA P o).map (bG (aJn fl o))).getD .stop=.stop\/∃b op0,aA P o=some op0/\((aA P o).map (bG (aJn fl o))).getD .stop=bG b op0:=by
  cases hr:aA P o with
  |none=>exact .inl rfl
  |some op0=>exact .inr ⟨_,op0,rfl,rfl⟩
 generalize((aA P o).map (bG (aJn fl o))).getD .stop=op at h hop;simp only at h;rw[δ]at h;obtain⟨hd,h⟩:=h;rw[μ]at hd;obtain⟨hd,hxs⟩:=hd;rw[di]at hxs;have hlt:∀d,o.dst=some d->d<N:=fun d e=>by rw[e]at hd;simpa using hd
 split at h
 ·rename_i hg;cases h;exact⟨hop,rfl,hlt,hxs,by rw[hg]⟩
 ·rename_i j want hg;split at h
  ·rename_i t ht;rw[δ]at h;obtain⟨htN,h⟩:=h;cases h;exact⟨hop,rfl,hlt,hxs,by rw[hg];exact⟨t,ht,htN,rfl⟩⟩
  ·cases h
def ROp.mkd:ROp->Bool
 |.loadS _ _=>true
 |.faddrS _ _=>true
 |.nilcS _=>true
 |.lenS _ _=>true
 |.bsF _ _=>true
 |.stop=>true
 |.loadD _ _=>true
 |.iaddrD _ _ _=>true
 |.sllD _ _ _ _ _=>true
 |.callP _ _=>true
 |.mkmW _=>true
 |_=>false
theorem ResO.pure(hr:ResO P ops N o ro)(he:ro.op.eff=false)(hne:ro.op.mkd=false):aA P o=some ro.op:=by
 obtain⟨b,op0,h1,h2⟩:=hr.op.resolve_left (fun e=>by rw[e]at hne;cases hne);have:ro.op=op0:=by
  rw[h2]at he hne|-;cases b with
  |n=>rfl
  |e=>cases op0<;>first|rfl|(cases he;done)|(cases hne;done)|(simp only[bG,gE]at hne|-;split<;>rename_i e<;>simp only[e]at hne<;>first|(cases hne;done)|rfl)
  |d=>cases op0<;>first|rfl|(cases he;done)|(cases hne;done)
 rw[this];exact h1
theorem aD4(he:ro.op.eff=false):mH P s ro K=aQ P s.lk s.nx s.ev ro.op fun a nbs fz=>K (s.put ro.dst a nbs fz):=by
 unfold mH;split
 ·rename_i h;rw[h]at he;cases he
 ·rename_i h;rw[h]at he;cases he
 ·rename_i h;rw[h]at he;cases he
 ·rename_i h;rw[h]at he;cases he
 ·rename_i h;rw[h]at he;cases he
 ·rename_i h;rw[h]at he;cases he
 ·rename_i h;rw[h]at he;cases he
 ·rename_i h;rw[h]at he;cases he
 ·rename_i h;rw[h]at he;cases he
 ·rename_i h;rw[h]at he;cases he
 ·rfl
theorem aY3(h:aA P o=some (.app k bytes x y)):∃c t u e d i,o.op=.call c/\c.callee=.builtin .append/\c.args.toList=[x,y]/\c.argTypes.toList=[t,u]/\
  P.underlying t=some (.slice e)/\P.underlying u=some d/\(d=.string\/∃e',d=.slice e')/\P.info? e=some i/\i.zero.any (fun z=>z.cells.size==i.size)=true/\0<i.bytes/\k=i.size/\bytes=i.bytes:=by
 cases ho:o.op
 case call c=>
  cases hc:c.callee
  case builtin b=>
   cases b
   case append=>
    simp only[aA,ho,hc]at h;split at h
    case h_2=>cases h
    rename_i x' y' t u ha ht;split at h
    case h_1=>
     simp only[ε,δ]at h;obtain⟨i,hi,z,hz,_,h⟩:=h;cases h
    case h_3=>cases h
    rename_i e d _ hd1 hd2;simp only[ε]at h;obtain⟨i,hi,h⟩:=h;rw[δ]at h;obtain⟨hcond,h⟩:=h;cases h;simp only[μ,decide_eq_true_eq]at hcond;obtain⟨⟨⟨h1,h2⟩,h3⟩,h4⟩:=hcond;refine⟨c,t,u,e,d,i,rfl,hc,ha,ht,hd1,hd2,?_,hi,h4,h3,rfl,rfl⟩;cases d
    case string=>exact .inl rfl
    case slice=>exact .inr ⟨_,rfl⟩
    all_goals(simp at h1)
   all_goals(exfalso;simp only[aA,ho,hc]at h;(repeat' split at h)<;>simp_all[ε,ζ,δ])
  all_goals(exfalso;simp only[aA,ho,hc]at h;cases h)
 case field=>exfalso;simp only[aA,ho,ε]at h;obtain⟨f,_,h⟩:=h;split at h<;>cases h
 all_goals(exfalso;simp only[aA,ho]at h;(repeat' split at h)<;>simp_all[ε,ζ,δ])
theorem aQu(h:aA P o=some (.store sz x y)):∃T i,o.op=.store T x y/\o.dst=none/\P.info? T=some i/\sz=i.size:=by
 cases ho:o.op
 case store T x' y'=>
  simp only[aA,ho,δ,ζ]at h;obtain⟨hdst,i,hi,he⟩:=h;cases he;exact⟨T,i,rfl,by simpa using hdst,hi,rfl⟩
 case field=>exfalso;simp only[aA,ho,ε]at h;obtain⟨f,_,h⟩:=h;split at h<;>cases h
 all_goals(exfalso;simp only[aA,ho]at h;(repeat' split at h)<;>simp_all[ε,ζ,δ])
theorem aMy(h:ROp.store sz x y=bG b op0):op0=.store sz x y:=by cases b<;>cases op0<;>first|(cases h;done)|(cases h;rfl)|(simp only[bG,gE]at h;split at h<;>cases h)
theorem aSj(h:ROp.appE k bytes x y=bG b op0):op0=.app k bytes x y\/op0=.appE k bytes x y:=by cases b<;>cases op0<;>first|(cases h;done)|(cases h;exact .inl rfl)|(cases h;exact .inr rfl)|(simp only[bG,gE]at h;split at h<;>cases h)
theorem aX2(h:aA P o=some (.appE k bytes x y)):False:=by
 cases ho:o.op
 case field=>simp only[aA,ho,ε]at h;obtain⟨f,_,h⟩:=h;split at h<;>cases h
 all_goals(simp only[aA,ho]at h;(repeat' split at h)<;>simp_all[ε,ζ,δ])
theorem aF4{args:List Operand}(h:ROp.callE f args=bG b op0):op0=.call f args\/op0=.callE f args:=by cases b<;>cases op0<;>first|(cases h;done)|(cases h;exact .inl rfl)|(cases h;exact .inr rfl)|(simp only[bG,gE]at h;split at h<;>cases h)
theorem aK7{args:List Operand}(h:aA P o=some (.callE f args)):False:=by
 cases ho:o.op
 case field=>simp only[aA,ho,ε]at h;obtain⟨f,_,h⟩:=h;split at h<;>cases h
 all_goals(simp only[aA,ho]at h;(repeat' split at h)<;>simp_all[ε,ζ,δ])
theorem sU{args:List Operand}(h:aA P o=some (.call f args)):∃c,o.op=.call c/\c.callee=.value f/\c.args.toList=args:=by
 cases ho:o.op
 case call c=>
  simp only[aA,ho]at h;split at h
  ·rename_i g hg;cases h;exact⟨c,rfl,hg,rfl⟩
  all_goals(exfalso;(repeat' split at h)<;>simp_all[ε,ζ,δ])
 case field=>exfalso;simp only[aA,ho,ε]at h;obtain⟨f,_,h⟩:=h;split at h<;>cases h
 all_goals(exfalso;simp only[aA,ho]at h;(repeat' split at h)<;>simp_all[ε,ζ,δ])
theorem aSe{zs:List DV}(h:ROp.clr k zs x=bG b op0):op0=.clr k zs x:=by cases b<;>cases op0<;>first|(cases h;done)|(cases h;rfl)|(simp only[bG,gE]at h;split at h<;>cases h)
theorem aUw(h:ROp.cpy k x y=bG b op0):op0=.cpy k x y:=by cases b<;>cases op0<;>first|(cases h;done)|(cases h;rfl)|(simp only[bG,gE]at h;split at h<;>cases h)
theorem aYl{zs:List DV}(h:aA P o=some (.clr k zs x)):∃c t e i z,o.op=.call c/\c.callee=.builtin .clear/\c.args.toList=[x]/\c.argTypes.toList=[t]/\
  P.underlying t=some (.slice e)/\P.info? e=some i/\i.zero=some z/\z.cells.size=i.size/\(z.cells.toList.map fC).all DV.one=true/\k=i.size/\zs=z.cells.toList.map fC:=by
 cases ho:o.op
 case call c=>
  cases hc:c.callee
  case builtin b=>
   cases b
   case clear=>
    simp only[aA,ho,hc]at h;split at h
    case h_2=>cases h
    rename_i x' t ha ht;split at h
    case h_2=>cases h
    rename_i e hd1;simp only[ε,δ,μ,beq_iff_eq]at h;obtain⟨i,hi,z,hz,⟨h1,h2⟩,h⟩:=h;cases h;exact⟨c,t,e,i,z,rfl,hc,ha,ht,hd1,hi,hz,h1,h2,rfl,rfl⟩
   all_goals(exfalso;simp only[aA,ho,hc]at h;(repeat' split at h)<;>simp_all[ε,ζ,δ])
  all_goals(exfalso;simp only[aA,ho,hc]at h;cases h)
 case field=>exfalso;simp only[aA,ho,ε]at h;obtain⟨f,_,h⟩:=h;split at h<;>cases h
 all_goals(exfalso;simp only[aA,ho]at h;(repeat' split at h)<;>simp_all[ε,ζ,δ])
theorem aWo(h:aA P o=some (.cpy k x y)):∃c t u e i,o.op=.call c/\c.callee=.builtin .copy/\c.args.toList=[x,y]/\c.argTypes.toList=[t,u]/\
  P.underlying t=some (.slice e)/\P.info? e=some i/\k=i.size:=by
 cases ho:o.op
 case call c=>
  cases hc:c.callee
  case builtin b=>
   cases b
   case copy=>
    simp only[aA,ho,hc]at h;split at h
    case h_2=>cases h
    rename_i x' y' t u ha ht;split at h
    case h_2=>cases h
    rename_i e hd1;simp only[ζ]at h;obtain⟨i,hi,h⟩:=h;cases h;exact⟨c,t,u,e,i,rfl,hc,ha,ht,hd1,hi,rfl⟩
   all_goals(exfalso;simp only[aA,ho,hc]at h;(repeat' split at h)<;>simp_all[ε,ζ,δ])
  all_goals(exfalso;simp only[aA,ho,hc]at h;cases h)
 case field=>exfalso;simp only[aA,ho,ε]at h;obtain⟨f,_,h⟩:=h;split at h<;>cases h
 all_goals(exfalso;simp only[aA,ho]at h;(repeat' split at h)<;>simp_all[ε,ζ,δ])
theorem aMj(h:ROp.mtake kd z k ok x y=bG b op0):op0=.mget kd z k ok x y\/op0=.mtake kd z k ok x y:=by cases b<;>cases op0<;>first|(cases h;done)|(cases h;exact .inl rfl)|(cases h;exact .inr rfl)|(simp only[bG,gE]at h;split at h<;>cases h)
theorem aQ6{z:Operand}(h:ROp.mput kd x y z=bG b op0):op0=.mput kd x y z:=by cases b<;>cases op0<;>first|(cases h;done)|(cases h;rfl)|(simp only[bG,gE]at h;split at h<;>cases h)
theorem aQh(h:ROp.mdel kd x y=bG b op0):op0=.mdel kd x y:=by cases b<;>cases op0<;>first|(cases h;done)|(cases h;rfl)|(simp only[bG,gE]at h;split at h<;>cases h)
theorem aUm(h:ROp.rng kd x=bG b op0):op0=.rng kd x:=by cases b<;>cases op0<;>first|(cases h;done)|(cases h;rfl)|(simp only[bG,gE]at h;split at h<;>cases h)
theorem aRv(h:ROp.entT x=bG b op0):op0=.ent x\/op0=.entT x:=by cases b<;>cases op0<;>first|(cases h;done)|(cases h;exact .inl rfl)|(cases h;exact .inr rfl)|(simp only[bG,gE]at h;split at h<;>cases h)
theorem aYz(h:aA P o=some (.entT x)):False:=by
 cases ho:o.op
 case field=>simp only[aA,ho,ε]at h;obtain⟨f,_,h⟩:=h;split at h<;>cases h
 all_goals(simp only[aA,ho]at h;(repeat' split at h)<;>simp_all[ε,ζ,δ])
theorem aRj(h:ROp.mkmW kd=bG b op0):op0=.mkm kd\/op0=.mkmW kd:=by cases b<;>cases op0<;>first|(cases h;done)|(cases h;exact .inl rfl)|(cases h;exact .inr rfl)|(simp only[bG,gE]at h;split at h<;>cases h)
theorem aWx(h:aA P o=some (.mkmW kd)):False:=by
 cases ho:o.op
 case field=>simp only[aA,ho,ε]at h;obtain⟨f,_,h⟩:=h;split at h<;>cases h
 all_goals(simp only[aA,ho]at h;(repeat' split at h)<;>simp_all[ε,ζ,δ])
theorem aUy(h:aA P o=some (.mtake kd z k ok x y)):False:=by
 cases ho:o.op
 case field=>simp only[aA,ho,ε]at h;obtain⟨f,_,h⟩:=h;split at h<;>cases h
 all_goals(simp only[aA,ho]at h;(repeat' split at h)<;>simp_all[ε,ζ,δ])
theorem aU9(h:aA P o=some (.mget kd z k ok x y)):∃T k0 e i z0,o.op=.lookup T x y ok/\P.underlying T=some (.map k0 e)/\aTt P k0 kd/\P.info? e=some i/\i.zero=some z0/\z=aHm z0:=by
 cases ho:o.op
 case lookup T x' y' ok'=>
  simp only[aA,ho,ε,ζ]at h;obtain⟨⟨kd',e⟩,hT,i,hi,z0,hz,h⟩:=h;cases h;obtain⟨k0,h1,h2⟩:=mX hT;exact⟨T,k0,e,i,z0,rfl,h1,h2,hi,hz,rfl⟩
 case field=>exfalso;simp only[aA,ho,ε]at h;obtain⟨f,_,h⟩:=h;split at h<;>cases h
 all_goals(exfalso;simp only[aA,ho]at h;(repeat' split at h)<;>simp_all[ε,ζ,δ])
theorem aUf{z:Operand}(h:aA P o=some (.mput kd x y z)):∃T k0 e,(o.op=.mapUpdate T x y z\/o.op=.insert T x y z)/\o.dst=none/\P.underlying T=some (.map k0 e)/\aTt P k0 kd:=by
 cases ho:o.op
 case mapUpdate T x' y' z'=>
  simp only[aA,ho,δ,ζ]at h;obtain⟨hd,⟨kd',e⟩,hT,h⟩:=h;cases h;obtain⟨k0,h1,h2⟩:=mX hT;exact⟨T,k0,e,.inl rfl,by simpa using hd,h1,h2⟩
 case insert T x' y' z'=>
  simp only[aA,ho,δ,ζ]at h;obtain⟨hd,⟨kd',e⟩,hT,h⟩:=h;cases h;obtain⟨k0,h1,h2⟩:=mX hT;exact⟨T,k0,e,.inr rfl,by simpa using hd,h1,h2⟩
 case field=>exfalso;simp only[aA,ho,ε]at h;obtain⟨f,_,h⟩:=h;split at h<;>cases h
 all_goals(exfalso;simp only[aA,ho]at h;(repeat' split at h)<;>simp_all[ε,ζ,δ])
theorem aX6(h:aA P o=some (.rng kd x)):∃T k0 e,o.op=.range T x/\P.underlying T=some (.map k0 e):=by
 cases ho:o.op
 case range T x'=>
  simp only[aA,ho,ζ]at h;obtain⟨⟨kd',e⟩,hT,h⟩:=h;cases h;obtain⟨k0,h1,h2⟩:=mX hT;exact⟨T,k0,e,rfl,h1⟩
 case field=>exfalso;simp only[aA,ho,ε]at h;obtain⟨f,_,h⟩:=h;split at h<;>cases h
 all_goals(exfalso;simp only[aA,ho]at h;(repeat' split at h)<;>simp_all[ε,ζ,δ])
theorem aSg(h:aA P o=some (.mdel kd x y)):∃c T t2 k0 e,o.op=.call c/\c.callee=.builtin .delete/\c.args.toList=[x,y]/\c.argTypes.toList=[T,t2]/\o.dst=none/\P.underlying T=some (.map k0 e)/\aTt P k0 kd:=by
 cases ho:o.op
 case call c=>
  cases hc:c.callee
  case builtin b=>
   cases b
   case delete=>
    simp only[aA,ho,hc]at h;split at h
    case h_2=>cases h
    rename_i x' y' t t2 ha ht;simp only[δ,ζ]at h;obtain⟨hd,⟨kd',e⟩,hT,h⟩:=h;cases h;obtain⟨k0,h1,h2⟩:=mX hT;exact⟨c,t,t2,k0,e,rfl,hc,ha,ht,by simpa using hd,h1,h2⟩
   all_goals(exfalso;simp only[aA,ho,hc]at h;(repeat' split at h)<;>simp_all[ε,ζ,δ])
  all_goals(exfalso;simp only[aA,ho,hc]at h;cases h)
 case field=>exfalso;simp only[aA,ho,ε]at h;obtain⟨f,_,h⟩:=h;split at h<;>cases h
 all_goals(exfalso;simp only[aA,ho]at h;(repeat' split at h)<;>simp_all[ε,ζ,δ])
theorem aQl{T:TypeId}{a:Operand}{i:TypeInfo}(ho:o.op=.store T a x)(hi:P.info? T=some i)
  (h:mF (s.put none .un [] (fzL s.lk (AV.rows (s.ev x)))) i.size (AV.conv s.lk (fun _=>none) (s.ev x)) K (s.ev a)):∃s',K s'/\EOk P o [a,x] none s s':=by
 obtain⟨hdl,bl,hK,hb0,hsem⟩:=aBs ho hi h;have hlk:(s.put none .un [] (fzL s.lk (AV.rows (s.ev x)))).lk=lkF s.lk (fzL s.lk (AV.rows (s.ev x))):=by rw[iE,eY]
 refine⟨_,hK,⟨fun t _=>by rw[eC];rfl,by rw[bY];exact π _,fun hown j hj=>jB (fun i hi=>mP hown i hi) hb0 j (by rw[bY]at hj;exact hj),fun G m w ρ _ hS hev _=>?_⟩⟩;obtain⟨G1,k1,k2,k3⟩:=hS.freeze (fzL s.lk (AV.rows (s.ev x)));have ha:=hev a (by simp);have hx:=hev x (by simp);have hx1:AV.Rep G1 m (AV.conv s.lk (fun _=>none) (s.ev x)) (ρ x):=by
  refine AV.conv_rep k1 (fun h mt k es hl=>?_) (fun _ _ _ e _=>by cases e) _ _ (fun h hh mt k es _ hs hl=>?_) (AV.Rep.mono k2 (HM.le.refl m) _ _ hx)
  ·unfold lkF;split
   ·rw[hl];exact⟨_,rfl⟩
   ·exact⟨_,hl⟩
  ·unfold lkF at hl;rw[if_pos (vM hh hs)]at hl;cases hb:s.lk h with
   |none=>rw[hb]at hl;cases hl
   |some b0=>
    rw[hb]at hl;cases b0<;>first|(cases hl;rfl)|(cases hl;done)
 rw[<-hlk]at k1;obtain⟨w',hrun,hS',hF⟩:=hsem G1 m w ρ k1 (AV.Rep.mono k2 (HM.le.refl m) _ _ ha) hx1;unfold Does;rw[hrun];refine⟨G1,m,hS',(fun d hd'=>by cases hd'),⟨hF.os,hF.tape,hF.output,hF.size,hF.heap,fun b hb ho o=>?_,k2.trans hF.le⟩,HM.le.refl m,fun _=>.inl rfl,fun _ _=>.inl rfl,fun x l b hj hl=>.inr ⟨_,l,hj,hl⟩⟩;exact k3 b (fun h _ sz e=>ho (Own.at_ e)) o
theorem aLx(hr:ResO P ops N o ro)(he:ro.op.eff=true)(h:mH P s ro K):∃s',K s'/\EOk P o ro.op.operands ro.dst s s':=by
 obtain⟨b,op0,hop,hm⟩:=hr.op.resolve_left (fun e=>by rw[e]at he;cases he);unfold mH at h;split at h
 ·rename_i sz x y heq;rw[heq]at hm;rw[aMy hm]at hop;obtain⟨T,i,ho,hd,hi,rfl⟩:=aQu hop;rcases h with h|h
  rotate_left
  ·obtain⟨s',hK,hE⟩:=aQl ho hi h;exact⟨s',hK,by rw[heq,hr.dst,hd];exact hE⟩
  obtain⟨hdl,bl,hK,hb0,hsem⟩:=aBs ho hi h;refine⟨_,hK,⟨fun t _=>by rw[eC],by rw[bY];exact π _,fun hown j hj=>jB hown hb0 j (by rw[bY]at hj;exact hj),fun G m w ρ _ hS hev _=>?_⟩⟩;rw[heq]at hev;obtain⟨w',hrun,hS',hF⟩:=hsem G m w ρ hS (hev _ (by simp[ROp.operands])) (hev _ (by simp[ROp.operands]));unfold Does;rw[hrun];exact⟨G,m,hS',(fun d hd'=>by rw[hr.dst,hd]at hd';cases hd'),hF.mono (fun _ _ q=>q) (fun _ _ q=>q.elim),HM.le.refl m,fun _=>.inl rfl,fun _ _=>.inl rfl,fun x l b hj hl=>.inr ⟨_,l,hj,hl⟩⟩
 ·rename_i k bytes x y heq;rw[heq]at hm;rcases aSj hm with e|e
  ·rw[e]at hop;obtain⟨c,t,u,e,d,i,ho,hc,ha,hta,ht,hu,hd,hi,hz,hbytes,rfl,rfl⟩:=aY3 hop;obtain⟨s',hK,hE⟩:=aY7 (o:=o) ho hc ha hta ht hu hd hi hz hbytes h;exact⟨s',hK,by rw[heq];exact hE⟩
  ·rw[e]at hop;exact(aX2 hop).elim
 ·rename_i f args heq;rw[heq]at hm;rcases aF4 hm with e|e
  ·rw[e]at hop;obtain⟨c,ho,hc,rfl⟩:=sU hop;obtain⟨s',hK,hE⟩:=aSo (o:=o) ho hc h;exact⟨s',hK,by rw[heq];exact hE⟩
  ·rw[e]at hop;exact(aK7 hop).elim
 ·rename_i k zs x heq;rw[heq]at hm;rw[aSe hm]at hop;obtain⟨c,t,e,i,z,ho,hc,ha,hta,ht,hi,hz,hz',h1,rfl,rfl⟩:=aYl hop;obtain⟨s',hK,hE⟩:=aUg (o:=o) ho hc ha hta ht hi hz hz' h1 h;exact⟨s',hK,by rw[heq];exact hE⟩
 ·rename_i k x y heq;rw[heq]at hm;rw[aUw hm]at hop;obtain⟨c,t,u,e,i,ho,hc,ha,hta,ht,hi,rfl⟩:=aWo hop;obtain⟨s',hK,hE⟩:=aYi (o:=o) ho hc ha hta ht hi h;exact⟨s',hK,by rw[heq];exact hE⟩
 ·rename_i kd z k ok x y heq;rw[heq]at hm;rcases aMj hm with e|e
  ·rw[e]at hop;obtain⟨T,k0,e',i,z0,ho,hT,hk0,hi,hz,rfl⟩:=aU9 hop;exact h.elim
  ·rw[e]at hop;exact(aUy hop).elim
 ·rename_i kd x y z heq;rw[heq]at hm;rw[aQ6 hm]at hop;obtain⟨T,k0,e',ho,hd,hT,hk0⟩:=aUf hop;exact h.elim
 ·rename_i kd x y heq;rw[heq]at hm;rw[aQh hm]at hop;obtain⟨c,T,t2,k0,e',ho,hc,ha,hta,hd,hT,hk0⟩:=aSg hop;exact h.elim
 ·rename_i kd x heq;rw[heq]at hm;rw[aUm hm]at hop;obtain⟨T,k0,e',ho,hT⟩:=aX6 hop;exact h.elim
 ·rename_i x heq;rw[heq]at hm;rcases aRv hm with e|e
  ·rw[e]at hop;exact h.elim
  ·rw[e]at hop;exact(aYz hop).elim
 ·rename_i h1 h2 h3 h4 h5 h6 h7 h8 h9 h10;cases hro:ro.op<;>rw[hro]at he h<;>first|(cases he;done)|exact(h1 _ _ _ hro).elim|exact(h2 _ _ _ _ hro).elim|exact(h3 _ _ hro).elim|exact(h4 _ _ _ hro).elim|exact(h5 _ _ _ hro).elim|exact(h6 _ _ _ _ _ _ hro).elim|exact(h7 _ _ _ _ hro).elim|exact(h8 _ _ _ hro).elim|exact(h9 _ _ hro).elim|exact(h10 _ hro).elim|exact h.elim
theorem aQe(h:ROp.loadS ag x=bG b op0):op0=.load ag x\/op0=.loadS ag x:=by cases b<;>cases op0<;>first|(cases h;done)|(cases h;exact .inl rfl)|(cases h;exact .inr rfl)|(simp only[bG,gE]at h;split at h<;>cases h)
theorem aUp(h:aA P o=some (.loadS ag x)):False:=by
 cases ho:o.op
 case field=>simp only[aA,ho,ε]at h;obtain⟨f,_,h⟩:=h;split at h<;>cases h
 all_goals(simp only[aA,ho]at h;(repeat' split at h)<;>simp_all[ε,ζ,δ])
theorem aL7(h:aA P o=some (.load ag x)):∃T,o.op=.load T x:=by
 cases ho:o.op
 case load T y=>
  simp only[aA,ho]at h;split at h
  ·cases h;exact⟨T,rfl⟩
  ·cases h
 case field=>exfalso;simp only[aA,ho,ε]at h;obtain⟨f,_,h⟩:=h;split at h<;>cases h
 all_goals(exfalso;simp only[aA,ho]at h;(repeat' split at h)<;>simp_all[ε,ζ,δ])
theorem aMh(h:ROp.faddrS off x=bG b op0):(op0=.faddr off x\/op0=.faddrS off x)\/∃m k i,op0=.iaddrA m k x i/\aIh m k i=some off:=by
 cases b<;>cases op0<;>first|(cases h;done)|(cases h;exact .inl (.inl rfl))|(cases h;exact .inl (.inr rfl))|skip
 all_goals
  simp only[bG,gE]at h;split at h
  ·rename_i heq;cases h;exact .inr ⟨_,_,_,rfl,heq⟩
  ·cases h
theorem aRi(h:aA P o=some (.faddrS off x)):False:=by
 cases ho:o.op
 case field=>simp only[aA,ho,ε]at h;obtain⟨f,_,h⟩:=h;split at h<;>cases h
 all_goals(simp only[aA,ho]at h;(repeat' split at h)<;>simp_all[ε,ζ,δ])
theorem aRx(h:aA P o=some (.faddr off x)):∃T k,o.op=.fieldAddr T x k:=by
 cases ho:o.op
 case fieldAddr T y k=>
  simp only[aA,ho,ε]at h;obtain⟨f,_,i,_,h⟩:=h;split at h
  ·cases h
  ·cases h;exact⟨T,k,rfl⟩
 case field=>exfalso;simp only[aA,ho,ε]at h;obtain⟨f,_,h⟩:=h;split at h<;>cases h
 all_goals(exfalso;simp only[aA,ho]at h;(repeat' split at h)<;>simp_all[ε,ζ,δ])
theorem aNt{m:Nat}(h:aA P o=some (.iaddrA m k x i)):∃T e inf,o.op=.indexAddr T x i/\P.underlying T=some (.array m e)/\P.info? e=some inf/\k=inf.size:=by
 cases ho:o.op
 case indexAddr T y j=>
  simp only[aA,ho]at h;split at h
  ·rw[ζ]at h;obtain⟨inf,_,h⟩:=h;cases h
  ·rename_i m' e hT;rw[δ]at h;obtain⟨_,h⟩:=h;rw[ζ]at h;obtain⟨inf,hi,h⟩:=h;cases h;exact⟨T,e,inf,rfl,hT,hi,rfl⟩
  ·cases h
 case field=>exfalso;simp only[aA,ho,ε]at h;obtain⟨f,_,h⟩:=h;split at h<;>cases h
 all_goals(exfalso;simp only[aA,ho]at h;(repeat' split at h)<;>simp_all[ε,ζ,δ])
theorem aU0{ps:List Operand}(h:ROp.bsF k ps=bG b op0):op0=.bslice k ps\/op0=.bsF k ps:=by cases b<;>cases op0<;>first|(cases h;done)|(cases h;exact .inl rfl)|(cases h;exact .inr rfl)|(simp only[bG,gE]at h;split at h<;>cases h)
theorem bBw{ps:List Operand}(h:aA P o=some (.bsF k ps)):False:=by
 cases ho:o.op
 case field=>simp only[aA,ho,ε]at h;obtain⟨f,_,h⟩:=h;split at h<;>cases h
 all_goals(simp only[aA,ho]at h;(repeat' split at h)<;>simp_all[ε,ζ,δ])
theorem aMf{ps:List Operand}(h:aA P o=some (.bslice k ps)):∃T n qs,o.op=.buildSlice T n qs:=by
 cases ho:o.op
 case buildSlice T n qs=>exact⟨T,n,qs,rfl⟩
 case field=>exfalso;simp only[aA,ho,ε]at h;obtain⟨f,_,h⟩:=h;split at h<;>cases h
 all_goals(exfalso;simp only[aA,ho]at h;(repeat' split at h)<;>simp_all[ε,ζ,δ])
theorem aRu(h:ROp.nilcS x=bG b op0):op0=.nilc x\/op0=.nilcS x:=by cases b<;>cases op0<;>first|(cases h;done)|(cases h;exact .inl rfl)|(cases h;exact .inr rfl)|(simp only[bG,gE]at h;split at h<;>cases h)
theorem aUr(h:aA P o=some (.nilcS x)):False:=by
 cases ho:o.op
 case field=>simp only[aA,ho,ε]at h;obtain⟨f,_,h⟩:=h;split at h<;>cases h
 all_goals(simp only[aA,ho]at h;(repeat' split at h)<;>simp_all[ε,ζ,δ])
theorem aSr(h:ROp.lenS str x=bG b op0):op0=.len str x\/op0=.lenS str x:=by cases b<;>cases op0<;>first|(cases h;done)|(cases h;exact .inl rfl)|(cases h;exact .inr rfl)|(simp only[bG,gE]at h;split at h<;>cases h)
theorem aWn(h:aA P o=some (.lenS str x)):False:=by
 cases ho:o.op
 case field=>simp only[aA,ho,ε]at h;obtain⟨f,_,h⟩:=h;split at h<;>cases h
 all_goals(simp only[aA,ho]at h;(repeat' split at h)<;>simp_all[ε,ζ,δ])
theorem aXv{K:AV->List Blk->List Hd->Prop}(ho:aA P o=some (.len str x))(h:aQ P lk n ev (.lenS str x) K):PS P o (.lenS str x) lk n ev K:=by
 obtain⟨hs,hv,l,hl,h'⟩:=h;obtain⟨hdl,hhd⟩:=du.1 hs;have hp:aQ P (fun y=>if y=hdl then lk y else none) n ev (.len str x) (fun a nbs fz=>nbs=[]/\fz=[]/\K a nbs fz):=by
  refine⟨?_,l,hl,rfl,rfl,h'⟩;generalize hx:ev x=v at hv hhd;cases v<;>first|(cases hhd;done)|skip
  case ptr hh o=>cases hhd;simpa[AV.live]using hv
  case eptr hh k2 ix o=>cases hhd;simpa[AV.live]using hv
  case sl hh k2 ix o=>cases hhd;simpa[AV.live]using hv
 obtain⟨a,nbs,fz,⟨rfl,rfl,hK⟩,_,_,hD⟩:=uD ho hp;refine⟨a,[],[],hK,fun _=>⟨rfl,rfl⟩,(by intro h hh;cases hh),fun G m w ρ hρ lk2 hls hS hev hn=>hD G m w ρ hρ lk2 (fun _=>?_) hS hev hn⟩;have he:lk2 hdl=lk hdl:=hls hdl hhd;intro y b hb;have hy:y=hdl:=by
  by_cases e:y=hdl
  ·exact e
  ·simp only[if_neg e]at hb;cases hb
 subst hy;simp only[if_true]at hb;exact⟨b,he.trans hb,.inl rfl⟩
theorem aU7(h:aA P o=some (.nilc x)):o.op=.nilCheck x:=by
 cases ho:o.op
 case nilCheck y=>simp only[aA,ho,Option.some.injEq]at h;cases h;rfl
 case field=>exfalso;simp only[aA,ho,ε]at h;obtain⟨f,_,h⟩:=h;split at h<;>cases h
 all_goals(exfalso;simp only[aA,ho]at h;(repeat' split at h)<;>simp_all[ε,ζ,δ])
theorem aN4(h:ROp.loadD ag x=bG b op0):op0=.load ag x\/op0=.loadD ag x:=by cases b<;>cases op0<;>first|(cases h;done)|(cases h;exact .inl rfl)|(cases h;exact .inr rfl)|(simp only[bG,gE]at h;split at h<;>cases h)
theorem aV5(h:aA P o=some (.loadD ag x)):False:=by
 cases ho:o.op
 case field=>simp only[aA,ho,ε]at h;obtain⟨f,_,h⟩:=h;split at h<;>cases h
 all_goals(simp only[aA,ho]at h;(repeat' split at h)<;>simp_all[ε,ζ,δ])
theorem aRq(h:ROp.sllD k x lo hi mx=bG b op0):op0=.sll k x lo hi mx\/op0=.sllD k x lo hi mx:=by cases b<;>cases op0<;>first|(cases h;done)|(cases h;exact .inl rfl)|(cases h;exact .inr rfl)|(simp only[bG,gE]at h;split at h<;>cases h)
theorem aY9(h:aA P o=some (.sllD k x lo hi mx)):False:=by
 cases ho:o.op
 case field=>simp only[aA,ho,ε]at h;obtain⟨f,_,h⟩:=h;split at h<;>cases h
 all_goals(simp only[aA,ho]at h;(repeat' split at h)<;>simp_all[ε,ζ,δ])
theorem aYr(h:aA P o=some (.sll k x lo hi mx)):∃T e,o.op=.slice T x lo hi mx/\P.underlying T=some (.slice e):=by
 cases ho:o.op
 case slice T y l u m=>
  simp only[aA,ho]at h;split at h
  ·split at h<;>cases h
  ·rename_i e hT;rw[ζ]at h;obtain⟨inf,_,h⟩:=h;cases h;exact⟨T,e,rfl,hT⟩
  ·rw[δ,ε]at h;obtain⟨_,inf,_,h⟩:=h;split at h<;>cases h
  ·cases h
 case field=>exfalso;simp only[aA,ho,ε]at h;obtain⟨f,_,h⟩:=h;split at h<;>cases h
 all_goals(exfalso;simp only[aA,ho]at h;(repeat' split at h)<;>simp_all[ε,ζ,δ])
theorem aKv(h:ROp.iaddrD k x i=bG b op0):op0=.iaddr k x i\/op0=.iaddrD k x i:=by cases b<;>cases op0<;>first|(cases h;done)|(cases h;exact .inl rfl)|(cases h;exact .inr rfl)|(simp only[bG,gE]at h;split at h<;>cases h)
theorem aRl(h:aA P o=some (.iaddrD k x i)):False:=by
 cases ho:o.op
 case field=>simp only[aA,ho,ε]at h;obtain⟨f,_,h⟩:=h;split at h<;>cases h
 all_goals(simp only[aA,ho]at h;(repeat' split at h)<;>simp_all[ε,ζ,δ])
theorem aRf(h:aA P o=some (.iaddr k x i)):∃T e,o.op=.indexAddr T x i/\P.underlying T=some (.slice e):=by
 cases ho:o.op
 case indexAddr T y j=>
  simp only[aA,ho]at h;split at h
  ·rename_i e hT;rw[ζ]at h;obtain⟨inf,_,h⟩:=h;cases h;exact⟨T,e,rfl,hT⟩
  ·rw[δ]at h;obtain⟨_,h⟩:=h;rw[ζ]at h;obtain⟨inf,_,h⟩:=h;cases h
  ·cases h
 case field=>exfalso;simp only[aA,ho,ε]at h;obtain⟨f,_,h⟩:=h;split at h<;>cases h
 all_goals(exfalso;simp only[aA,ho]at h;(repeat' split at h)<;>simp_all[ε,ζ,δ])
theorem ResO.ps{P:Program}{ops:Array Oper}{N:Nat}{o:Oper}{ro:RO}(hr:ResO P ops N o ro)(he:ro.op.eff=false){lk:aY}{n:Nat}{ev:Operand->AV}{K:AV->List Blk->List Hd->Prop}(h:aQ P lk n ev ro.op K):PS P o ro.op lk n ev K:=by
 cases hm:ro.op.mkd
 ·exact uD (hr.pure he hm) h
 ·rcases hr.op with e|⟨b,op0,hop,hmk⟩
  ·rw[e]at h;exact h.elim
  generalize hq:ro.op=q at h hm hmk he|-;cases q<;>first|(cases hm;done)|skip
  case stop=>exact h.elim
  case loadS ag x=>
   rcases aQe hmk with e|e
   ·rw[e]at hop;obtain⟨T,ho⟩:=aL7 hop;exact aUa ho hop h
   ·rw[e]at hop;exact(aUp hop).elim
  case bsF k ps=>
   rcases aU0 hmk with e|e
   ·rw[e]at hop;obtain⟨T,n0,qs,ho⟩:=aMf hop;exact bAl ho hop h
   ·rw[e]at hop;exact(bBw hop).elim
  case nilcS x=>
   rcases aRu hmk with e|e
   ·rw[e]at hop;exact aTs (aU7 hop) h
   ·rw[e]at hop;exact(aUr hop).elim
  case lenS str x=>
   rcases aSr hmk with e|e
   ·rw[e]at hop;exact aXv hop h
   ·rw[e]at hop;exact(aWn hop).elim
  case faddrS off x=>
   rcases aMh hmk with(e|e)|⟨m,k,i,e,hc⟩
   ·rw[e]at hop;obtain⟨T,k,ho⟩:=aRx hop;exact aQo ho hop h
   ·rw[e]at hop;exact(aRi hop).elim
   ·rw[e]at hop;obtain⟨T,e',inf,ho,hT,hi,hk⟩:=aNt hop;exact aEk (fun _ _ h=>aQn ho hT hi hk hc h) h
  case loadD ag x=>
   rcases aN4 hmk with e|e
   ·rw[e]at hop;obtain⟨T,ho⟩:=aL7 hop;exact aVp ho hop h
   ·rw[e]at hop;exact(aV5 hop).elim
  case iaddrD k x i=>
   rcases aKv hmk with e|e
   ·rw[e]at hop;obtain⟨T,e',ho,hT⟩:=aRf hop;exact aQ9 ho hT hop h
   ·rw[e]at hop;exact(aRl hop).elim
  case sllD k x lo hi mx=>
   rcases aRq hmk with e|e
   ·rw[e]at hop;obtain⟨T,e',ho,hT⟩:=aYr hop;exact aY5 ho hT hop h
   ·rw[e]at hop;exact(aY9 hop).elim
  case callP f args=>exact h.elim
  case mkmW kd=>
   rcases aRj hmk with e|e
   ·rw[e]at hop;obtain⟨a,nbs,fz,q1,_,q3,q4⟩:=uD (lk:=lk) (n:=n) (ev:=ev) (K:=K) hop h;exact⟨a,nbs,fz,q1,(fun e=>by cases e),q3,fun G m w ρ hρ lk2 hls=>q4 G m w ρ hρ lk2 hls⟩
   ·rw[e]at hop;exact(aWx hop).elim
theorem aJz(hr:ResO P ops E.N o ro)(h:mH P s ro K)(hA:ASim E s a w):
  ∃s',K s'/\Does P o a.eval w fun v w'=>ASim E s' (a.put o.dst v) w':=by
 obtain⟨G,m,hA⟩:=hA;cases he:ro.op.eff with
 |true=>
  obtain⟨s',hK,hE⟩:=aLx hr he h;exact⟨s',hK,hr.dst▸hA.eff (fun d hd=>hr.lt d (by rw[<-hr.dst];exact hd)) hr.xs hE⟩
 |false=>
  rw[aD4 he]at h;obtain⟨x,nbs,fz,hK,_,_,hD⟩:=hr.ps he h;refine⟨_,hK,?_⟩;refine(hD G m w a.eval (fun _=>rfl) s.lk (Need.refl _ _ _) hA.sim (fun x hx=>hA.evs x (hr.xs x hx)) (fun j hj=>hA.fresh _ (by omega))).mono fun v w' hp=>?_;rw[hr.dst];exact hA.step hr.lt hp
def sQ(P:Program)(ops:Array Oper)(N:Nat):List Oper->List RO->Prop
 |[],[]=>True
 |o::os,ro::ros=>ResO P ops N o ro/\sQ P ops N os ros
 |_,_=>False
def aSa(r:Option Nat)(P:Program)(ops:Array Oper)(o:Oper)(next:Act->World->Prop)(Q:Exit->Act->World->Prop)(a:Act)(w:World):Prop:=
 if Region.wanted o (yielded ops a.tmps)then o.wpIn (FR r) 0 P a w next Q else(∀f,o.about P w a.eval=some f->(FR r).fn f)/\next (a.put o.dst undef) w
theorem vB(h1:ResO P ops E.N o ro)(h:iL P [ro] s K)(hA:ASim E s a w)
  (hQ:∀s' a' w',K s'->ASim E s' a' w'->next a' w'):aSa r P ops o next Q a w:=by
 unfold aSa;have run:(mH P s ro fun s'=>iL P [] s' K)->o.wpIn (FR r) 0 P a w next Q:=fun hs=>by obtain⟨s',hK,hD⟩:=aJz h1 hs hA;exact kY hD fun v w' hs'=>hQ _ _ _ hK hs'
 have skip:iL P [] (s.put ro.dst .un [] []) K->next (a.put o.dst undef) w:=fun hs=>by obtain⟨G,m,hA⟩:=hA;exact hQ _ _ _ hs (by rw[h1.dst];exact hA.skip h1.lt)
 unfold iL at h;have hg:=h1.guard;cases hog:o.guard with
 |none=>
  rw[hog]at hg;simp only at hg;rw[hg]at h;rw[if_pos (by simp[Region.wanted,hog])];exact run h
 |some g=>
  obtain⟨j,want⟩:=g;rw[hog]at hg;obtain⟨t,ht,htN,hg⟩:=hg;rw[hg]at h;simp only at h;obtain⟨G,m,hA'⟩:=hA;have hrep:=hA'.env t;rw[Ent.val_lt htN]at hrep;have hy:yielded ops a.tmps j=match a.tmps.getD t undef with|.bool b=>some b|_=>none:=by
   unfold yielded;rw[ht];simp only[jf,cp];cases a.tmps[t]?with
   |none=>rfl
   |some v=>cases v<;>rfl
  split at h
  ·rename_i c hc;rw[hc]at hrep;have hv:=zG hrep;rw[hv]at hy;have hw:Region.wanted o (yielded ops a.tmps)=(c==want):=by simp only[Region.wanted,hog,hy];cases c<;>cases want<;>rfl
   rw[hw];by_cases e:c=want
   ·rw[if_pos (by simpa using e)];exact run (h.1 e)
   ·rw[if_neg (by simpa using e)];exact⟨fun f _=>lP r f,skip (h.2 e)⟩
  ·rename_i v hc;rw[hc]at hrep;unfold AV.Rep DV.Rep at hrep;rw[hrep]at hy;have hw:Region.wanted o (yielded ops a.tmps)=false:=by simp only[Region.wanted,hog,hy];rfl
   rw[hw];exact⟨fun f _=>lP r f,skip h⟩
  ·exact h.elim
theorem aLo{r:Option Nat}{P:Program}{ops:Array Oper}{E:Ent}{Q:Exit->Act->World->Prop}:∀{os:List Oper} {ros:List RO} {s:AState} {a:Act} {w:World} {K:AState->Prop},sQ P ops E.N os ros->iL P ros s K->ASim E s a w->
  (∀s' a' w',K s'->ASim E s' a' w'->Q .normal a' w')->wpListIn (FR r) 0 P ops Q os a w
 |[],[],s,a,w,K,_,h,hA,hQ=>hQ _ _ _ h hA
 |[],_::_,_,_,_,_,hr,_,_,_=>hr.elim
 |_::_,[],_,_,_,_,hr,_,_,_=>hr.elim
 |o::os,ro::ros,s,a,w,K,hr,h,hA,hQ=>
  vB (K:=fun s'=>iL P ros s' K) hr.1 h hA fun s' a' w' hK hA'=>aLo hr.2 hK hA' hQ
def isP:ROp->Bool
 |.callP _ _=>true
 |.pan _=>true
 |_=>false
def bCe(P:Program)(dr:Bool)(s:AState)(dst:Option Nat)(f:Operand)(args:List Operand)(K:AState->Prop)(Pn:Value->AState->Prop):Prop:=
 ∃fn caps,s.ev f=.clo fn caps/\
  ((∃r nbs,(dr=true->AV.flat r=true/\nbs=[])/\ACall P fn (AV.convL s.lk (fun _=>none) (args.map s.ev++caps)) [] r [] nbs/\
   K (s.put dst (AV.ren (aZ [] s.nx) r) (nbs.map (Blk.ren (aZ [] s.nx))) (if AV.flat r=true/\nbs=[]then[]else fzL s.lk (AV.rowsL (args.map s.ev++caps)))))\/
  ∃v,aJy P fn (AV.convL s.lk (fun _=>none) (args.map s.ev++caps)) v/\Pn v (s.put none .any [] []))
def nP(P:Program)(dr:Bool):List RO->AState->(AState->Prop)->(Value->AState->Prop)->Prop
 |[],s,K,_=>K s
 |ro::ros,s,K,Pn=>match ro.op with
  |.callP f args=>ro.guard=none/\bCe P dr s ro.dst f args (fun s'=>nP P dr ros s' K Pn) Pn
  |.pan x=>ro.guard=none/\∃t v,s.ev x=.D (.C (.iface t v))/\Pn (.iface t v) s
  |_=>iL P [ro] s fun s'=>nP P dr ros s' K Pn
def wM:List RO->AState->AState
 |[],s=>s
 |ro::ros,s=>wM ros (s.put ro.dst .any [] [])
def bEx(P:Program):List RO->AState->(AState->Prop)->Prop
 |[],_,_=>False
 |ro::ros,s,K=>ro.guard=none/\match ro.op with
  |.nxt x=>bGh s ro.dst (fun s'=>iL P ros s' K) (s.ev x)
  |_=>False
structure MA where
 kd:KD
 k:Nat
 bytes:Nat
 m:Operand
 y:Operand
 ys:Operand
 d1:Nat
 d2:Nat
 d3:Nat
 d4:Nat
 deriving Inhabited
def bFw:Value:=.slice none 0 0
def aUo(x:MA)(K:AState->Prop)(sB:AState):Prop:=
 (∃h k off len,sB.ev (.tmp x.d2)=.sl h k off len)/\oM sB x.k x.bytes x.ys (some x.d3) (fun s3=>aZp (s3.put (some x.d4) .any [] []) x.kd x.y (.tmp x.d3) K (s3.ev x.m)) (sB.ev (.tmp x.d2))
def bFs(x:MA)(s:AState)(K:AState->Prop):Prop:=∃h es it r,s.ev x.m=.mref h/\s.lk h=some (.mp x.kd es it)/\wN (s.ev x.y) es=some r/\
 match r with
 |some _=>bC8 s x.kd (aHm bFw) x.k false x.y (some x.d2) (fun sB=>aUo x K (sB.put (some x.d1) .any [] [])) (.mref h)
 |none=>aZp s x.kd x.y (.const bFw) (fun sM=>aUo x K (((sM.put (some x.d2) (.fl []) [] []).own0 x.d2 x.k).put (some x.d1) .any [] [])) (.mref h)
inductive RCode where
 |skip
 |reg (draw:Bool) (ros:List RO)
 |regS (lst:Bool) (ros:List RO)
 |regY (ros:List RO)
 |regP (ros:List RO)
 |regN (ros:List RO)
 |regM (ros:List RO) (x:MA)
 |regDP (ros:List RO)
 |sem (N:Nat) (c:Code)
 |seq (a b:RCode)
 |cond (c:Operand) (a b:RCode)
 |block (id:Nat) (b:RCode)
 |loop (b:RCode)
 |exit (id:Nat)
 |scope (b:RCode)
 |wkr (b:RCode)
 |ret
 deriving Inhabited
variable{rc:RCode}{rcs:List RCode}
def Wk(s s':AState):Prop:=∀E a w,ASim E s a w->ASim E s' a w
theorem Wk.refl(s:AState):Wk s s:=fun _ _ _ h=>h
theorem Wk.trans{s'':AState}(h:Wk s s')(h':Wk s' s''):Wk s s'':=fun E a w q=>h' E a w (h E a w q)
def tQ(next:AState->Prop)(Q:Exit->AState->Prop):Exit->AState->Prop
 |.normal,s=>next s
 |e,s=>Q e s
def aJd(id:Nat)(Q:Exit->AState->Prop):Exit->AState->Prop
 |.exit i,s=>if i=id then Q .normal s else Q (.exit i) s
 |e,s=>Q e s
def aOv(Q:Exit->AState->Prop):Exit->AState->Prop
 |.goto _,_=>False
 |e,s=>Q e s
def aOy(Ka Kb:Prop):AV->Prop
 |.D (.B x)=>(x=true->Ka)/\(x=false->Kb)
 |.ab=>Ka/\Kb
 |_=>False
def aGt(ld:Bool)(hs:List Hd)(s s':AState):Prop:=∀h∈hs,keepB ld (s.lk h) (s'.lk h)
def aVh(ros:List RO):Bool:=ros.any fun r=>aX5 r.op
def aUc(hs:List Hd)(op:ROp)(ev:Operand->AV):Prop:=
 match op.sArg with
 |some x=>∀h,(ev x).hd?=some h->h∈hs
 |none=>True
def aO7(P:Program)(ld:Bool)(hs:List Hd)(lst:Bool):List RO->AState->(AState->Prop)->Prop
 |[],s,K=>K s
 |ro::r,s,K=>aUc hs ro.op s.ev/\iL P [ro] s fun s'=>(ro.op.ht=true->lst=false\/r≠[]->aGt ld hs s s')/\aO7 P ld hs lst r s' K
structure Yh where
 plain:Bool
 f:Nat->List AV->AState->(Bool->AState->Prop)->Prop
def noY:Yh:=⟨true,fun _ _ _ _=>False⟩
def iN:Yh:=⟨false,fun _ _ _ _=>False⟩
def YOk(P:Program)(r:Option Nat)(E:Ent)(Y:Yh):Prop:=(Y.plain=true->r=none/\E.nd=false/\E.dt=[])/\∀(l:Nat) (args:List AV) (s:AState) (K:Bool->AState->Prop) (a:Act) (w:World) (vs:List Value) (G:Gh) (m:HM),
 Y.f l args s K->AtS E G m s a w->AV.RepL G m args vs->YieldAt (FR r) 0 P l vs.toArray w fun e w'=>∃c s',e=.returned (.bool c)/\K c s'/\ASim E s' a w'
theorem YOk.none{P:Program}{E:Ent}(h:E.nd=false)(h':E.dt=[]):YOk P (Option.none:Option Nat) E noY:=⟨fun _=>⟨rfl,h,h'⟩,fun _ _ _ _ _ _ _ _ _ h=>False.elim h⟩
theorem YOk.body:YOk P r E iN:=⟨fun h=>(by cases h),fun _ _ _ _ _ _ _ _ _ h=>False.elim h⟩
def yst(s:AState)(ro:RO):Option (Nat×List AV):=
 match ro.op with
 |.callE f args=>match s.ev f with
  |.yld l=>some (l,args.map s.ev)
  |_=>none
 |_=>none
def nB(P:Program)(Y:Yh):List RO->AState->(AState->Prop)->Prop
 |[],s,K=>K s
 |ro::r,s,K=>
  match yst s ro with
  |none=>iL P [ro] s fun s'=>nB P Y r s' K
  |some (l,args)=>match ro.guard with
   |none=>Y.f l args s fun c s'=>nB P Y r (s'.put ro.dst (.D (.B c)) [] []) K
   |some (t,want)=>match s.env t with
    |.D (.B x)=>(x=want->Y.f l args s fun c s'=>nB P Y r (s'.put ro.dst (.D (.B c)) [] []) K)/\(¬x=want->nB P Y r (s.put ro.dst .un [] []) K)
    |.D (.C (.tuple _))=>nB P Y r (s.put ro.dst .un [] []) K
    |_=>False
def aOr(E:Ent)(Q:Exit->AState->Prop):Exit->Act->World->Prop:=fun e a w=>∃s,Q e s/\ASim E s a w
def bB0(A:(Exit->AState->Prop)->AState->Prop)(Q:Exit->AState->Prop):Nat->AState->Prop
 |0,_=>False
 |n+1,s=>A (tQ (bB0 A Q n) Q) s
def dX(P:Program)(Y:Yh):RCode->(Exit->AState->Prop)->AState->Prop
 |.skip,Q,s=>Q .normal s
 |.reg _ ros,Q,s=>iL P ros s (Q .normal)
 |.regS lst ros,Q,s=>∃hs,aO7 P (aVh ros) hs lst ros s (Q .normal)
 |.regY ros,Q,s=>nB P Y ros s (Q .normal)
 |.regN ros,Q,s=>bEx P ros s (Q .normal)
 |.regM ros x,Q,s=>iL P ros s fun s'=>bFs x s' (Q .normal)
 |.regP ros,Q,s=>nP P false ros s (Q .normal) fun v s'=>Q (.panic [{v:=v,recovered:=false}]) s'
 |.regDP ros,Q,s=>nP P true ros s (Q .normal) fun v s'=>Q (.panic [{v:=v,recovered:=false}]) (wM ros s')
 |.sem N c,Q,s=>Y.plain=true/\∀(E:Ent) (a:Act) (w:World),YOk P none E Y->E.N=N->ASim E s a w->c.wpIn (FR none) 0 P (aOr E Q) a w
 |.seq a b,Q,s=>dX P Y a (tQ (dX P Y b Q) Q) s
 |.cond c a b,Q,s=>aOy (dX P Y a Q s) (dX P Y b Q s) (s.ev c)
 |.block id b,Q,s=>dX P Y b (aJd id Q) s
 |.loop b,Q,s=>(∃(I:Nat->AState->Prop) (n:Nat) (s0:AState),Wk s s0/\I n s0/\∀n s,I n s->dX P Y b (tQ (fun s'=>∃n' s'',n'<n/\Wk s' s''/\I n' s'') Q) s)\/∃(n:Nat) (s0:AState),Wk s s0/\bB0 (dX P Y b) Q n s0
 |.exit id,Q,s=>Q (.exit id) s
 |.scope b,Q,s=>dX P Y b (aOv Q) s
 |.wkr b,Q,s=>∃s0,Wk s s0/\dX P Y b Q s0
 |.ret,Q,s=>Q .ret s
theorem aEx{F:Fence}{n0:Nat}(I:Nat->Act->World->Prop)(n:Nat)(h₀:I n a w)
  (round:∀n a w,I n a w->c.wpIn F n0 P (Exit.then (fun a' w'=>∃n',n'<n/\I n' a' w') Q) a w):(Code.loop c).wpIn F n0 P Q a w:=by
 intro b k cs hro hb hr;have key:∀n a w,I n a w->∃e a' w',Q e a' w'/\ArrivesIn (Machine.fenced P F) P (lone (b.atR a (.code c::.inLoop c::k)) cs w) b k cs e a' w':=by
  intro n
  induction n using gz with
  |_ n ih=>
   intro a w hI;obtain⟨e,a₁,w₁,hq,harr⟩:=round n a w hI b (.inLoop c::k) cs hro hb hr;cases e with
   |normal=>
    obtain⟨n',hlt,hI₁⟩:=hq;obtain⟨e₂,a₂,w₂,hq₂,harr₂⟩:=ih n' hlt a₁ w₁ hI₁;exact⟨e₂,a₂,w₂,hq₂,.of_steps (StepsIn.trans harr (.one (fenced_calm hb hr rfl) stepR_inLoop)) harr₂⟩
   |exit id=>exact⟨_,a₁,w₁,hq,.pass (x:=.inLoop c) rfl (fun _ _=>.inl (by simp)) harr⟩
   |goto l=>exact⟨_,a₁,w₁,hq,.pass (x:=.inLoop c) rfl (fun _ _=>.inl (by simp)) harr⟩
   |ret=>exact⟨_,a₁,w₁,hq,.pass (x:=.inLoop c) rfl (fun _ _=>.inl (by simp)) harr⟩
   |panic ch=>exact⟨_,a₁,w₁,hq,.pass (x:=.inLoop c) rfl (fun _ _=>.inl (by simp)) harr⟩
   |outgrown=>exact⟨_,a₁,w₁,hq,.pass (x:=.inLoop c) rfl (fun _ _=>.inl (by simp)) harr⟩
 obtain⟨e,a',w',hq,harr⟩:=key n a w h₀;exact⟨e,a',w',hq,.of_steps (.one (fenced_calm hb hr rfl) stepR_loop) harr⟩
def CodeOk(P:Program)(N:Nat)(c:Code)(rc:RCode):Prop:=
 ∀(r:Option Nat) (Y:Yh) (E:Ent) (Q:Exit->AState->Prop) (s:AState) (a:Act) (w:World),YOk P r E Y->E.N=N->dX P Y rc Q s->ASim E s a w->c.wpIn (FR r) 0 P (aOr E Q) a w
theorem CodeOk.skip{P:Program}{N:Nat}:CodeOk P N .skip .skip:=fun _ _ _ _ _ _ _ _ _ h hA=>wpIn_skip ⟨_,h,hA⟩
theorem CodeOk.label{P:Program}{N l:Nat}:CodeOk P N (.label l) .skip:=fun _ _ _ _ _ _ _ _ _ h hA=>wpIn_label ⟨_,h,hA⟩
theorem CodeOk.exit{P:Program}{N id:Nat}:CodeOk P N (.exit id) (.exit id):=fun _ _ _ _ _ _ _ _ _ h hA=>wpIn_exit ⟨_,h,hA⟩
theorem CodeOk.ret{P:Program}{N:Nat}:CodeOk P N .ret .ret:=fun _ _ _ _ _ _ _ _ _ h hA=>wpIn_ret ⟨_,h,hA⟩
theorem CodeOk.seq{P:Program}{N:Nat}{c d:Code}{rc rd:RCode}(hc:CodeOk P N c rc)(hd:CodeOk P N d rd):CodeOk P N (.seq c d) (.seq rc rd):=fun r Y E Q s a w hY hN h hA=>by
 refine wpIn_seq (wpIn_mono (hc r Y E _ s a w hY hN h hA) fun e a' w' ⟨s',hq,hA'⟩=>?_);cases e with
 |normal=>exact hd r Y E Q s' a' w' hY hN hq hA'
 |_=>exact⟨s',hq,hA'⟩
theorem CodeOk.cond{P:Program}{N:Nat}{x:Operand}(hxN:x.inN N=true){c d:Code}{rc rd:RCode}(hc:CodeOk P N c rc)(hd:CodeOk P N d rd):CodeOk P N (.cond x c d) (.cond x rc rd):=fun r Y E Q s a w hY hN h hA=>by
 obtain⟨G,m,hA'⟩:=hA;subst hN;have hr:=hA'.evs x hxN;have h':aOy (dX P Y rc Q s) (dX P Y rd Q s) (s.ev x):=h;generalize hx:s.ev x=ax at h' hr;unfold aOy at h';split at h'
 ·exact wpIn_cond_split (zG hr) (fun e=>hc r Y E Q s a w hY rfl (h'.1 e) ⟨G,m,hA'⟩) (fun e=>hd r Y E Q s a w hY rfl (h'.2 e) ⟨G,m,hA'⟩)
 ·unfold AV.Rep at hr;obtain⟨b,hb⟩:=hr;exact wpIn_cond_split hb (fun _=>hc r Y E Q s a w hY rfl h'.1 ⟨G,m,hA'⟩) (fun _=>hd r Y E Q s a w hY rfl h'.2 ⟨G,m,hA'⟩)
 ·exact h'.elim
theorem CodeOk.block{P:Program}{N id:Nat}{c:Code}{rc:RCode}(hc:CodeOk P N c rc):CodeOk P N (.block id c) (.block id rc):=fun r Y E Q s a w hY hN h hA=>by
 refine wpIn_block (wpIn_mono (hc r Y E _ s a w hY hN h hA) fun e a' w' ⟨s',hq,hA'⟩=>?_);cases e with
 |exit i=>
  simp only[aJd]at hq;simp only[Exit.inBlock];split at hq
  ·rename_i e;rw[if_pos e];exact⟨s',hq,hA'⟩
  ·rename_i e;rw[if_neg e];exact⟨s',hq,hA'⟩
 |_=>exact⟨s',hq,hA'⟩
theorem CodeOk.scope{P:Program}{N:Nat}{c:Code}{rc:RCode}(hc:CodeOk P N c rc):CodeOk P N (.scope c) (.scope rc):=fun r Y E Q s a w hY hN h hA=>by
 refine vS (wpIn_mono (hc r Y E _ s a w hY hN h hA) fun e a' w' ⟨s',hq,hA'⟩=>?_);cases e with
 |goto l=>exact hq.elim
 |_=>exact⟨s',hq,hA'⟩
theorem CodeOk.loop{P:Program}{N:Nat}{c:Code}{rc:RCode}(hc:CodeOk P N c rc):CodeOk P N (.loop c) (.loop rc):=fun r Y E Q s a w hY hN h hA=>by
 rcases h with⟨I,n,s0,hw,hI,hround⟩|⟨n,s0,hw,hI⟩
 case inr=>
  refine aEx (fun n a w=>∃s,bB0 (dX P Y rc) Q n s/\ASim E s a w) n ⟨s0,hI,hw E a w hA⟩ fun n a w ⟨s,hs,hA⟩=>?_;cases n with
  |zero=>exact hs.elim
  |succ n=>
   refine wpIn_mono (hc r Y E _ s a w hY hN hs hA) fun e a' w' ⟨s',hq,hA'⟩=>?_;cases e with
   |normal=>exact⟨n,Nat.lt_succ_self n,s',hq,hA'⟩
   |_=>exact⟨s',hq,hA'⟩
 refine aEx (fun n a w=>∃s,I n s/\ASim E s a w) n ⟨s0,hI,hw E a w hA⟩ fun n a w ⟨s,hs,hA⟩=>?_;refine wpIn_mono (hc r Y E _ s a w hY hN (hround n s hs) hA) fun e a' w' ⟨s',hq,hA'⟩=>?_;cases e with
 |normal=>
  obtain⟨n',s'',h1,h2,h3⟩:=hq;exact⟨n',h1,s'',h3,h2 E a' w' hA'⟩
 |_=>exact⟨s',hq,hA'⟩
theorem CodeOk.region{P:Program}{N id:Nat}{ops:Array Oper}{ros:List RO}(h:sQ P ops N ops.toList ros):CodeOk P N (.region id ops false) (.reg false ros):=fun r Y E Q s a w hY hN hc hA=>by subst hN;exact wpIn_region_list (aLo h hc hA fun s' a' w' hq hA'=>⟨s',hq,hA'⟩)
theorem aL9{E:Ent}{G:Gh}{m:HM}{s:AState}{a:Act}{w:World}(h:AtS E G m s a w):∀(xs:List Operand),(∀x∈xs,x.inN E.N=true)->AV.RepL G m (xs.map s.ev) (xs.map a.eval)
 |[],_=>by simp[AV.RepL]
 |x::xs,hx=>by rw[df,df];unfold AV.RepL;exact⟨_,_,rfl,h.evs x (hx x (by simp)),aL9 h xs fun y hy=>hx y (by simp[hy])⟩
theorem aMt{Y:Yh}(hY:YOk P r E Y)(h1:ResO P ops E.N o ro){l:Nat}
  (hy:yst s ro=some (l,args)) {K:Bool->AState->Prop} (h:Y.f l args s K) (hA:ASim E s a w) (hQ:∀c s' a' w',K c s'->ASim E (s'.put ro.dst (.D (.B c)) [] []) a' w'->next a' w'):o.wpIn (FR r) 0 P a w next Q:=by
 obtain⟨G,m,hA⟩:=hA;unfold yst at hy;split at hy
 ·rename_i f xs hop;split at hy
  ·rename_i l' hl;cases hy;obtain⟨b,op0,hres,hm⟩:=h1.op.resolve_left (fun e=>by rw[hop]at e;cases e);rw[hop]at hm;have hxs:=h1.xs;rw[hop]at hxs;rcases aF4 hm with e|e
   ·rw[e]at hres;obtain⟨c,ho,hc,hca⟩:=sU hres;have hf:=hA.evs f (hxs f (by simp[ROp.operands]));rw[hl]at hf;unfold AV.Rep at hf;obtain⟨fn,tmps,assign,body,g1,g2⟩:=hY.2 l _ s K a w _ G m h hA (aL9 hA xs fun x hx=>hxs x (by simp[ROp.operands,hx]));have hargs:c.args.map a.eval=(xs.map a.eval).toArray:=by apply Array.ext';simp[hca]
    have hrun:(o.semAt r a.eval).run P w=.ok (.round l fn tmps assign body) w:=by rw[Oper.semAt_eq _ _ _ (fun c' e'=>by rw[ho]at e';cases e')];simp only[execOp,ho,resolve,hc,hf,Deferred.ofValue,Sem.run_bind,Sem.run_pure,Result.andThen_ok,invoke,callFunc,hargs];simpa using g1
    unfold Oper.wpIn;refine⟨fun f _=>lP r f,?_⟩;show o.uponIn (FR r) 0 P a next Q ((o.semAt r a.eval).run P w)
    rw[hrun,Oper.uponIn_round];refine⟨fun hd=>by simp[FR,Fence.wide]at hd,g2.mono ?_⟩;rintro e w' ⟨c,s',rfl,hK,G',m',hA'⟩;refine hQ c s' _ w' hK ?_;rw[<-h1.dst];exact hA'.step (fun d hd=>h1.lt d (by rw[<-h1.dst];exact hd)) (PPost.val hA'.sim (by unfold AV.Rep DV.Rep;rfl))
   ·rw[e]at hres;exact(aK7 hres).elim
  ·cases hy
 ·cases hy
theorem vC{r:Option Nat}{P:Program}{Y:Yh}{ops:Array Oper}{E:Ent}(hY:YOk P r E Y){Q:Exit->Act->World->Prop}:∀{os:List Oper} {ros:List RO} {s:AState} {a:Act} {w:World} {K:AState->Prop},sQ P ops E.N os ros->nB P Y ros s K->ASim E s a w->
  (∀s' a' w',K s'->ASim E s' a' w'->Q .normal a' w')->wpListIn (FR r) 0 P ops Q os a w
 |[],[],s,a,w,K,_,h,hA,hQ=>hQ _ _ _ h hA
 |[],_::_,_,_,_,_,hr,_,_,_=>hr.elim
 |_::_,[],_,_,_,_,hr,_,_,_=>hr.elim
 |o::os,ro::ros,s,a,w,K,hr,h,hA,hQ=>by
  obtain⟨h1,h2⟩:=hr;unfold nB at h;split at h
  ·exact vB h1 h hA fun s' a' w' hK hA'=>vC hY h2 hK hA' hQ
  ·rename_i l args hy;have hgo:=h1.guard;show wpListIn (FR r) 0 P ops Q (o::os) a w;unfold wpListIn;have run:Region.wanted o (yielded ops a.tmps)=true->(Y.f l args s fun c s'=>nB P Y ros (s'.put ro.dst (.D (.B c)) [] []) K)->(if Region.wanted o (yielded ops a.tmps)=true then o.wpIn (FR r) 0 P a w (wpListIn (FR r) 0 P ops Q os) Q else(∀f,o.about P w a.eval=some f->(FR r).fn f)/\wpListIn (FR r) 0 P ops Q os (a.put o.dst undef) w):=fun hw hf=>by rw[if_pos hw];exact aMt hY h1 hy hf hA fun c s' a' w' hK hA'=>vC hY h2 hK hA' hQ
   have skip:Region.wanted o (yielded ops a.tmps)=false->nB P Y ros (s.put ro.dst .un [] []) K->(if Region.wanted o (yielded ops a.tmps)=true then o.wpIn (FR r) 0 P a w (wpListIn (FR r) 0 P ops Q os) Q else(∀f,o.about P w a.eval=some f->(FR r).fn f)/\wpListIn (FR r) 0 P ops Q os (a.put o.dst undef) w):=fun hw hf=>by rw[if_neg (by rw[hw];simp)];refine⟨fun f _=>lP r f,?_⟩;obtain⟨G,m,hA'⟩:=hA;exact vC hY h2 hf (by rw[h1.dst];exact hA'.skip h1.lt) hQ
   cases hog:o.guard with
   |none=>
    rw[hog]at hgo;simp only at hgo;rw[hgo]at h;exact run (by simp[Region.wanted,hog]) h
   |some g=>
    obtain⟨j,want⟩:=g;rw[hog]at hgo;obtain⟨t,ht,htN,hg⟩:=hgo;rw[hg]at h;simp only at h;have hA0:=hA;obtain⟨G,m,hA'⟩:=hA0;have hrep:=hA'.env t;rw[Ent.val_lt htN]at hrep;have hy:yielded ops a.tmps j=match a.tmps.getD t undef with|.bool b=>some b|_=>none:=by
     unfold yielded;rw[ht];simp only[jf,cp];cases a.tmps[t]?with
     |none=>rfl
     |some v=>cases v<;>rfl
    split at h
    ·rename_i c hc;rw[hc]at hrep;have hv:=zG hrep;rw[hv]at hy;have hw:Region.wanted o (yielded ops a.tmps)=(c==want):=by simp only[Region.wanted,hog,hy];cases c<;>cases want<;>rfl
     by_cases e:c=want
     ·exact run (by rw[hw];simpa using e) (h.1 e)
     ·exact skip (by rw[hw];simpa using e) (h.2 e)
    ·rename_i v hc;rw[hc]at hrep;unfold AV.Rep DV.Rep at hrep;rw[hrep]at hy;exact skip (by simp only[Region.wanted,hog,hy];rfl) h
    ·exact h.elim
theorem CodeOk.regionY(h:sQ P ops N ops.toList ros):CodeOk P N (.region id ops false) (.regY ros):=fun r Y E Q s a w hY hN hc hA=>by subst hN;exact wpIn_region_list (vC hY h hc hA fun s' a' w' hq hA'=>⟨s',hq,hA'⟩)
theorem wT{args:List Operand}(h:ROp.callP f args=bG b op0):op0=.call f args\/op0=.callP f args:=by cases b<;>cases op0<;>first|(cases h;done)|(cases h;exact .inl rfl)|(cases h;exact .inr rfl)|(simp only[bG,gE]at h;split at h<;>cases h)
theorem aEg{args:List Operand}(h:aA P o=some (.callP f args)):False:=by
 cases ho:o.op
 case field=>simp only[aA,ho,ε]at h;obtain⟨f,_,h⟩:=h;split at h<;>cases h
 all_goals(simp only[aA,ho]at h;(repeat' split at h)<;>simp_all[ε,ζ,δ])
theorem aVj(h:ROp.pan x=bG b op0):op0=.pan x:=by cases b<;>cases op0<;>first|(cases h;done)|(cases h;rfl)|(simp only[bG,gE]at h;split at h<;>cases h)
theorem aX8(h:aA P o=some (.pan x)):o.op=.panic x:=by
 cases ho:o.op
 case panic y=>simp only[aA,ho,Option.some.injEq]at h;cases h;rfl
 case field=>exfalso;simp only[aA,ho,ε]at h;obtain⟨f,_,h⟩:=h;split at h<;>cases h
 all_goals(exfalso;simp only[aA,ho]at h;(repeat' split at h)<;>simp_all[ε,ζ,δ])
theorem ResO.guardN(hr:ResO P ops N o ro)(h:ro.guard=none):o.guard=none:=by
 have hg:=hr.guard;cases hog:o.guard with
 |none=>rfl
 |some g=>
  obtain⟨j,want⟩:=g;rw[hog]at hg;obtain⟨t,_,_,e⟩:=hg;rw[h]at e;cases e
theorem aGw{c:Call}{fn:FuncId}{R:Value->World->Prop}(ho:o.op=.call c)(hc:c.callee=.value f)(hv:a.eval f=.func (.func fn) #[] vs)
  (h:PanDoes P fn pv (c.args.map a.eval++vs) w R) (hQ:∀v w',R v w'->Q (.panic [{v:=pv,recovered:=false}]) a w'):o.wpIn (FR r) 0 P a w next Q:=by
 obtain⟨⟨fd,h1,h2,h3⟩,h⟩:=h;have hnone:fd.body.isNone=false:=by rw[Option.isNone_eq_false_iff];exact h2
 have hrun:(execOp a.eval o).run P w=.ok (.enter fn (c.args.map a.eval++vs)) w:=by simp only[execOp,ho,resolve,hc,hv,Deferred.ofValue,Sem.run_bind,Sem.run_pure,Result.andThen_ok,invoke,callFunc,run_program,h1,h3,hnone,fg,if_false];simp
 have hnd:∀c,o.op≠.defer c:=fun c' e=>by rw[ho]at e;cases e
 unfold Oper.wpIn;refine⟨fun f _=>lP r f,?_⟩;rw[Oper.semAt_eq _ _ _ hnd,hrun];refine⟨fun hd=>by simp[FR,Fence.wide]at hd,aPo (h.mono ?_)⟩;rintro e w'' ⟨rfl,hr⟩;exact hQ _ _ hr
theorem aAs{r:Option Nat}{P:Program}{dr:Bool}{ops:Array Oper}{E:Ent}{Q:Exit->Act->World->Prop}:∀{os:List Oper} {ros:List RO} {s:AState} {a:Act} {w:World} {K:AState->Prop} {Pn:Value->AState->Prop},sQ P ops E.N os ros->nP P dr ros s K Pn->ASim E s a w->
  (∀s' a' w',K s'->ASim E s' a' w'->Q .normal a' w')->(∀v s' a' w',Pn v s'->ASim E s' a' w'->Q (.panic [{v:=v,recovered:=false}]) a' w')->wpListIn (FR r) 0 P ops Q os a w
 |[],[],s,a,w,K,Pn,_,h,hA,hQ,_=>hQ _ _ _ h hA
 |[],_::_,_,_,_,_,_,hr,_,_,_,_=>hr.elim
 |_::_,[],_,_,_,_,_,hr,_,_,_,_=>hr.elim
 |o::os,ro::ros,s,a,w,K,Pn,hr,h,hA,hQ,hP=>by
  have gen:iL P [ro] s (fun s'=>nP P dr ros s' K Pn)->wpListIn (FR r) 0 P ops Q (o::os) a w:=fun h=>
   vB (K:=fun s'=>nP P dr ros s' K Pn) hr.1 h hA fun s' a' w' hK hA'=>aAs hr.2 hK hA' hQ hP
  unfold nP at h;split at h
  ·rename_i f args heq;obtain⟨hg,fn,caps,hf,h⟩:=h;obtain⟨b,op0,hop,hmk⟩:=hr.1.op.resolve_left (fun e=>by rw[heq]at e;cases e);rw[heq]at hmk;rcases wT hmk with e|e
   case inr=>rw[e]at hop;exact(aEg hop).elim
   rw[e]at hop;obtain⟨c,ho,hc,rfl⟩:=sU hop;have hxs:=hr.1.xs;rw[heq]at hxs;unfold wpListIn;rw[if_pos (by simp[Region.wanted,hr.1.guardN hg])];obtain⟨G,m,hA'⟩:=hA;have hrf:=hA'.evs f (hxs f (by simp[ROp.operands]));rw[hf]at hrf;unfold AV.Rep at hrf;obtain⟨vs,hv,hcaps⟩:=hrf;have hargs:AV.RepL G m (c.args.toList.map s.ev) (c.args.toList.map a.eval):=AV.RepL_map (fun x hx=>hA'.evs x (hxs x (by simp only[ROp.operands,cq];exact .inr hx)));have hrep:AV.RepL G m (c.args.toList.map s.ev++caps) (c.args.map a.eval++vs).toList:=by rw[ep,eu];exact AV.RepL_append hargs hcaps
   rcases h with⟨rr,nbs,_,hcall,hK⟩|⟨pv,hpan,hK⟩
   ·refine kY (vK ho hc hv (aTa (ks:=[]) (n:=s.nx) hcall (LkSame.refl _) hA'.sim hrep (fun j hj=>hA'.fresh _ (by omega)))) fun v w' hp=>?_;refine aAs hr.2 hK ?_ hQ hP;rw[hr.1.dst];exact hA'.step hr.1.lt hp
   ·refine aGw ho hc hv (bDr (n:=s.nx) hpan (LkSame.refl _) hA'.sim hrep) fun v w' hp=>?_;refine hP pv _ _ _ hK ?_;exact hA'.step (dst:=none) (fun d hd=>by cases hd) hp
  ·rename_i x heq;obtain⟨hg,t,v,hx,hK⟩:=h;obtain⟨b,op0,hop,hmk⟩:=hr.1.op.resolve_left (fun e=>by rw[heq]at e;cases e);rw[heq]at hmk;rw[aVj hmk]at hop;have ho:=aX8 hop;have hxs:=hr.1.xs;rw[heq]at hxs;unfold wpListIn;rw[if_pos (by simp[Region.wanted,hr.1.guardN hg])];obtain⟨G,m,hA'⟩:=hA;have hrx:=hA'.evs x (hxs x (by simp[ROp.operands]));rw[hx]at hrx;unfold AV.Rep DV.Rep at hrx;have hnd:∀c,o.op≠.defer c:=fun c' e=>by rw[ho]at e;cases e
   unfold Oper.wpIn;refine⟨fun f _=>lP r f,?_⟩;have hrun:(execOp a.eval o).run P w=.halt (.panic (.iface t v)) w:=by simp[execOp,ho,hrx,Instr.panic,goPanic]
   rw[Oper.semAt_eq _ _ _ hnd,hrun];exact hP _ _ _ _ hK ⟨G,m,hA'⟩
  ·exact gen h
theorem CodeOk.regionP(h:sQ P ops N ops.toList ros):CodeOk P N (.region id ops false) (.regP ros):=fun r Y E Q s a w hY hN hc hA=>by subst hN;exact wpIn_region_list (aAs h hc hA (fun s' a' w' hq hA'=>⟨s',hq,hA'⟩) (fun v s' a' w' hq hA'=>⟨s',hq,hA'⟩))
section
variable{P:Program}{T k0 e:TypeId}{kd:KD}{b clk:Nat}{arr:Array MapEntry}{kv:Value}{w:World}
end
def aZe:Op->Nat->Nat->Bool
 |.extract (.tmp t) j,d,i=>χ t d&&χ j i
 |_,_,_=>false
def bDt:Op->Nat->Nat->Nat->Nat->Bool
 |.entryStore T (.tmp m) (.tmp s) (.tmp v),T',m',s',v'=>χ T T'&&χ m m'&&χ s s'&&χ v v'
 |_,_,_,_,_=>false
def bEn:Operand->Nat->Bool
 |.tmp t,d=>χ t d
 |_,_=>false
def bDv(ds:List Nat):Operand->Bool
 |.tmp t=>!ds.contains t
 |_=>true
def bGd(P:Program)(e:TypeId):Bool:=match P.info? e with
 |some i=>match i.zero with
  |some (.slice none 0 0)=>true
  |_=>false
 |none=>false
def bGz(os:List Oper):Bool:=os.all fun o=>o.guard.isNone
def bDs(P:Program)(N T e tm:Nat)(q:MA)(xo:Operand)(o1 o2 o3 o4 o5:Oper):Bool:=
 bGz [o1,o2,o3,o4,o5]&&aZe o2.op q.d1 0&&aZe o4.op q.d1 1&&bDt o5.op T tm q.d4 q.d3&&bEn xo q.d2&&o5.dst.isNone&&bGd P e&&
 (decide (q.d1<N)&&decide (q.d2<N)&&decide (q.d3<N)&&decide (q.d4<N)&&decide (tm<N))&&(!χ q.d1 q.d2&& !χ q.d1 q.d3&& !χ q.d1 q.d4&& !χ q.d2 q.d3&& !χ q.d3 q.d4)&&
 q.y.inN N&&q.ys.inN N&&bDv [q.d1,q.d2,q.d3,q.d4] (.tmp tm)&&bDv [q.d1,q.d2,q.d3,q.d4] q.y
def bHh(P:Program)(N:Nat)(o1 o2 o3 o4 o5:Oper):Option MA:=match o1.op,o1.dst,o2.dst,o3.dst,o4.dst,aA P o3 with
 |.mapEntry T (.tmp tm) y,some d1,some d2,some d3,some d4,some (.app k bytes xo ys)=>match aI8 P T with
  |some (kd,e)=>if bDs P N T e tm ⟨kd,k,bytes,.tmp tm,y,ys,d1,d2,d3,d4⟩ xo o1 o2 o3 o4 o5=true then some ⟨kd,k,bytes,.tmp tm,y,ys,d1,d2,d3,d4⟩else none
  |none=>none
 |_,_,_,_,_,_=>none
def bE7:List Oper->Option (List Oper×Oper×Oper×Oper×Oper×Oper)
 |[o1,o2,o3,o4,o5]=>some ([],o1,o2,o3,o4,o5)
 |o::l=>match bE7 l with
  |some (l1,r)=>some (o::l1,r)
  |none=>none
 |[]=>none
def bBz(ops:Array Oper):Bool:=ops.toList.any fun o=>match o.op with
 |.entryStore ..=>true
 |_=>false
def cP(ops:Array Oper)(j:Nat):List Nat:=
 match ops[j]?with
 |some o=>(o.after.toList.filter (Region.binds .any)).map (·.on)
 |none=>[]
def aA5(l:List Nat):List Nat->Nat
 |[]=>0
 |i::is=>(2^i|||l.getD i 0)|||aA5 l is
def aM2(ops:Array Oper):Nat->List Nat
 |0=>[]
 |n+1=>let l:=aM2 ops n;l++[aA5 l (cP ops n)]
theorem oL(ops:Array Oper):∀n,(aM2 ops n).length=n
 |0=>rfl
 |n+1=>by simp[aM2,oL ops n]
theorem yK(ops:Array Oper):∀n j,j<n->(aM2 ops n).getD j 0=aA5 (aM2 ops j) (cP ops j)
 |0,j,h=>by omega
 |n+1,j,h=>by
  simp only[aM2];by_cases e:j<n
  ·rw[bk,List.getElem?_append_left (by rw[oL];exact e),<-bk];exact yK ops n j e
  ·have:j=n:=by omega
   subst this;rw[bk,List.getElem?_append_right (by rw[oL];omega),oL];simp
theorem aEt(l:List Nat):∀(es:List Nat) (i:Nat),(aA5 l es).testBit i=true->∃e∈es,i=e\/(l.getD e 0).testBit i=true
 |[],i,h=>by simp[aA5]at h
 |e::es,i,h=>by
  simp only[aA5,Nat.testBit_or,fh]at h;rcases h with(h|h)|h
  ·exact⟨e,by simp,.inl (by rw[Nat.testBit_two_pow]at h;simpa using(of_decide_eq_true h).symm)⟩
  ·exact⟨e,by simp,.inr h⟩
  ·obtain⟨e',h1,h2⟩:=aEt l es i h;exact⟨e',by simp[h1],h2⟩
def anc(ops:Array Oper)(i j:Nat):Bool:=((aM2 ops ops.size).getD j 0).testBit i
theorem aAh(hlt:∀j,j<ops.size->∀e∈cP ops j,e<j){i:Nat}(hj:j<ops.size)(h:anc ops i j=true):∃e∈cP ops j,i=e\/anc ops i e=true:=by unfold anc at h;rw[yK ops _ j hj]at h;obtain⟨e,he,h2⟩:=aEt _ _ _ h;refine⟨e,he,h2.imp id fun h2=>?_⟩;have:=hlt j hj e he;unfold anc;rw[yK ops _ e (by omega)];rwa[yK ops _ e this]at h2
theorem bCt(hlt:∀j,j<ops.size->∀e∈cP ops j,e<j):∀(j i:Nat),j<ops.size->anc ops i j=true->i<j:=by
 intro j
 induction j using gz with
 |_ j ih=>
  intro i hj h;obtain⟨e,he,rfl|h2⟩:=aAh hlt hj h
  ·exact hlt j hj _ he
  ·have:=hlt j hj e he;exact Nat.lt_trans (ih e this i (by omega) h2) this
theorem xG(hlt:∀j,j<ops.size->∀e∈cP ops j,e<j)(hc:∀j,j<ops.size->L j->∀e∈cP ops j,L e):∀(j i:Nat),j<ops.size->anc ops i j=true->L j->L i:=by
 intro j
 induction j using gz with
 |_ j ih=>
  intro i hj h hL;obtain⟨e,he,rfl|h2⟩:=aAh hlt hj h
  ·exact hc j hj hL _ he
  ·have:=hlt j hj e he;exact ih e this i (by omega) h2 (hc j hj hL e he)
def aJc(l:List Operand):List Nat:=l.filterMap fun|.tmp t=>some t|_=>none
def RO.names(r:RO):List Nat:=r.dst.toList++aJc r.op.operands++(match r.guard with|some (t,_)=>[t]|none=>[])
def aH8(ops:Array Oper)(b:Bool)(ri rj:RO)(i j:Nat):Bool:=
  anc ops i j||
  (!((match ri.dst with|some d=>rj.names.contains d|none=>false)||(match rj.dst with|some d=>ri.names.contains d|none=>false))&&
   !((!b&&ri.op.eff&&rj.op.ht)||(rj.op.eff&&ri.op.ht)))
def aK6:ROp->Bool
 |.newR _=>true
 |_=>false
def bAn(ops:Array Oper)(ros:List RO)(j:Nat):Bool:=
 aK6 (ros.getD j default).op&&(dm j).any fun i=>(ros.getD i default).op.eff&& !anc ops i j
def aIc(ops:Array Oper)(ros:List RO):Nat:=((dm ops.size).find? (bAn ops ros)).getD ops.size
def aCu(ops:Array Oper)(ros:List RO)(e:Nat):Bool:=
 aK6 (ros.getD e default).op&&(ros.getD e default).guard.isNone&&
 (match(ros.getD e default).dst with
 |some t=>(dm ops.size).all fun k=>k==e|| !(ros.getD k default).names.contains t||(dm e).all fun i=>!(ros.getD i default).op.eff||anc ops i k
 |none=>false)&&
 (dm ops.size).all fun k=>decide (k<=e)|| !(ros.getD k default).op.ht||(ros.getD k default).op.eff||(dm k).any fun i=>decide (e<i)&&(ros.getD i default).op.eff
def aDg(ops:Array Oper)(ros:List RO):Bool:=
 (dm ops.size).all (fun j=>(cP ops j).all fun e=>decide (e<j))&&
 (let e:=aIc ops ros
 (decide (ops.size<=e)||aCu ops ros e)&&
 (dm ops.size).all fun j=>(dm j).all fun i=>aH8 ops (decide (j=e)) (ros.getD i default) (ros.getD j default) i j)
structure DrawOk (ops:Array Oper) (ro:Nat->RO) (e:Nat):Prop where
 lt:∀j,j<ops.size->∀e∈cP ops j,e<j
 wr:∀i j,i<j->j<ops.size->∀d,(ro i).dst=some d->d∈(ro j).names->anc ops i j=true
 rw:∀i j,i<j->j<ops.size->∀d,(ro j).dst=some d->d∈(ro i).names->anc ops i j=true
 eh:∀i j,i<j->j<ops.size->j≠e->(ro i).op.eff=true->(ro j).op.ht=true->anc ops i j=true
 he:∀i j,i<j->j<ops.size->(ro i).op.ht=true->(ro j).op.eff=true->anc ops i j=true
 nw:e<ops.size->∃zs,(ro e).op=.newR zs
 gd:e<ops.size->(ro e).guard=none
 us:e<ops.size->∃t,(ro e).dst=some t/\∀k,k<ops.size->k≠e->t∈(ro k).names->∀i,i<e->(ro i).op.eff=true->anc ops i k=true
 bt:e<ops.size->∀k,e<k->k<ops.size->(ro k).op.ht=true->(ro k).op.eff=false->∃i,e<i/\i<k/\(ro i).op.eff=true
theorem aDp(h:aK6 op=true):∃zs,op=.newR zs:=by cases op<;>first|exact⟨_,rfl⟩|cases h
theorem mU(h:aCu ops ros e=true):
  (∃zs,(ros.getD e default).op=.newR zs)/\(ros.getD e default).guard=none/\
  (∃t,(ros.getD e default).dst=some t/\∀k,k<ops.size->k≠e->t∈(ros.getD k default).names->∀i,i<e->(ros.getD i default).op.eff=true->anc ops i k=true)/\
  ∀k,e<k->k<ops.size->(ros.getD k default).op.ht=true->(ros.getD k default).op.eff=false->∃i,e<i/\i<k/\(ros.getD i default).op.eff=true:=by
 unfold aCu at h;simp only[μ]at h;obtain⟨⟨⟨h1,h2⟩,h3⟩,h4⟩:=h;refine⟨aDp h1,by simpa using h2,?_,fun k hk hn hht hne=>?_⟩
 ·split at h3
  ·rename_i t ht;refine⟨t,ht,fun k hk hke htk i hi he=>?_⟩;have:=di.1 h3 k (fq.2 hk);simp only[fh,dh,beq_iff_eq]at this;rcases this with(g|g)|g
   ·exact absurd g hke
   ·rw[jh,decide_eq_false_iff_not]at g;exact absurd htk g
   ·have:=di.1 g i (fq.2 hi);simp only[fh,dh]at this;rw[he]at this;exact this.resolve_left (by simp)
  ·cases h3
 ·have:=di.1 h4 k (fq.2 hn);simp only[fh,dh,decide_eq_true_eq]at this;rcases this with((g|g)|g)|g
  ·omega
  ·rw[hht]at g;cases g
  ·rw[hne]at g;cases g
  ·obtain⟨i,hi,g⟩:=List.any_eq_true.1 g;simp only[μ,decide_eq_true_eq]at g;exact⟨i,g.1,fq.1 hi,g.2⟩
theorem aBy(h:aDg ops ros=true):DrawOk ops (fun i=>ros.getD i default) (aIc ops ros):=by
 unfold aDg at h;generalize aIc ops ros=e at h|-;simp only[μ]at h;obtain⟨h1,h0,h2⟩:=h;simp only[di,fq,decide_eq_true_eq]at h1 h2;have hlo:e<ops.size->aCu ops ros e=true:=fun hl=>by simp only[fh,decide_eq_true_eq]at h0;exact h0.elim (fun g=>by omega) id
 have hp:∀i j,i<j->j<ops.size->aH8 ops (decide (j=e)) (ros.getD i default) (ros.getD j default) i j=true:=fun i j hi hj=>h2 j hj i hi;have key:∀(b:Bool) (ri rj:RO) (i j:Nat),aH8 ops b ri rj i j=true->
   (∀d,ri.dst=some d->d∈rj.names->anc ops i j=true)/\(∀d,rj.dst=some d->d∈ri.names->anc ops i j=true)/\
   (b=false->ri.op.eff=true->rj.op.ht=true->anc ops i j=true)/\(ri.op.ht=true->rj.op.eff=true->anc ops i j=true):=fun b ri rj i j h=>by
  unfold aH8 at h;refine⟨fun d hd hm=>?_,fun d hd hm=>?_,fun hb he hh=>?_,fun hh he=>?_⟩
  ·rw[hd]at h;simpa[hm]using h
  ·rw[hd]at h;simpa[hm]using h
  ·simpa[hb,he,hh]using h
  ·simpa[he,hh]using h
 refine⟨h1,fun i j hi hj=>(key _ _ _ i j (hp i j hi hj)).1,fun i j hi hj=>(key _ _ _ i j (hp i j hi hj)).2.1,fun i j hi hj hne=>(key _ _ _ i j (hp i j hi hj)).2.2.1 (by simpa using hne),fun i j hi hj=>(key _ _ _ i j (hp i j hi hj)).2.2.2,fun hl=>(mU (hlo hl)).1,fun hl=>(mU (hlo hl)).2.1,fun hl=>(mU (hlo hl)).2.2.1,fun hl=>(mU (hlo hl)).2.2.2⟩
def aEo(r:RO)(env:Nat->AV):Prop:=match r.guard with
 |none=>True
 |some (t,want)=>env t=.D (.B want)
def uX(r:RO)(env:Nat->AV):Prop:=match r.guard with
 |none=>False
 |some (t,want)=>(∃c,env t=.D (.B c)/\c≠want)\/∃v,env t=.D (.C (.tuple v))
theorem aS6(h:aA P o=some (.newR zs)):∃T i z,o.op=.alloc T/\P.info? T=some i/\i.zero=some z/\zs=z.cells.toList.map gA:=by
 cases ho:o.op
 case alloc T=>
  simp only[aA,ho,ε,ζ]at h;obtain⟨i,hi,z,hz,h⟩:=h;split at h
  ·cases h;exact⟨T,i,z,rfl,hi,hz,rfl⟩
  ·split at h<;>cases h
 case field=>exfalso;simp only[aA,ho,ε]at h;obtain⟨f,_,h⟩:=h;split at h<;>cases h
 all_goals(exfalso;simp only[aA,ho]at h;(repeat' split at h)<;>simp_all[ε,ζ,δ])
theorem aQ0(h:ROp.newR zs=bG b op0):op0=.newR zs:=by cases b<;>cases op0<;>first|(cases h;done)|(cases h;rfl)|(simp only[bG,gE]at h;split at h<;>cases h)
def aZs(G:Gh)(es:List (List DV))(w:World)(v:Value)(w':World):Prop:=
 v=.pointer (some ⟨w.heap.size,0,none⟩)/\∃vs T,w'=w.alloc (.cells vs T)/\∀m',BlkRep G m' (.row true 1 es) w.heap.size vs.size w'
theorem aV6{ds:List DV}(hr:aA P o=some (.newR zs))(hd:AV.data zs=some ds)(G:Gh)(m:HM)(lk:aY)(w:World)(ρ:Operand->Value)(hS:Sim G m lk w):Does P o ρ w (aZs G (ds.map fun d=>[d]) w):=by obtain⟨T,i,z,ho,hi,hz,rfl⟩:=aS6 hr;refine Does.val (v:=.pointer (some ⟨w.heap.size,0,none⟩)) (w':=w.alloc (.cells z.cells T)) ?_ ⟨rfl,_,_,rfl,fun m'=>aHs hS T (AV.RepL_const _) hd m'⟩;simp[execOp,ho,Instr.alloc,kQ hi hz,newVar,newRow]
inductive RStep (P:Program) (o:Oper) (r:RO) (s s':AState):Prop
 |skip (h1:uX r s.env) (h2:s'=s.put r.dst .un [] [])
 | run (h1:aEo r s.env) (he:r.op.eff=false) (x:AV) (nbs:List Blk) (fz:List Hd) (h2:s'=s.put r.dst x nbs fz) (h3:r.op.ht=false->nbs=[]/\fz=[]) (h5:∀ h ∈ fz,(s.lk h).isSome=true)
   (h4:∀(G:Gh) (m:HM) (w:World) (ρ:Operand->Value) (_:∀v,ρ (.const v)=v) (lk2:aY),Need r.op s.ev s.lk lk2->Sim G m lk2 w->(∀x∈r.op.operands,AV.Rep G m (s.ev x) (ρ x))->
    (∀j,j<nbs.length->m (.O (s.nx+j))=none)->Does P o ρ w (PPost G m lk2 s.nx x nbs fz w))
   (h6:aK6 r.op=true->x=.eptr (.O s.nx) 1 0 0/\∃es,nbs=[.row true 1 es]/\fz=[]/\∀(G:Gh) (m:HM) (lk:aY) (w:World) (ρ:Operand->Value),Sim G m lk w->Does P o ρ w (aZs G es w))
 |eff (h1:aEo r s.env) (he:r.op.eff=true) (h2:EOk P o r.op.operands r.dst s s')
theorem aBm{r:RO}(hr:ResO P ops N o r)(hg:aEo r s.env)(h:mH P s r K):∃s',K s'/\RStep P o r s s':=by
 cases he:r.op.eff with
 |true=>
  obtain⟨s',hK,hE⟩:=aLx hr he h;exact⟨s',hK,.eff hg he hE⟩
 |false=>
  rw[aD4 he]at h;cases hn:aK6 r.op with
  |false=>
   obtain⟨x,nbs,fz,hK,h3,h5,hD⟩:=hr.ps he h;exact⟨_,hK,.run hg he x nbs fz rfl h3 h5 hD (fun e=>by rw[hn]at e;cases e)⟩
  |true=>
   obtain⟨zs,hz⟩:=aDp hn;have hz':aA P o=some (.newR zs):=by
    obtain e0|⟨b,op0,g1,g2⟩:=hr.op
    ·rw[hz]at e0;cases e0
    rw[hz]at g2;rw[g1,aQ0 g2]
   rw[hz]at h;obtain⟨ds,hd,hK⟩:=h;have h':aQ P s.lk s.nx s.ev r.op (fun a nbs fz=>K (s.put r.dst a nbs fz)/\a=.eptr (.O s.nx) 1 0 0/\nbs=[.row true 1 (ds.map fun d=>[d])]/\fz=[]):=by rw[hz];exact⟨ds,hd,hK,rfl,rfl,rfl⟩
   obtain⟨x,nbs,fz,⟨hK,e1,e2,e3⟩,h3,h5,hD⟩:=hr.ps he h';exact⟨_,hK,.run hg he x nbs fz rfl h3 h5 hD (fun _=>⟨e1,_,e2,e3,aV6 hz' hd⟩)⟩
theorem aT0{P:Program}{ops:Array Oper}{N:Nat}:∀{os:List Oper} {ros:List RO} {s:AState} {K:AState->Prop},sQ P ops N os ros->iL P ros s K->
  ∃st:Nat->AState,st 0=s/\ros.length=os.length/\K (st os.length)/\∀(i:Nat) (o:Oper) (r:RO),os[i]?=some o->ros[i]?=some r->ResO P ops N o r/\RStep P o r (st i) (st (i+1))
 |[],[],s,K,_,h=>⟨fun _=>s,rfl,rfl,h,fun i o r hi=>by simp at hi⟩
 |[],_::_,_,_,hr,_=>hr.elim
 |_::_,[],_,_,hr,_=>hr.elim
 |o::os,r::ros,s,K,hr,h=>by
  obtain⟨h1,h2⟩:=hr;have go:∀s',iL P ros s' K->RStep P o r s s'->∃st:Nat->AState,st 0=s/\(r::ros).length=(o::os).length/\K (st (o::os).length)/\
    ∀(i:Nat) (o':Oper) (r':RO),(o::os)[i]?=some o'->(r::ros)[i]?=some r'->ResO P ops N o' r'/\RStep P o' r' (st i) (st (i+1)):=fun s' hs' hstep=>by
   obtain⟨st,g1,g2,g3,g4⟩:=aT0 h2 hs';refine⟨fun i=>match i with|0=>s|i+1=>st i,rfl,by simp[g2],g3,fun i o' r' hi hi'=>?_⟩
   match i with
   |0=>
    simp at hi hi';subst hi;subst hi';refine⟨h1,?_⟩;show RStep P o r s (st 0);rw[g1];exact hstep
   |i+1=>exact g4 i o' r' (by simpa using hi) (by simpa using hi')
  unfold iL at h;split at h
  ·rename_i hg;obtain⟨s',hK,hst⟩:=aBm h1 (by unfold aEo;rw[hg];trivial) h;exact go s' hK hst
  ·rename_i t want hg;split at h
   ·rename_i c hc;by_cases e:c=want
    ·obtain⟨s',hK,hst⟩:=aBm h1 (by unfold aEo;rw[hg];simp only;rw[hc,e]) (h.1 e);exact go s' hK hst
    ·exact go _ (h.2 e) (.skip (by unfold uX;rw[hg];exact .inl ⟨c,hc,e⟩) rfl)
   ·rename_i v hc;exact go _ h (.skip (by unfold uX;rw[hg];exact .inr ⟨v,hc⟩) rfl)
   ·exact h.elim
theorem aLg{r:RO}(hr:ResO P ops N o r)(h:iL P [r] s K):∃s',K s'/\RStep P o r s s':=by obtain⟨st,g1,_,g3,g4⟩:=aT0 (os:=[o]) (ros:=[r]) ⟨hr,trivial⟩ h;obtain⟨_,g5⟩:=g4 0 o r rfl rfl;exact⟨st 1,g3,g1▸g5⟩
theorem aH2(h:op.eff=true):op.ht=true:=by cases op<;>first|rfl|(unfold ROp.eff at h;simp at h)
theorem aSd(s:AState)(dst:Option Nat)(a:AV)(h:Hd):(s.put dst a [] []).lk h=s.lk h:=by
 rw[iE];unfold lkN lkF;cases h with
 |B i=>simp
 |O i=>
  have:¬(s.nx<=i/\i<s.nx+([]:List Blk).length):=by rw[bv];omega
  simp only[if_neg this];simp
theorem aSb{r:RO}(h:RStep P o r s s')(he:r.op.ht=false)(x:Hd):s'.lk x=s.lk x:=by
 cases h with
 |skip h1 h2=>subst h2;exact aSd _ _ _ _
 |run h1 he' y nbs fz h2 h3=>
  subst h2;obtain⟨rfl,rfl⟩:=h3 he;exact aSd _ _ _ _
 |eff h1 h2 h3=>rw[aH2 h2]at he;cases he
theorem aT1{P:Program}{ops:Array Oper}{N:Nat}{ld:Bool}{hs:List Hd}{lst:Bool}:∀{os:List Oper} {ros:List RO} {s:AState} {K:AState->Prop},sQ P ops N os ros->aO7 P ld hs lst ros s K->
  ∃st:Nat->AState,st 0=s/\ros.length=os.length/\K (st os.length)/\(∀i,i<os.length->(lst=false\/i+1<os.length)->aGt ld hs (st i) (st (i+1)))/\∀(i:Nat) (o:Oper) (r:RO),os[i]?=some o->ros[i]?=some r->ResO P ops N o r/\RStep P o r (st i) (st (i+1))/\aUc hs r.op (st i).ev
 |[],[],s,K,_,h=>⟨fun _=>s,rfl,rfl,h,fun i hi=>by simp at hi,fun i o r hi=>by simp at hi⟩
 |[],_::_,_,_,hr,_=>hr.elim
 |_::_,[],_,_,hr,_=>hr.elim
 |o::os,r::ros,s,K,hr,h=>by
  obtain⟨h1,h2⟩:=hr;obtain⟨hl,h⟩:=h;obtain⟨s',⟨hk,hs'⟩,hstep⟩:=aLg h1 h;obtain⟨st,g1,g2,g3,g5,g4⟩:=aT1 h2 hs';refine⟨fun i=>match i with|0=>s|i+1=>st i,rfl,by simp[g2],g3,fun i hi hj=>?_,fun i o' r' hi hi'=>?_⟩
  ·match i with
   |0=>
    show aGt ld hs s (st 0);rw[g1];cases he:r.op.ht with
    |true=>exact hk he (hj.imp id fun h6 e=>by subst e;rw[bv]at g2;rw[List.length_cons]at h6;omega)
    |false=>exact fun x _=>by rw[aSb hstep he];exact keepB.refl _ _
   |i+1=>exact g5 i (by simpa using hi) (hj.imp id fun h=>by simpa using h)
  ·match i with
   |0=>
    simp at hi hi';subst hi;subst hi';refine⟨h1,?_,hl⟩;show RStep P o r s (st 0);rw[g1];exact hstep
   |i+1=>exact g4 i o' r' (by simpa using hi) (by simpa using hi')
def sE(r:Nat->RO)(t:Nat):Nat->Nat
 |0=>0
 |k+1=>if(r k).dst=some t then k+1 else sE r t k
theorem uT(r:Nat->RO)(t:Nat):∀i,sE r t i<=i
 |0=>π _
 |k+1=>by unfold sE;split;exact π _;exact Nat.le_succ_of_le (uT r t k)
theorem nK(r:Nat->RO)(t:Nat):∀i,(sE r t i=0\/∃k,k<i/\sE r t i=k+1/\(r k).dst=some t)/\∀k,sE r t i<=k->k<i->(r k).dst≠some t
 |0=>⟨.inl rfl,fun k _ h=>by omega⟩
 |i+1=>by
  obtain⟨h1,h2⟩:=nK r t i;unfold sE;split
  ·rename_i e;exact⟨.inr ⟨i,by omega,rfl,e⟩,fun k h h'=>by omega⟩
  ·rename_i e;refine⟨h1.imp id fun⟨k,a,b,c⟩=>⟨k,by omega,b,c⟩,fun k h h'=>?_⟩;by_cases ek:k=i
   ·subst ek;exact e
   ·exact h2 k h (by omega)
structure Ver (n:Nat) (r:Nat->RO) (L:Nat->Prop) (t q:Nat):Prop where
 le:q<=n
 by_:q=0\/∃k,q=k+1/\L k/\(r k).dst=some t
 last:∀j,q<=j->j<n->L j->(r j).dst≠some t
section
variable{P:Program}{ops:Array Oper}{N:Nat}{r:Nat->RO}{st:Nat->AState}
theorem aEq(h:RStep P o ro s s'):s.nx<=s'.nx:=by
 cases h with
 |skip h1 h2=>subst h2;exact π _
 |run h1 he x nbs fz h2=>subst h2;show s.nx<=s.nx+nbs.length;omega
 |eff h1 he h2=>exact h2.nx
theorem aRd(h:RStep P o ro s s')(hs:∀i,s.nx<=i->s.own i=none):∀i,s'.nx<=i->s'.own i=none:=by
 cases h with
 |skip h1 h2=>subst h2;exact fun i hi=>mP hs i hi
 |run h1 he x nbs fz h2=>subst h2;exact fun i hi=>mP hs i hi
 |eff h1 he h2=>exact h2.own hs
theorem aQm(h:RStep P o ro s s')(ht:ro.dst≠some t):s'.env t=s.env t:=by
 have put:∀x nbs fz,(s.put ro.dst x nbs fz).env t=s.env t:=fun x nbs fz=>by
  show cE s.env ro.dst x t=_;cases hd:ro.dst with
  |some d=>
   show upd s.env d x t=_;unfold upd;rw[if_neg (fun e=>ht (by rw[hd,e]))]
  |none=>rfl
 cases h with
 |skip h1 h2=>subst h2;exact put _ _ _
 |run h1 he x nbs fz h2=>subst h2;exact put _ _ _
 |eff h1 he h2=>exact h2.env t ht
theorem qD(hst:∀i,i<ops.size->∃o,ops[i]?=some o/\ResO P ops N o (r i)/\RStep P o (r i) (st i) (st (i+1))):∀(d i:Nat),i+d<=ops.size->(st i).nx<=(st (i+d)).nx
 |0,i,_=>π _
 |d+1,i,h=>by obtain⟨o,_,_,hs⟩:=hst (i+d) (by omega);exact cx (qD hst d i (by omega)) (aEq hs)
theorem aDo(hst:∀i,i<ops.size->∃o,ops[i]?=some o/\ResO P ops N o (r i)/\RStep P o (r i) (st i) (st (i+1)))(h0:∀j,(st 0).nx<=j->(st 0).own j=none):∀i,i<=ops.size->∀j,(st i).nx<=j->(st i).own j=none
 |0,_=>h0
 |i+1,h=>by obtain⟨o,_,_,hs⟩:=hst i (by omega);exact aRd hs (aDo hst h0 i (by omega))
theorem vR(hst:∀i,i<ops.size->∃o,ops[i]?=some o/\ResO P ops N o (r i)/\RStep P o (r i) (st i) (st (i+1)))(t:Nat):∀i,i<=ops.size->(st (sE r t i)).env t=(st i).env t
 |0,_=>rfl
 |i+1,h=>by
  unfold sE;split
  ·rfl
  ·rename_i e;obtain⟨o,_,_,hs⟩:=hst i (by omega);rw[aQm hs e];exact vR hst t i (by omega)
theorem aCw(hst:∀i,i<ops.size->∃o,ops[i]?=some o/\ResO P ops N o (r i)/\RStep P o (r i) (st i) (st (i+1))):∀(d q:Nat),q+d<=ops.size->(∀i,q<=i->i<q+d->(r i).op.eff=false)->
  ∃hs:List Hd,∀h,(∀j,(st q).nx<=j->j<(st (q+d)).nx->h≠.O j)->(st (q+d)).lk h=if h∈hs then((st q).lk h).map Blk.frz else(st q).lk h
 |0,q,_,_=>⟨[],fun h _=>by simp⟩
 |d+1,q,hn,he=>by
  obtain⟨hs,ih⟩:=aCw hst d q (by omega) (fun i h1 h2=>he i h1 (by omega));obtain⟨o,_,_,hstep⟩:=hst (q+d) (by omega);have hnx:=aEq hstep;have hnx0:=qD hst d q (by omega);have hold:∀(h:Hd),(∀j,(st q).nx<=j->j<(st (q+(d+1))).nx->h≠.O j)->∀j,(st q).nx<=j->j<(st (q+d)).nx->h≠.O j:=fun h hh j h1 h2=>hh j h1 (d7 h2 hnx);have key:∀x nbs fz,st (q+d+1)=(st (q+d)).put (r (q+d)).dst x nbs fz->∃hs:List Hd,∀h,(∀j,(st q).nx<=j->j<(st (q+(d+1))).nx->h≠.O j)->(st (q+(d+1))).lk h=if h∈hs then((st q).lk h).map Blk.frz else(st q).lk h:=fun x nbs fz hput=>by
   refine⟨fz++hs,fun h hh=>?_⟩;have hnew:(st (q+(d+1))).lk h=lkF (st (q+d)).lk fz h:=by
    show(st (q+d+1)).lk h=_;rw[hput,iE];unfold lkN;cases h with
    |B i=>rfl
    |O i=>
     simp only;rw[if_neg (fun hc=>hh i (by omega) (by
      show i<(st (q+d+1)).nx;rw[hput];exact hc.2) rfl)]
   rw[hnew];unfold lkF;rw[ih h (hold h hh)];by_cases e1:h∈fz<;>by_cases e2:h∈hs<;>simp[e1,e2];cases(st q).lk h<;>simp[Blk.frz_frz]
  cases hstep with
  |skip h1 h2=>exact key _ _ _ h2
  |run h1 he' x nbs fz h2=>exact key _ _ _ h2
  |eff h1 he'=>have:=he (q+d) (by omega) (by omega);rw[this]at he';cases he'
theorem aJ4(hst:∀i,i<ops.size->∃o,ops[i]?=some o/\ResO P ops N o (r i)/\RStep P o (r i) (st i) (st (i+1))){q q':Nat}(hq:q<=q')(hn:q'<=ops.size)
  (he:∀i,q<=i->i<q'->(r i).op.eff=false) (hm:∀j,(st q).nx<=j->j<(st q').nx->m (.O j)=none) (hS:Sim G m (st q).lk w):
  ∃G',Sim G' m (st q').lk w/\Fr (fun _=>False) (Own m) G G' w w:=by obtain⟨d,rfl⟩:∃d,q'=q+d:=⟨q'-q,by omega⟩;obtain⟨hs,hh⟩:=aCw hst d q hn he;obtain⟨G',h1,h2,h3⟩:=hS.freeze hs;refine⟨G',h1.congr (fun x hx=>?_),rfl,.same rfl rfl,rfl,π _,fun _ _ _=>rfl,fun b _ ho o=>h3 b (fun h _ sz e=>ho (.at_ e)) o,h2⟩;rw[hh x (fun j a b e=>by subst e;exact hx (hm j a b))];rfl
theorem aN9(hst:∀i,i<ops.size->∃o,ops[i]?=some o/\ResO P ops N o (r i)/\RStep P o (r i) (st i) (st (i+1))):∀(d q:Nat),q+d<=ops.size->(∀i,q<=i->i<q+d->(r i).op.eff=false/\(r i).op.ht=false)->(st (q+d)).lk=(st q).lk
 |0,q,_,_=>rfl
 |d+1,q,hn,he=>by
  obtain⟨o,_,_,hs⟩:=hst (q+d) (by omega);rw[<-aN9 hst d q (by omega) (fun i h1 h2=>he i h1 (by omega))];show(st (q+d+1)).lk=_;cases hs with
  |skip h1 h2=>rw[h2,iE,cT,eY]
  |run h1 he' x nbs fz h2 h3=>
   obtain⟨rfl,rfl⟩:=h3 (he (q+d) (by omega) (by omega)).2;rw[h2,iE,cT,eY]
  |eff h1 he'=>have:=(he (q+d) (by omega) (by omega)).1;rw[this]at he';cases he'
theorem Sim.know(hS:Sim G m lk w){h:Hd}{b:Nat}{bl:Blk}(hn:m h=none)(hl:lk h=some bl)(hb:∀m',BlkRep G m' bl b sz w)(ho:¬Own m b):Sim G (aL m h (.at_ b sz)) lk w:=by
 have hle:=yY (loc:=.at_ b sz) hn;refine⟨fun x b' sz' hm=>?_,fun x hm=>?_,fun x x' l1 l2 b' h1 h2 q1 q2=>?_,hS.gh,fun x hm=>?_,hS.gl,fun x b' sz' fp hm=>?_⟩
 rotate_right
 ·unfold aL at hm;split at hm
  ·cases hm
  ·obtain⟨bl',g1,g2⟩:=hS.blkx x b' sz' fp hm;exact⟨bl',g1,g2.mono (Gh.le.refl G) hle (fun _ _ _=>rfl) (fun _ _=>rfl) (KeepIt.refl _ _)⟩
 ·unfold aL at hm;split at hm
  ·rename_i e;subst e;cases hm;exact⟨bl,hl,hb _⟩
  ·obtain⟨bl',g1,g2⟩:=hS.blk x b' sz' hm;exact⟨bl',g1,g2.mono (Gh.le.refl G) hle (fun _=>rfl) rfl⟩
 ·unfold aL at hm;split at hm
  ·cases hm
  ·exact hS.nil x hm
 ·unfold aL at h1 h2;split at h1
  ·rename_i e;cases h1;split at h2
   ·rename_i e';rw[e,e']
   ·rw[bo.1 q1]at q2;exact absurd ⟨x',l2,h2,q2⟩ ho
  ·split at h2
   ·cases h2;rw[bo.1 q2]at q1;exact absurd ⟨x,l1,h1,q1⟩ ho
   ·exact hS.injG x x' l1 l2 b' h1 h2 q1 q2
 ·unfold aL at hm;split at hm
  ·cases hm
  ·exact hS.dead x hm
def aTm(r:Nat->RO)(st:Nat->AState)(e:Nat)(E:Ent)(G:Gh)(m:HM)(a:Act)(w:World):Prop:=
 ∃t b sz es,(r e).dst=some t/\(st (e+1)).nx=(st e).nx+1/\(st (e+1)).lk (.O (st e).nx)=some (.row true 1 es)/\(st (e+1)).env t=.eptr (.O (st e).nx) 1 0 0/\
  (∀m',BlkRep G m' (.row true 1 es) b sz w)/\E.w0.heap.size<=b/\(¬Own m b)/\E.val a t=.pointer (some ⟨b,0,none⟩)
structure Inv (P:Program) (ops:Array Oper) (r:Nat->RO) (st:Nat->AState) (e:Nat) (E:Ent) (listed:Array Bool) (a:Act) (w:World):Prop where
 size:listed.size=ops.size
 closed:∀j,j<ops.size->listed.getD j false=true->∀e∈cP ops j,listed.getD e false=true
 main:∃G m p,p<=ops.size/\(∀i,i<p->(r i).op.eff=true->listed.getD i false=true)/\(p<ops.size->(r p).op.eff=true/\listed.getD p false=false)/\
  Sim G m (st p).lk w/\(∀t q,Ver ops.size r (fun i=>listed.getD i false=true) t q->(q=e+1->e<p)->AV.Rep G m ((st q).env t) (E.val a t))/\a.tmps.size=E.N/\(Marks1 E.dt (E.w0.heap.size+E.sk) E.nd a.defers w/\E.J ((st 0).env E.N) w)/\
  (∀i,i<ops.size->(listed.getD i false=false\/(i=e/\p<=e))->∀j,(st i).nx<=j->j<(st (i+1)).nx->m (.O j)=none)/\(∀j,(st ops.size).nx<=j->m (.O j)=none)/\
  Fr (Own E.m0) (Own E.m0) E.G0 G E.w0 w/\(∀i,SameB (E.m0 (.B i)) (m (.B i)))/\
  (∀h l b,m h=some l->b∈l.blks->E.w0.heap.size<=b\/Own E.m0 b)/\
  (e<ops.size->listed.getD e false=true->p<=e->aTm r st e E G m a w)
end
theorem yH{i:Nat}(h:listed.getD i true=false):listed.getD i false=false:=by
 rcases dv i listed.size with h'|h'
 ·simp[h']at h|-;exact h
 ·simp[Array.getElem?_eq_none h']at h
theorem kX{i:Nat}(hi:i<listed.size):(listed.setIfInBounds i true).getD j false=true↔(j=i\/listed.getD j false=true):=by
 by_cases e:j=i
 ·subst e;simp[hi]
 ·have e':i≠j:=fun h=>e h.symm;simp only[cp,gv e',e,false_or]
section
variable{P:Program}{ops:Array Oper}{N:Nat}{r:Nat->RO}{st:Nat->AState}
theorem aOl(j:Nat):∀(d a:Nat),(st a).nx<=j->j<(st (a+d)).nx->∃k,a<=k/\k<a+d/\(st k).nx<=j/\j<(st (k+1)).nx
 |0,a,h1,h2=>by simp at h2;omega
 |d+1,a,h1,h2=>by
  by_cases h:(st (a+d)).nx<=j
  ·exact⟨a+d,by omega,by omega,h,h2⟩
  ·obtain⟨k,q1,q2,q3,q4⟩:=aOl j d a h1 (by omega);exact⟨k,q1,by omega,q3,q4⟩
theorem aLl(h:RStep P o ro s s')(hn:s.nx<s'.nx):ro.op.ht=true:=by
 cases h with
 |skip h1 h2=>subst h2;simp[AState.put]at hn
 |run h1 he x nbs fz h2 h3=>
  subst h2;cases hh:ro.op.ht with
  |true=>rfl
  |false=>obtain⟨rfl,_⟩:=h3 hh;simp[AState.put]at hn
 |eff h1 he h2=>exact aH2 he
theorem aE1(r:Nat->RO)(n:Nat):∀(d i:Nat),i+d=n->∃p,i<=p/\p<=n/\(∀j,i<=j->j<p->(r j).op.eff=false)/\(p<n->(r p).op.eff=true)
 |0,i,h=>⟨i,π _,by omega,fun j a b=>by omega,fun h'=>by omega⟩
 |d+1,i,h=>by
  cases he:(r i).op.eff with
  |true=>exact⟨i,π _,by omega,fun j a b=>by omega,fun _=>he⟩
  |false=>
   obtain⟨p,a,b,c,e⟩:=aE1 r n d (i+1) (by omega);refine⟨p,by omega,b,fun j h1 h2=>?_,e⟩;by_cases ej:j=i
   ·subst ej;exact he
   ·exact c j (by omega) h2
theorem aVw(hst:∀i,i<ops.size->∃o,ops[i]?=some o/\ResO P ops N o (r i)/\RStep P o (r i) (st i) (st (i+1)))(hD:DrawOk ops r e)(h0:∀j,(st 0).nx<=j->(st 0).own j=none)
  (hstab:∀i x,i<ops.size->(r i).op.sArg=some x->∀h,((st i).ev x).hd?=some h->∀q,q<=ops.size->(∀j,j<q->(r j).op.eff=true->¬anc ops i j=true)->keepB (aX5 (r i).op) ((st i).lk h) ((st q).lk h))
 (hN:E.N=N) (hI:Inv P ops r st e E listed a w) {i:Nat} (hi:i∈Region.ready .any ops listed):
  wpOpIn (FR rd) 0 P ops Q i (Inv P ops r st e E (listed.setIfInBounds i true)) a w:=by
 subst hN;obtain⟨hun,oi,hoi,hall⟩:=mem_ready.1 hi;have hlt:i<ops.size:=(bx.1 hoi).1;have hunL:¬listed.getD i false=true:=by rw[yH hun];simp
 obtain⟨o',ho',hres,hstep⟩:=hst i hlt;rw[hoi]at ho';cases ho';obtain⟨hsize,hclosed,G,m,p,hpn,hp1,hp2,hS,htm,hasz,hdef,hfr1,hfr2,hframe,hbase,hown,hearly⟩:=hI;have haft:∀e∈cP ops i,listed.getD e false=true:=fun e he=>by unfold cP at he;rw[hoi]at he;obtain⟨ed,h1,rfl⟩:=db.1 he;obtain⟨h1,h2⟩:=ξ.1 h1;exact hall ed (by simpa using h1) h2
 have hancL:∀j,anc ops j i=true->listed.getD j false=true:=fun j hj=>by
  obtain⟨e,he,rfl|h2⟩:=aAh hD.lt hlt hj
  ·exact haft _ he
  ·exact xG hD.lt (L:=fun k=>listed.getD k false=true) hclosed e j (Nat.lt_trans (hD.lt i hlt e he) hlt) h2 (haft e he)
 have hancN:∀j,j<ops.size->anc ops i j=true->¬listed.getD j false=true:=fun j hj h hL=>
  hunL (xG hD.lt (L:=fun k=>listed.getD k false=true) hclosed j i hj h hL)
 have hpe:p<=e->e<ops.size->p≠e:=fun h he2 h'=>by subst h';obtain⟨zs,hz⟩:=hD.nw he2;have:=(hp2 he2).1;rw[hz]at this;cases this
 have hte:p<=e->e<ops.size->i≠e->∀t,(r e).dst=some t->t∉(r i).names:=fun h he2 hie t ht hin=>by obtain⟨t',ht',hus⟩:=hD.us he2;rw[ht]at ht';cases ht';have hlt2:p<e:=jw h (hpe h he2);obtain⟨g1,g2⟩:=hp2 (by omega);rw[hancL p (hus i hlt hie hin p hlt2 g1)]at g2;cases g2
 have hver:∀t∈(r i).names,Ver ops.size r (fun k=>listed.getD k false=true) t (sE r t i):=fun t ht=>by
  obtain⟨h1,h2⟩:=nK r t i;refine⟨cx (uT r t i) (Nat.le_of_lt hlt),?_,fun j h3 h4 h5 h6=>?_⟩
  ·rcases h1 with h1|⟨k,h3,h4,h5⟩
   ·exact .inl h1
   ·exact .inr ⟨k,h4,hancL k (hD.wr k i h3 hlt t h5 ht),h5⟩
  ·rcases fy j i with h7|h7|h7
   ·exact h2 j h3 h7 h6
   ·subst h7;exact hunL h5
   ·exact hancN j h4 (hD.rw i j h7 h4 t h6 ht) h5
 have henv:∀t∈(r i).names,AV.Rep G m ((st i).env t) (E.val a t):=fun t ht=>by
  rw[<-vR hst t i (Nat.le_of_lt hlt)];refine htm t _ (hver t ht) fun hq=>?_;rcases dv e p with h|h
  ·exact h
  ·exfalso;have hle:=uT r t i;rcases(nK r t i).1 with h1|⟨k,h2,h3,h4⟩
   ·omega
   ·have hke:k=e:=by omega
    subst hke;exact hte h (by omega) (by omega) t h4 ht
 have hevs:∀x∈(r i).op.operands,AV.Rep G m ((st i).ev x) (a.eval x):=fun x hx=>by
  cases x with
  |tmp t=>
   have htN:t<E.N:=by simpa[Operand.inN]using hres.xs _ hx
   show AV.Rep G m ((st i).env t) (a.tmps.getD t undef);rw[<-Ent.val_lt htN];refine henv t ?_;unfold RO.names;refine List.mem_append_left _ (List.mem_append_right _ ?_);exact List.mem_filterMap.2 ⟨_,hx,rfl⟩
  |const v=>exact uE G m v
  |global g=>
   show AV.Rep G m (match aFy g with|some ds=>.rop ds|none=>.any) (.pointer (some ⟨g,0,none⟩));cases hg:aFy g with
   |none=>unfold AV.Rep;trivial
   |some ds=>unfold AV.Rep;exact⟨g,0,rfl,hS.gl g ds hg⟩
  |func f=>show AV.Rep G m (.clo f []) _;unfold AV.Rep;exact⟨#[],rfl,by simp[AV.RepL]⟩
 have hL':∀j,(listed.setIfInBounds i true).getD j false=true↔(j=i\/listed.getD j false=true):=fun j=>kX (by rw[hsize];exact hlt);have hclosed':∀j,j<ops.size->(listed.setIfInBounds i true).getD j false=true->∀e∈cP ops j,(listed.setIfInBounds i true).getD e false=true:=fun j hj h e he=>by
  rw[hL']at h|-;rcases h with rfl|h
  ·exact .inr (haft e he)
  ·exact .inr (hclosed j hj h e he)
 have htm':∀{G':Gh} {m':HM} {v:Value},Gh.le G G'->HM.le m m'->(i≠e->∀d,(r i).dst=some d->AV.Rep G' m' ((st (i+1)).env d) v)->(i=e->e<p->∀d,(r i).dst=some d->AV.Rep G' m' ((st (i+1)).env d) v)->
   ∀t q,Ver ops.size r (fun k=>(listed.setIfInBounds i true).getD k false=true) t q->(q=e+1->e<p)->AV.Rep G' m' ((st q).env t) (E.val (a.put oi.dst v) t):=fun{G' m' v} hG hm hd0 hd1 t q hv hqe=>by
  rw[zQ t hasz hres.lt,<-hres.dst];by_cases e':(r i).dst=some t
  ·rw[if_pos e'];have hq:i<q:=by
    rcases dv i q with h|h
    ·exact h
    ·exact absurd e' (hv.last i h hlt ((hL' i).2 (.inl rfl)))
   rcases hv.by_ with rfl|⟨k,rfl,hk,hkd⟩
   ·omega
   ·have hki:k=i:=by
     rcases fy k i with h|h|h
     ·omega
     ·exact h
     ·exfalso;have hkn:k<ops.size:=by have:=hv.le;omega
      have:=hancN k hkn (hD.wr i k h hkn t e' (by unfold RO.names;rw[hkd];simp));rcases(hL' k).1 hk with h'|h'
      ·omega
      ·exact this h'
    subst hki;by_cases hke:k=e
    ·exact hd1 hke (hqe (by rw[hke])) t e'
    ·exact hd0 hke t e'
  ·rw[if_neg e'];refine AV.Rep.mono hG hm _ _ (htm t q ⟨hv.le,hv.by_.imp id fun⟨k,h1,h2,h3⟩=>⟨k,h1,?_,h3⟩,fun j h1 h2 h3=>hv.last j h1 h2 ((hL' j).2 (.inr h3))⟩ hqe);rcases(hL' k).1 h2 with rfl|h2
   ·exact absurd h3 e'
   ·exact h2
 have hnxmono:∀k,k<ops.size->(st k).nx<=(st (k+1)).nx:=fun k hk=>by obtain⟨o,_,_,hs⟩:=hst k hk;exact aEq hs
 have hnames:∀k j,k<ops.size->(st k).nx<=j->j<(st (k+1)).nx->(r k).op.ht=true:=fun k j hk h1 h2=>by obtain⟨o,_,_,hs⟩:=hst k hk;exact aLl hs (by omega)
 have heffp:(r i).op.eff=true->p=i:=fun he=>by
  rcases fy p i with h|h|h
  ·exfalso;obtain⟨h1,h2⟩:=hp2 (by omega);have hie:i≠e:=fun hie=>by subst hie;obtain⟨zs,hz⟩:=hD.nw hlt;rw[hz]at he;cases he
   rw[hancL p (hD.eh p i h hlt hie h1 (aH2 he))]at h2;cases h2
  ·exact h
  ·exact absurd (hp1 i h he) hunL
 have heffe:(r i).op.eff=true->i≠e:=fun he hie=>by subst hie;obtain⟨zs,hz⟩:=hD.nw hlt;rw[hz]at he;cases he
 have hvalE:p<=e->e<ops.size->i≠e->∀t v,(r e).dst=some t->E.val (a.put oi.dst v) t=E.val a t:=fun h he2 hie t v ht=>by rw[zQ t hasz hres.lt,<-hres.dst,if_neg];intro h';exact hte h he2 hie t ht (by unfold RO.names;rw[h'];simp)
 have hlE:∀{b sz:Nat} {es:List (List DV)} {G':Gh} {m':HM},BlkRep G' m' (.row true 1 es) b sz w->b<w.heap.size:=fun hb=>by unfold BlkRep at hb;obtain⟨vs,T,h1,_⟩:=hb;exact(bx.1 h1).1
 have hearlyGo:p<=e->i≠e->∀{G':Gh} {m':HM} {w':World} {v:Value},(∀b,b<w.heap.size->¬Own m b->w'.heap[b]?=w.heap[b]?/\∀o,G' b o=G b o)->(∀b,b<w.heap.size->¬Own m b->¬Own m' b)->Gh.le G G'->
   (e<ops.size->listed.getD e false=true->p<=e->aTm r st e E G m a w)->(e<ops.size->listed.getD e false=true->aTm r st e E G' m' (a.put oi.dst v) w'):=fun hpe2 hie {G' m' w' v} h1 h2 hG h he2 hl=>by obtain⟨t,b,sz,es,a1,a2,a3,a4,a5,a6,a7,a8⟩:=h he2 hl hpe2;have hbl:b<w.heap.size:=hlE (a5 m);have hno:¬Own m b:=a7;obtain⟨g1,g2⟩:=h1 b hbl hno;exact⟨t,b,sz,es,a1,a2,a3,a4,fun m''=>(a5 m'').mono hG (HM.le.refl _) g2 g1,a6,h2 b hbl hno,by rw[hvalE hpe2 he2 hie t v a1];exact a8⟩
 have forEff:(r i).op.eff=true->∀{G':Gh} {m':HM} {w':World} {v:Value},Sim G' m' (st (i+1)).lk w'->Fr (Own E.m0) (Own E.m0) E.G0 G' E.w0 w'->KeepO w w'->Gh.le G G'->HM.le m m'->
   (∀b,b<w.heap.size->¬Own m b->w'.heap[b]?=w.heap[b]?/\∀o,G' b o=G b o)->(∀b,b<w.heap.size->¬Own m b->¬Own m' b)->
   (∀j,SameB (E.m0 (.B j)) (m' (.B j)))->(∀j,(j<(st i).nx\/(st (i+1)).nx<=j)->m (.O j)=none->m' (.O j)=none)->(∀h l b,m' h=some l->b∈l.blks->E.w0.heap.size<=b\/Own E.m0 b)->
   (∀d,(r i).dst=some d->AV.Rep G' m' ((st (i+1)).env d) v)->Inv P ops r st e E (listed.setIfInBounds i true) (a.put oi.dst v) w':=fun he {G' m' w' v} hS' hF' hkeep hG' hmle hEh hEo hbase' hmO hown' hd=>by
  have hpi:=heffp he;have hie:=heffe he;subst hpi;obtain⟨p',hp'1,hp'2,hp'3,hp'4⟩:=aE1 r ops.size (ops.size-(p+1)) (p+1) (by omega);have hnone:∀j,(st (p+1)).nx<=j->j<(st p').nx->m' (.O j)=none:=fun j h1 h2=>by
   obtain⟨k,q1,q2,q3,q4⟩:=aOl (st:=st) j (p'-(p+1)) (p+1) h1 (by rw[show p+1+(p'-(p+1))=p' by omega];exact h2);have hkn:k<ops.size:=by omega
   refine hmO j (.inr h1) (hfr1 k hkn ?_ j q3 q4);by_cases hke:k=e
   ·exact .inr ⟨hke,by omega⟩
   ·have hkL:¬listed.getD k false=true:=hancN k hkn (hD.eh p k (by omega) hkn hke he (hnames k j hkn q3 q4));exact .inl (by simpa using hkL)
  obtain⟨G2,hS2,hF2⟩:=aJ4 hst hp'1 hp'2 (fun j h1 h2=>hp'3 j h1 h2) hnone hS';have hp'u:p'<ops.size->(listed.setIfInBounds p true).getD p' false=false:=fun h=>by
   have hp'e:p'≠e:=fun hh=>by subst hh;obtain⟨zs,hz⟩:=hD.nw h;have:=hp'4 h;rw[hz]at this;cases this
   have hkL:¬listed.getD p' false=true:=hancN p' h (hD.eh p p' (by omega) h hp'e he (aH2 (hp'4 h)));have:¬(listed.setIfInBounds p true).getD p' false=true:=by
    rw[hL'];rintro(h1|h1)
    ·omega
    ·exact hkL h1
   simpa using this
  have hlist':∀j,j<p'->(r j).op.eff=true->(listed.setIfInBounds p true).getD j false=true:=fun j h1 h2=>by
   rw[hL'];rcases fy j p with h3|h3|h3
   ·exact .inr (hp1 j h3 h2)
   ·exact .inl h3
   ·rw[hp'3 j (by omega) h1]at h2;cases h2
  have hFr2:Fr (Own E.m0) (Own E.m0) E.G0 G2 E.w0 w':=hF'.step hF2 (fun _ _ q=>q.elim) (fun b hb q=>by
   obtain⟨x,l,hx,hl⟩:=q;rcases hown' x l b hx hl with h1|h1
   ·omega
   ·exact h1)
  have hfr1':∀k,k<ops.size->((listed.setIfInBounds p true).getD k false=false\/(k=e/\p<=e))->∀j,(st k).nx<=j->j<(st (k+1)).nx->m' (.O j)=none:=fun k hk hkL j h1 h2=>by
   have hkp:k≠p:=fun e'=>by
    subst e';rcases hkL with hkL|⟨hkL,_⟩
    ·rw[(hL' k).2 (.inl rfl)]at hkL;cases hkL
    ·exact hie hkL
   have hold:listed.getD k false=false\/(k=e/\p<=e):=hkL.imp (fun hkL=>by
    have hkL':¬listed.getD k false=true:=fun h=>by rw[(hL' k).2 (.inr h)]at hkL;cases hkL
    simpa using hkL') id
   refine hmO j ?_ (hfr1 k hk hold j h1 h2);rcases iz hkp with h3|h3
   ·exact .inl (d7 h2 (by have:=qD hst (p-(k+1)) (k+1) (by omega);rwa[show k+1+(p-(k+1))=p by omega]at this))
   ·exact .inr (cx (by have:=qD hst (k-(p+1)) (p+1) (by omega);rwa[show p+1+(k-(p+1))=k by omega]at this) h1)
  have hfr2':∀j,(st ops.size).nx<=j->m' (.O j)=none:=fun j h=>hmO j (.inr (cx (by have:=qD hst (ops.size-(p+1)) (p+1) (by omega);rwa[show p+1+(ops.size-(p+1))=ops.size by omega]at this) h)) (hfr2 j h);have hdef':Marks1 E.dt (E.w0.heap.size+E.sk) E.nd (a.put oi.dst v).defers w'/\E.J ((st 0).env E.N) w':=⟨by rw[nC];exact hdef.1.keep hkeep,E.Jkeep _ _ _ hdef.2 hkeep⟩;by_cases hab:e<ops.size/\listed.getD e false=true/\p<=e/\e<p'
  ·
   obtain⟨he2,hle,hpe2,hep'⟩:=hab;have hlt2:p<e:=jw hpe2 (hpe hpe2 he2);obtain⟨t,b,sz,es,a1,a2,a3,a4,a5,a6,a7,a8⟩:=hearlyGo hpe2 hie (v:=v) hEh hEo hG' hearly he2 hle;have hn0:m' (.O (st e).nx)=none:=hfr1' e he2 (.inr ⟨rfl,hpe2⟩) _ (π _) (by omega);have hlk:(st p').lk (.O (st e).nx)=some (.row true 1 es):=by
    have:=aN9 hst (p'-(e+1)) (e+1) (by omega) (fun k h1 h2=>by
     have hk1:=hp'3 k (by omega) (by omega);refine⟨hk1,?_⟩;cases hht:(r k).op.ht with
     |false=>rfl
     |true=>
      exfalso;obtain⟨q,q1,q2,q3⟩:=hD.bt he2 k (by omega) (by omega) hht hk1;rw[hp'3 q (by omega) (by omega)]at q3;cases q3)
    rw[show e+1+(p'-(e+1))=p' by omega]at this;rw[this];exact a3
   have hbl:b<w'.heap.size:=by have:=a5 m;unfold BlkRep at this;obtain⟨vs,T,h1,_⟩:=this;exact(bx.1 h1).1
   have hno:¬Own m' b:=a7;have hS3:=hS2.know hn0 hlk (fun m''=>(a5 m'').mono hF2.le (HM.le.refl _) (fun o=>hF2.gh b hbl hno o) rfl) a7;have hle3:=yY (loc:=.at_ b sz) hn0;refine⟨by simp[hsize],hclosed',G2,aL m' (.O (st e).nx) (.at_ b sz),p',hp'2,hlist',fun h=>⟨hp'4 h,hp'u h⟩,hS3,fun t' q hv _=>?_,by rw[qA];exact hasz,hdef',fun k hk hkL j h1 h2=>?_,fun j h=>?_,hFr2,fun j=>?_,fun x l b' hx hl=>?_,fun _ _ h=>by omega⟩
   ·by_cases hqe:q=e+1
    ·subst hqe;have htt:t'=t:=by
      rcases hv.by_ with h1|⟨k,h1,_,h3⟩
      ·omega
      ·have:k=e:=by omega
       subst this;rw[a1]at h3;cases h3;rfl
     subst htt;rw[a4,a8];exact aE2 (b:=b) (sz:=sz) (by simp[aL])
    ·exact AV.Rep.mono hF2.le hle3 _ _ (htm' hG' hmle (fun _=>hd) (fun h=>absurd h hie) t' q hv (fun h=>absurd h hqe))
   ·have hke:k≠e:=fun hh=>by
     subst hh;rcases hkL with h|⟨_,h⟩
     ·rw[(hL' k).2 (.inr hle)]at h;cases h
     ·omega
    have:j≠(st e).nx:=fun hh=>by
     subst hh;rcases iz hke with h3|h3
     ·have:=qD hst (e-(k+1)) (k+1) (by omega);rw[show k+1+(e-(k+1))=e by omega]at this;omega
     ·have:=qD hst (k-(e+1)) (e+1) (by omega);rw[show e+1+(k-(e+1))=k by omega]at this;omega
    unfold aL;rw[if_neg (fun h=>this (by cases h;rfl))];exact hfr1' k hk (hkL.imp id fun h=>absurd h.1 hke) j h1 h2
   ·have:=qD hst (ops.size-(e+1)) (e+1) (by omega);rw[show e+1+(ops.size-(e+1))=ops.size by omega]at this;unfold aL;rw[if_neg (fun h'=>by cases h';omega)];exact hfr2' j h
   ·unfold aL;rw[if_neg (fun h=>by cases h)];exact hbase' j
   ·unfold aL at hx;split at hx
    ·cases hx;rw[bo.1 hl];exact .inl a6
    ·exact hown' x l b' hx hl
  ·refine⟨by simp[hsize],hclosed',G2,m',p',hp'2,hlist',fun h=>⟨hp'4 h,hp'u h⟩,hS2,fun t' q hv hqe=>?_,by rw[qA];exact hasz,hdef',fun k hk hkL=>hfr1' k hk (hkL.imp id fun h=>⟨h.1,by omega⟩),hfr2',hFr2,hbase',hown',fun he2 hle hp'e=>?_⟩
   ·refine AV.Rep.mono hF2.le (HM.le.refl m') _ _ (htm' hG' hmle (fun _=>hd) (fun h=>absurd h hie) t' q hv fun hq=>?_);have h1:=hqe hq;rcases dv e p with h2|h2
    ·exact h2
    ·exfalso;refine hab ⟨by have:=hv.le;omega,?_,h2,h1⟩;rcases hv.by_ with h3|⟨k,h3,h4,_⟩
     ·omega
     ·have:k=e:=by omega
      subst this;rcases(hL' k).1 h4 with h5|h5
      ·exact absurd h5.symm hie
      ·exact h5
   ·have hle':listed.getD e false=true:=by
     rcases(hL' e).1 hle with h5|h5
     ·exact absurd h5.symm hie
     ·exact h5
    obtain⟨t,b,sz,es,a1,a2,a3,a4,a5,a6,a7,a8⟩:=hearlyGo (by omega) hie (v:=v) hEh hEo hG' hearly he2 hle';have hbl:b<w'.heap.size:=by have:=a5 m;unfold BlkRep at this;obtain⟨vs,T,h1,_⟩:=this;exact(bx.1 h1).1
    have hno:¬Own m' b:=a7;exact⟨t,b,sz,es,a1,a2,a3,a4,fun m''=>(a5 m'').mono hF2.le (HM.le.refl _) (fun o=>hF2.gh b hbl hno o) rfl,a6,a7,a8⟩
 have forRest:(r i).op.eff=false->(i=e->e<p)->∀{G':Gh} {m':HM} {w':World} {v:Value},Sim G' m' (st p).lk w'->Fr (Own E.m0) (Own E.m0) E.G0 G' E.w0 w'->KeepO w w'->Gh.le G G'->HM.le m m'->
   (∀b,b<w.heap.size->¬Own m b->w'.heap[b]?=w.heap[b]?/\∀o,G' b o=G b o)->(∀b,b<w.heap.size->¬Own m b->¬Own m' b)->
   (∀j,m' (.B j)=m (.B j))->(∀j,(j<(st i).nx\/(st (i+1)).nx<=j)->m' (.O j)=m (.O j))->(∀h l b,m' h=some l->b∈l.blks->E.w0.heap.size<=b\/Own E.m0 b)->
   (∀d,(r i).dst=some d->AV.Rep G' m' ((st (i+1)).env d) v)->Inv P ops r st e E (listed.setIfInBounds i true) (a.put oi.dst v) w':=fun he hiep {G' m' w' v} hS' hF' hkeep hG' hm' hEh hEo hmB hmO hown' hd=>by
  refine⟨by simp[hsize],hclosed',G',m',p,hpn,fun j h1 h2=>(hL' j).2 (.inr (hp1 j h1 h2)),fun h=>⟨(hp2 h).1,?_⟩,hS',htm' hG' hm' (fun _=>hd) (fun _ _=>hd),by rw[qA];exact hasz,⟨by rw[nC];exact hdef.1.keep hkeep,E.Jkeep _ _ _ hdef.2 hkeep⟩,fun k hk hkL j h1 h2=>?_,fun j h=>?_,hF',fun j=>by rw[hmB];exact hbase j,hown',fun he2 hle hpe2=>?_⟩
  ·have:¬(listed.setIfInBounds i true).getD p false=true:=by
    rw[hL'];rintro(h1|h1)
    ·subst h1;rw[(hp2 h).1]at he;cases he
    ·rw[(hp2 h).2]at h1;cases h1
   simpa using this
  ·have hki:k≠i:=fun e'=>by
    subst e';rcases hkL with hkL|⟨hkL,h⟩
    ·rw[(hL' k).2 (.inl rfl)]at hkL;cases hkL
    ·have:=hiep hkL;omega
   have hold:listed.getD k false=false\/(k=e/\p<=e):=hkL.imp (fun hkL=>by
    have hkL':¬listed.getD k false=true:=fun h=>by rw[(hL' k).2 (.inr h)]at hkL;cases hkL
    simpa using hkL') id
   rw[hmO j ?_]
   ·exact hfr1 k hk hold j h1 h2
   ·rcases iz hki with h3|h3
    ·exact .inl (d7 h2 (by have:=qD hst (i-(k+1)) (k+1) (by omega);rwa[show k+1+(i-(k+1))=i by omega]at this))
    ·exact .inr (cx (by have:=qD hst (k-(i+1)) (i+1) (by omega);rwa[show i+1+(k-(i+1))=k by omega]at this) h1)
  ·rw[hmO j (.inr (cx (by have:=qD hst (ops.size-(i+1)) (i+1) (by omega);rwa[show i+1+(ops.size-(i+1))=ops.size by omega]at this) h))];exact hfr2 j h
  ·have hie:i≠e:=fun h=>by have:=hiep h;omega
   have hle':listed.getD e false=true:=by
    rcases(hL' e).1 hle with h5|h5
    ·exact absurd h5.symm hie
    ·exact h5
   exact hearlyGo hpe2 hie hEh hEo hG' hearly he2 hle'
 have hyield:∀(j t:Nat),(ops[j]?).bind (·.dst)=some t->yielded ops a.tmps j=match a.tmps.getD t undef with|.bool b=>some b|_=>none:=fun j t ht=>by
  unfold yielded;rw[ht];simp only[jf,cp];cases a.tmps[t]?with
  |none=>rfl
  |some v=>cases v<;>rfl
 have hgname:∀t want,(r i).guard=some (t,want)->t∈(r i).names:=fun t want h=>by unfold RO.names;rw[h];simp
 have hwT:aEo (r i) (st i).env->Region.wanted oi (yielded ops a.tmps)=true:=fun hg=>by
  have hgd:=hres.guard;cases hog:oi.guard with
  |none=>simp[Region.wanted,hog]
  |some g=>
   obtain⟨j,want⟩:=g;rw[hog]at hgd;obtain⟨t,ht,htN,hgd⟩:=hgd;unfold aEo at hg;rw[hgd]at hg;have hv:=zG (hg▸henv t (hgname t want hgd));rw[Ent.val_lt htN]at hv;simp only[Region.wanted,hog,hyield j t ht,hv];cases want<;>rfl
 have hwF:uX (r i) (st i).env->Region.wanted oi (yielded ops a.tmps)=false:=fun hg=>by
  have hgd:=hres.guard;cases hog:oi.guard with
  |none=>rw[hog]at hgd;unfold uX at hg;rw[hgd]at hg;exact hg.elim
  |some g=>
   obtain⟨j,want⟩:=g;rw[hog]at hgd;obtain⟨t,ht,htN,hgd⟩:=hgd;unfold uX at hg;rw[hgd]at hg;rcases hg with⟨c,hc,hne⟩|⟨v,hc⟩
   ·have hv:=zG (hc▸henv t (hgname t want hgd));rw[Ent.val_lt htN]at hv;simp only[Region.wanted,hog,hyield j t ht,hv];cases c<;>cases want<;>first|rfl|exact absurd rfl hne
   ·have hv:=henv t (hgname t want hgd);rw[hc,Ent.val_lt htN]at hv;unfold AV.Rep DV.Rep at hv;simp only[Region.wanted,hog,hyield j t ht,hv];rfl
 unfold wpOpIn;rw[hoi];simp only;cases hstep with
 |skip h1 h2=>
  rw[hwF h1];refine⟨fun f _=>lP rd f,?_⟩;have hun':∀(m':HM) d,(r i).dst=some d->AV.Rep G m' ((st (i+1)).env d) undef:=fun m' d hd=>by rw[h2];show AV.Rep G m' (cE (st i).env (r i).dst .un d) undef;rw[hd];show AV.Rep G m' (upd (st i).env d .un d) undef;unfold upd;rw[if_pos rfl];unfold AV.un AV.Rep DV.Rep;rfl
  have hlk:(st (i+1)).lk=(st i).lk:=by rw[h2,iE,eY,cT]
  have hnx:(st (i+1)).nx=(st i).nx:=by rw[h2];rfl
  cases he:(r i).op.eff with
  |true=>
   have hpi:=heffp he;exact forEff he (by rw[hlk,<-hpi];exact hS) hframe (KeepO.refl w) (Gh.le.refl G) (HM.le.refl m) (fun _ _ _=>⟨rfl,fun _=>rfl⟩) (fun _ _ h=>h) hbase (fun _ _ h=>h) hown (hun' m)
  |false=>
   refine forRest he (fun hie=>?_) hS hframe (KeepO.refl w) (Gh.le.refl G) (HM.le.refl m) (fun _ _ _=>⟨rfl,fun _=>rfl⟩) (fun _ _ h=>h) (fun _=>rfl) (fun _ _=>rfl) hown (hun' m);exfalso;subst hie;unfold uX at h1;rw[hD.gd hlt]at h1;exact h1
 |eff h1 he h2=>
  rw[hwT h1];have hpi:=heffp he;have hO:∀b,b<E.w0.heap.size->Own m b->Own E.m0 b:=fun b hb ⟨y,l,hy,hl⟩=>by
   rcases hown y l b hy hl with h|h
   ·omega
   ·exact h
  refine kY (h2.run G m w a.eval (fun _=>rfl) (hpi▸hS) hevs (fun j q1 q2=>hfr1 i hlt (.inl (yH hun)) _ q1 q2)) fun v w' hp'=>?_;obtain⟨G1,m1,hS1,hr1,hF1,hle1,hB1,hO1,hnew1⟩:=hp';refine forEff he hS1 (hframe.step hF1 hO hO) (hF1.keep fun b q=>hS.data q) hF1.le hle1 (fun b hb hno=>⟨hF1.heap b hb hno,fun o=>hF1.gh b hb hno o⟩) (fun b hb hno ⟨x,l,hx,hl⟩=>?_) (fun j=>(hbase j).trans (hB1 j)) (fun j hj hn=>(hO1 j hj).none hn) (fun x l b hj hl=>?_) hr1
  ·rcases hnew1 x l b hx hl with q|q
   ·omega
   ·exact hno q
  ·rcases hnew1 x l b hj hl with q|q
   ·exact .inl (cx hframe.size q)
   ·rcases dv b E.w0.heap.size with q2|q2
    ·exact .inr (hO b q2 q)
    ·exact .inl q2
 |run h1 he x nbs fz h2 h3 h5 h4 h6=>
  rw[hwT h1];have hnx:(st (i+1)).nx=(st i).nx+nbs.length:=by rw[h2];rfl
  by_cases hearly2:i=e/\p<=e
  ·
   obtain⟨hie,hpe2⟩:=hearly2;subst hie;obtain⟨zs,hz⟩:=hD.nw hlt;obtain⟨rfl,es,rfl,rfl,hnew⟩:=h6 (by rw[hz];rfl);obtain⟨t,ht,_⟩:=hD.us hlt;refine kY (hnew G m (st p).lk w a.eval hS) fun v w' hp'=>?_;obtain⟨rfl,vs,T,rfl,hblk⟩:=hp';have hFa:Fr (fun _=>False) (fun _=>False) G G w (w.alloc (.cells vs T)):=Fr.alloc _;refine⟨by simp[hsize],hclosed',G,m,p,hpn,fun j h1 h2=>(hL' j).2 (.inr (hp1 j h1 h2)),fun h=>⟨(hp2 h).1,?_⟩,hS.alloc _,htm' (Gh.le.refl G) (HM.le.refl m) (fun h=>absurd rfl h) (fun _ h=>by omega),by rw[qA];exact hasz,⟨by rw[nC];exact hdef.1.keep (hFa.keep fun b q=>q.elim),E.Jkeep _ _ _ hdef.2 (hFa.keep fun b q=>q.elim)⟩,fun k hk hkL j g1 g2=>?_,hfr2,hframe.step hFa (fun _ _ q=>q.elim) (fun _ _ q=>q.elim),hbase,hown,fun _ _ _=>?_⟩
   ·have:¬(listed.setIfInBounds i true).getD p false=true:=by
     rw[hL'];rintro(g1|g1)
     ·exact hpe hpe2 hlt g1
     ·rw[(hp2 h).2]at g1;cases g1
    simpa using this
   ·by_cases hki:k=i
    ·subst hki;exact hfr1 k hk (.inl (yH hun)) j g1 g2
    ·refine hfr1 k hk (.inl ?_) j g1 g2;rcases hkL with hkL|⟨hkL,_⟩
     ·have hkL':¬listed.getD k false=true:=fun h=>by rw[(hL' k).2 (.inr h)]at hkL;cases hkL
      simpa using hkL'
     ·exact absurd hkL hki
   ·refine⟨t,w.heap.size,vs.size,es,ht,by rw[hnx];rfl,?_,?_,hblk,hframe.size,fun⟨x,l,hx,hl⟩=>?_,?_⟩
    ·rw[h2,iE,cT];simp[lkN]
    ·rw[h2];show cE (st i).env (r i).dst _ t=_;rw[ht];show upd (st i).env t _ t=_;unfold upd;rw[if_pos rfl]
    ·have:=hS.ltG hx hl;omega
    ·rw[zQ t hasz hres.lt,<-hres.dst,if_pos ht]
  have hiep:i=e->e<p:=fun h=>Nat.lt_of_not_le fun h'=>hearly2 ⟨h,h'⟩;have hip:(r i).op.ht=true->i<p/\∀j,i<=j->j<p->(r j).op.eff=false:=fun hht=>by
   have hlt':i<p:=by
    rcases fy p i with h|h|h
    ·exfalso;obtain⟨g1,g2⟩:=hp2 (by omega);rw[hancL p (hD.eh p i h hlt (fun hh=>by have:=hiep hh;omega) g1 hht)]at g2;cases g2
    ·exfalso;obtain⟨g1,g2⟩:=hp2 (by omega);rw[h]at g1;rw[g1]at he;cases he
    ·exact h
   refine⟨hlt',fun j g1 g2=>?_⟩;cases hej:(r j).op.eff with
   |false=>rfl
   |true=>
    exfalso;rcases Nat.eq_or_lt_of_le g1 with g3|g3
    ·subst g3;rw[hej]at he;cases he
    ·exact hancN j (by omega) (hD.he i j g3 (by omega) hht hej) (hp1 j g2 hej)
  have hnone:=aDo hst h0;have hls:(r i).op.ht=true->LkSame (st i).lk (st p).lk:=fun hht=>by
   obtain⟨g1,g2⟩:=hip hht;obtain⟨hs,hh⟩:=aCw hst (p-i) i (by omega) (fun j a1 a2=>g2 j a1 (by omega));rw[show i+(p-i)=p by omega]at hh;intro h b hb;have:=hh h (fun j a1 _ e=>by
    subst e;have:(st i).own j=some b:=hb;rw[hnone i (Nat.le_of_lt hlt) j a1]at this;cases this)
   rw[hb]at this;split at this
   ·exact⟨_,this,.inr rfl⟩
   ·exact⟨_,this,.inl rfl⟩
  have hneed:Need (r i).op (st i).ev (st i).lk (st p).lk:=by
   unfold Need;split
   ·rename_i x hl;exact fun h hx=>hstab i x hlt hl h hx p hpn fun j hj he ha=>hancN j (by omega) ha (hp1 j hj he)
   ·exact hls
  refine kY (h4 G m w a.eval (fun _=>rfl) (st p).lk hneed hS hevs (fun j hj=>hfr1 i hlt (.inl (yH hun)) _ (by omega) (by omega))) fun v w' hp'=>?_;obtain⟨G1,m1,hS1,hr1,hF1,hold,hnew⟩:=hp';have hm1:HM.le m m1:=fun h loc hx=>.inl (.inl (by
   rw[hold h (fun j hj e=>by subst e;rw[hfr1 i hlt (.inl (yH hun)) _ (by omega) (by omega)]at hx;cases hx)];exact hx))
  have hfin:∃G2,Sim G2 m1 (st p).lk w'/\Fr (fun _=>False) (fun b=>w.heap.size<=b\/Own m b) G1 G2 w' w':=by
   cases hht:(r i).op.ht with
   |false=>
    obtain⟨rfl,rfl⟩:=h3 hht;rw[eY,cT]at hS1;exact⟨G1,hS1,Fr.refl _ _ _ _⟩
   |true=>
    obtain⟨g1,g2⟩:=hip hht;obtain⟨hs,hh⟩:=aCw hst (p-(i+1)) (i+1) (by omega) (fun j a1 a2=>g2 j (by omega) (by omega));rw[show i+1+(p-(i+1))=p by omega]at hh;have hnew1:(st (i+1)).lk=lkN (lkF (st i).lk fz) (st i).nx nbs:=by rw[h2,iE]
    let ns:List Hd:=((dm nbs.length).map fun j=>Hd.O ((st i).nx+j)).filter (fun h=>decide (h∈hs));obtain⟨G2,k1,k2,k3⟩:=hS1.freeze ns;refine⟨G2,k1.congr (fun h hh1=>?_),rfl,.same rfl rfl,rfl,π _,fun _ _ _=>rfl,fun b hb hnb o=>k3 b (fun h hin sz e=>?_) o,k2⟩
    ·by_cases hc:∃j,j<nbs.length/\h=.O ((st i).nx+j)
     ·obtain⟨j,hj,rfl⟩:=hc;have e1:(st p).lk (.O ((st i).nx+j))=if Hd.O ((st i).nx+j)∈hs then((st (i+1)).lk (.O ((st i).nx+j))).map Blk.frz else(st (i+1)).lk (.O ((st i).nx+j)):=
       hh _ (fun k a1 _ e=>by cases e;omega)
      have e2:(st (i+1)).lk (.O ((st i).nx+j))=lkN (lkF (st p).lk fz) (st i).nx nbs (.O ((st i).nx+j)):=by rw[hnew1];simp only[lkN];rw[if_pos ⟨by omega,by omega⟩,if_pos ⟨by omega,by omega⟩]
      have e3:(Hd.O ((st i).nx+j)∈ns)↔Hd.O ((st i).nx+j)∈hs:=by simp only[ns,ξ,db,fq,decide_eq_true_eq];exact⟨fun h=>h.2,fun h=>⟨⟨j,hj,rfl⟩,h⟩⟩
      unfold lkF at*;rw[e1,e2];by_cases e4:Hd.O ((st i).nx+j)∈hs
      ·rw[if_pos e4,if_pos (e3.2 e4)]
      ·rw[if_neg e4,if_neg (fun h=>e4 (e3.1 h))]
     ·have hc':∀j,j<nbs.length->h≠.O ((st i).nx+j):=fun j hj e=>hc ⟨j,hj,e⟩;have hns:h∉ns:=fun hin=>by simp only[ns,ξ,db,fq]at hin;obtain⟨⟨j,hj,rfl⟩,_⟩:=hin;exact hc' j hj rfl
      have e1:lkN (lkF (st p).lk fz) (st i).nx nbs h=lkF (st p).lk fz h:=by
       cases h with
       |B j=>rfl
       |O j=>
        simp only[lkN];rw[if_neg (fun hcc=>hc' (j-(st i).nx) (by omega) (by rw[show(st i).nx+(j-(st i).nx)=j by omega]))]
      show(st p).lk h=lkF (lkN (lkF (st p).lk fz) (st i).nx nbs) ns h;have e2:lkF (lkN (lkF (st p).lk fz) (st i).nx nbs) ns h=lkN (lkF (st p).lk fz) (st i).nx nbs h:=by show(if h∈ns then _ else _)=_;rw[if_neg hns]
      rw[e2,e1];show(st p).lk h=if h∈fz then((st p).lk h).map Blk.frz else(st p).lk h
      by_cases e3:h∈fz
      ·rw[if_pos e3];have hex:=h5 h e3;obtain⟨b,hb⟩:=du.1 hex;have hsmall:∀j,(st i).nx<=j->h≠.O j:=fun j a1 e=>by subst e;have:(st i).own j=some b:=hb;rw[hnone i (Nat.le_of_lt hlt) j a1]at this;cases this
       have e4:(st (i+1)).lk h=(some b).map Blk.frz:=by
        rw[hnew1];have:lkN (lkF (st i).lk fz) (st i).nx nbs h=lkF (st i).lk fz h:=by
         cases h with
         |B j=>rfl
         |O j=>simp only[lkN];rw[if_neg (fun hcc=>hsmall j hcc.1 rfl)]
        rw[this];show(if h∈fz then((st i).lk h).map Blk.frz else(st i).lk h)=_;rw[if_pos e3,hb]
       have e5:=hh h (fun j a1 _=>hsmall j (by omega));rw[e4]at e5;rw[e5];split<;>simp[Blk.frz_frz]
      ·rw[if_neg e3]
    ·simp only[ns,ξ,db,fq]at hin;obtain⟨⟨j,hj,rfl⟩,_⟩:=hin;exact hnb (.inl (hnew j _ b hj e (bo.2 rfl)))
  obtain⟨G2,hS2,hF2⟩:=hfin;have hF12:Fr (Own E.m0) (Own E.m0) E.G0 G2 E.w0 w':=by
   have hO:∀b,b<E.w0.heap.size->Own m b->Own E.m0 b:=fun b hb ⟨y,l,hy,hl⟩=>by
    rcases hown y l b hy hl with h|h
    ·omega
    ·exact h
   refine(hframe.step hF1 (fun _ _ q=>q.elim) hO).step hF2 (fun _ _ q=>q.elim) (fun b hb q=>?_);rcases q with q|q
   ·have:=hframe.size;omega
   ·exact hO b hb q
  refine forRest he hiep hS2 hF12 (hF1.keep fun b q=>q.elim) (hF1.le.trans hF2.le) hm1 (fun b hb hno=>⟨hF1.heap b hb (fun q=>q),fun o=>?_⟩) (fun b hb hno ⟨y,l,hy,hl⟩=>?_) (fun j=>hold _ (fun _ _ e=>by cases e)) (fun j hj=>hold _ (fun k hk e=>by cases e;omega)) (fun x l b hj hl=>?_) (fun d hd=>?_)
  ·have hb1:b<w'.heap.size:=d7 hb hF1.size;rw[hF2.gh b hb1 (fun q=>q.elim (fun q=>by omega) hno) o];exact hF1.gh b hb hno o
  ·by_cases hc:∃k,k<nbs.length/\y=.O ((st i).nx+k)
   ·obtain⟨k,hk,rfl⟩:=hc;have:=hnew k l b hk hy hl;omega
   ·rw[hold y (fun k hk e'=>hc ⟨k,hk,e'⟩)]at hy;exact hno ⟨_,l,hy,hl⟩
  ·by_cases hc:∃k,k<nbs.length/\x=.O ((st i).nx+k)
   ·obtain⟨k,hk,rfl⟩:=hc;exact .inl (cx hframe.size (hnew k l b hk hj hl))
   ·rw[hold x (fun k hk e=>hc ⟨k,hk,e⟩)]at hj;exact hown x l b hj hl
  ·refine AV.Rep.mono hF2.le (HM.le.refl m1) _ _ ?_;rw[h2];show AV.Rep G1 m1 (cE (st i).env (r i).dst x d) v;rw[hd];show AV.Rep G1 m1 (upd (st i).env d x d) v;unfold upd;rw[if_pos rfl];exact hr1
end
theorem aG7{α:Type}{p p':α->Bool}:∀{l:List α},(∀x∈l,p' x=true->p x=true)->(∃x∈l,p x=true/\p' x=false)->l.countP p'<l.countP p
 |[],_,h=>by obtain⟨x,hx,_⟩:=h;simp at hx
 |y::l,h1,h2=>by
  have hle:l.countP p'<=l.countP p:=List.countP_mono_left (fun x hx=>h1 x (by simp[hx]));obtain⟨x,hx,hp,hp'⟩:=h2;rcases cq.1 hx with rfl|hx
  ·simp[hp,hp'];omega
  ·have ih:=aG7 (fun z hz=>h1 z (by simp[hz])) ⟨x,hx,hp,hp'⟩;rw[List.countP_cons,List.countP_cons];have:=h1 y (by simp);cases e1:p y<;>cases e2:p' y<;>simp_all<;>omega
theorem uQ{rd:Option Nat}{P:Program}{md:Region.Mode}{ops:Array Oper}{Q:Exit->Act->World->Prop}(I:Array Bool->Act->World->Prop)(hsz:∀listed a w,I listed a w->listed.size=ops.size)
  (hstep:∀listed a w i,I listed a w->i∈Region.ready md ops listed->wpOpIn (FR rd) 0 P ops Q i (I (listed.setIfInBounds i true)) a w) (hend:∀listed a w,I listed a w->Region.ready md ops listed=[]->Q .normal a w):
  ∀(fuel:Nat) (listed:Array Bool) (a:Act) (w:World),(dm ops.size).countP (fun j=>!listed.getD j true)<=fuel->I listed a w->wpAnyIn (FR rd) 0 P md ops Q fuel listed a w
 |0,listed,a,w,hc,hI=>by
  have hr:Region.ready md ops listed=[]:=by rw[List.eq_nil_iff_forall_not_mem];intro i hi;obtain⟨h1,o,h2,_⟩:=mem_ready.1 hi;have hlt:i<ops.size:=(bx.1 h2).1;have:0<(dm ops.size).countP (fun j=>!listed.getD j true):=List.countP_pos_iff.2 ⟨i,by simpa using hlt,by simp[h1]⟩;omega
  exact⟨hr,hend _ _ _ hI hr⟩
 |fuel+1,listed,a,w,hc,hI=>by
  refine⟨fun hr=>hend _ _ _ hI hr,fun i hi=>?_⟩;obtain⟨h1,o,h2,_⟩:=mem_ready.1 hi;have hlt:i<ops.size:=(bx.1 h2).1;refine wpOpIn_mono (fun a' w' h=>uQ I hsz hstep hend fuel _ a' w' ?_ h) (hstep _ _ _ i hI hi);have hil:i<listed.size:=by rw[hsz _ _ _ hI];exact hlt
  have:(dm ops.size).countP (fun j=>!(listed.setIfInBounds i true).getD j true)<(dm ops.size).countP (fun j=>!listed.getD j true):=by
   refine aG7 (fun j _ hj=>?_) ⟨i,by simpa using hlt,by simp[h1],by simp[hil]⟩;by_cases e:i=j
   ·subst e;simp[hil]at hj
   ·simpa only[cp,gv e]using hj
  omega
theorem aM1{r:Nat->RO}(hst:∀i,i<ops.size->∃o,ops[i]?=some o/\ResO P ops N o (r i)/\RStep P o (r i) (st i) (st (i+1)))(hN:E.N=N):(st (sE r E.N ops.size)).env E.N=(st 0).env E.N:=by
 have:sE r E.N ops.size=0:=by
  rcases(nK r E.N ops.size).1 with h|⟨k,hk,_,hd⟩
  ·exact h
  ·exfalso;obtain⟨o,_,hres,_⟩:=hst k hk;have h9:E.N<N:=hres.lt E.N (by rw[<-hres.dst];exact hd);rw[hN]at h9;exact iy _ h9
 rw[this]
theorem aG8{r:Nat->RO}(hm:P.follows .mixedOrders=true)(hD:DrawOk ops r e)(hst:∀i,i<ops.size->∃o,ops[i]?=some o/\ResO P ops N o (r i)/\RStep P o (r i) (st i) (st (i+1)))
  (hstab:∀i x,i<ops.size->(r i).op.sArg=some x->∀h,((st i).ev x).hd?=some h->∀q,q<=ops.size->(∀j,j<q->(r j).op.eff=true->¬anc ops i j=true)->keepB (aX5 (r i).op) ((st i).lk h) ((st q).lk h))
 {Q:Exit->AState->Prop} (hN:E.N=N) (hst0:st 0=s) (hK':Q .normal (st ops.size)) (hA:ASim E s a w):(Code.region id ops true).wpIn (FR rd) 0 P (aOr E Q) a w:=by
 obtain⟨G,m,hA⟩:=hA;have h0:∀j,(st 0).nx<=j->(st 0).own j=none:=by rw[hst0];exact hA.nxOk
 have hfresh:∀j,(st 0).nx<=j->m (.O j)=none:=by rw[hst0];exact hA.fresh
 refine wpIn_region_any hm (uQ (Inv P ops r st e E) (fun _ _ _ hI=>hI.size) (fun listed a w i hI hi=>aVw hst hD h0 hstab hN hI hi) (fun listed a w hI hr=>?_) _ _ _ _ ?_ ?_)
 ·
  obtain⟨hsize,hclosed,G,m,p,hpn,hp1,hp2,hS,htm,hasz,hdef,hfr1,hfr2,hframe,hbase,hown,_⟩:=hI;have hall:∀j,j<ops.size->listed.getD j false=true:=by
   intro j
   induction j using gz with
   |_ j ih=>
    intro hj;cases hl:listed.getD j false with
    |true=>rfl
    |false=>
     exfalso;have hjs:j<listed.size:=by rw[hsize];exact hj
     have:j∈Region.ready .any ops listed:=mem_ready.2 ⟨by simp[hjs]at hl|-;exact hl,ops[j],by simp[hj],fun e he hb=>by
      have hin:e.on∈cP ops j:=by unfold cP;rw[show ops[j]?=some ops[j] by simp[hj]];exact db.2 ⟨e,ξ.2 ⟨by simpa using he,hb⟩,rfl⟩
      have hlt:=hD.lt j hj _ hin;exact ih e.on hlt (by omega)⟩
     rw[hr]at this;cases this
  have hp:p=ops.size:=by
   rcases dv p ops.size with h|h
   ·have:=(hp2 h).2;rw[hall p h]at this;cases this
   ·omega
  subst hp;refine⟨_,hK',G,m,hS,fun t=>?_,hasz,hdef.1,(by rw[<-vR hst E.N ops.size (π _),aM1 hst hN];exact hdef.2),hfr2,hframe,hbase,hown,hA.noO,aDo hst h0 _ (π _)⟩;rw[<-vR hst t ops.size (π _)];obtain⟨g1,g2⟩:=nK r t ops.size;exact htm t _ ⟨uT r t _,g1.imp (fun x=>x) fun⟨k,a,b,c⟩=>⟨k,b,hall k a,c⟩,fun j a b _=>g2 j a b⟩ (fun hq=>by have:=uT r t ops.size;omega)
 ·refine cx List.countP_le_length (by simp)
 ·obtain⟨p,hp1,hp2,hp3,hp4⟩:=aE1 r ops.size ops.size 0 (by omega);have hS0:Sim G m (st 0).lk w.drew:=by rw[hst0];exact hA.sim.drew
  obtain⟨G2,hS2,hF2⟩:=aJ4 hst (Nat.zero_le p) hp2 (fun j a b=>hp3 j a b) (fun j a _=>hfresh j a) hS0;have hf:∀j,(fj ops.size false).getD j false=false:=fun j=>by
   rcases dv j ops.size with h|h
   ·simp[h]
   ·simp[h]
  refine⟨by simp,(fun j _ h=>by rw[hf]at h;cases h),G2,m,p,hp2,(fun j a b=>by rw[hp3 j (Nat.zero_le _) a]at b;cases b),fun h=>⟨hp4 h,hf p⟩,hS2,fun t q hv _=>?_,hA.size,⟨hA.defers.keep fun _ _ h _=>h,by rw[hst0];exact E.Jkeep _ _ _ hA.jok fun _ _ h _=>h⟩,
   fun k hk _ j a _=>hfresh j (cx (by have:=qD hst k 0 (by omega);simpa using this) a),fun j a=>hfresh j (cx (by have:=qD hst ops.size 0 (by omega);simpa using this) a),?_,hA.base,hA.own,fun _ h _=>by rw[hf]at h;cases h⟩
  ·rcases hv.by_ with rfl|⟨k,_,hk,_⟩
   ·rw[hst0];exact AV.Rep.mono hF2.le (HM.le.refl m) _ _ (hA.env t)
   ·rw[hf]at hk;cases hk
  ·have hd:Fr (Own E.m0) (Own E.m0) E.G0 G E.w0 w.drew:=⟨hA.frame.os,hA.frame.tape.drew,hA.frame.output,hA.frame.size,hA.frame.heap,hA.frame.gh,hA.frame.le⟩;exact hd.step hF2 (fun _ _ q=>q.elim) (fun b hb q=>hA.ownOld hb q)
def isS:ROp->Bool
 |.loadS _ _=>true
 |.faddrS _ _=>true
 |.nilcS _=>true
 |.lenS _ _=>true
 |.slsA _ _ _ _=>true
 |.arrP _ _=>true
 |_=>false
theorem aPp(h:op.sArg=some x):isS op=true:=by cases op<;>first|rfl|(cases h;done)
def bE5(ros:List RO):Bool:=ros.any fun r=>isS r.op
theorem CodeOk.draw(hm:P.follows .mixedOrders=true)(h:sQ P ops N ops.toList ros)(hd:aDg ops ros=true)(hs:bE5 ros=false):CodeOk P N (.region id ops true) (.reg true ros):=fun rd Y E Q s a w hY hN hc hA=>by
 obtain⟨st,hst0,hlen,hK,hsteps⟩:=aT0 h hc;have hlen':ros.length=ops.size:=by simpa using hlen
 have hget:∀i,i<ops.size->ros[i]?=some (ros.getD i default):=fun i hi=>by rw[bk,ν (by omega)];rfl
 refine aG8 (r:=fun i=>ros.getD i default) hm (aBy hd) (fun i hi=>?_) (fun i x hi he=>?_) hN hst0 (by simpa using hK) hA
 ·obtain⟨g1,g2⟩:=hsteps i ops[i] _ (by simp[hi]) (hget i hi);exact⟨_,by simp[hi],g1,g2⟩
 ·exfalso;have:=List.any_eq_false.1 hs _ (cf (hget i hi));exact this (aPp he)
def aGx(ops:Array Oper)(ros:List RO):Bool:=(ros.getD (ops.size-1) default).op.eff&&(dm ops.size).all fun i=>!isS (ros.getD i default).op||anc ops i (ops.size-1)
theorem CodeOk.drawS(hm:P.follows .mixedOrders=true)(h:sQ P ops N ops.toList ros)(hd:aDg ops ros=true):CodeOk P N (.region id ops true) (.regS (aGx ops ros) ros):=fun rd Y E Q s a w hY hN hc hA=>by
 obtain⟨hs,hc⟩:=hc;obtain⟨st,hst0,hlen,hK,hkeep,hsteps⟩:=aT1 h hc;have hlen':ros.length=ops.size:=by simpa using hlen
 have hget:∀i,i<ops.size->ros[i]?=some (ros.getD i default):=fun i hi=>by rw[bk,ν (by omega)];rfl
 have hall:∀x,x∈hs->∀q,q<=ops.size->(aGx ops ros=false\/q<ops.size)->keepB (aVh ros) ((st 0).lk x) ((st q).lk x):=fun x hx q=>by
  induction q with
  |zero=>exact fun _ _=>keepB.refl _ _
  |succ q ih=>exact fun hq hl=>(ih (by omega) (hl.imp (fun x=>x) fun h=>by omega)).trans (hkeep q (by rw[e7];omega) (hl.imp (fun x=>x) fun h=>by rw[e7];omega) x hx)
 refine aG8 (r:=fun i=>ros.getD i default) hm (aBy hd) (fun i hi=>?_) (fun i x hi he=>?_) hN hst0 (by simpa using hK) hA
 ·obtain⟨g1,g2,_⟩:=hsteps i ops[i] _ (by simp[hi]) (hget i hi);exact⟨_,by simp[hi],g1,g2⟩
 ·obtain⟨_,_,g3⟩:=hsteps i ops[i] _ (by simp[hi]) (hget i hi);intro h hx q hq hbe;have he':(ros.getD i default).op.sArg=some x:=he;have hl:∀k,k<=ops.size->(∀j,j<k->(ros.getD j default).op.eff=true->¬anc ops i j=true)->aGx ops ros=false\/k<ops.size:=fun k hk hb=>by
   cases e:aGx ops ros with
   |false=>exact .inl rfl
   |true=>
    refine .inr (jw hk fun ek=>?_);unfold aGx at e;rw[μ,di]at e;have:=e.2 i (fq.2 hi);rw[aPp he']at this;exact hb (ops.size-1) (by omega) e.1 (by simpa using this)
  unfold aUc at g3;simp only[he']at g3;have hin:=g3 h hx;exact((hall h hin i (by omega) (.inr hi)).symm.trans (hall h hin q hq (hl q hq hbe))).weak fun e=>List.any_eq_true.2 ⟨_,cf (hget i hi),e⟩
def drP(r:RO):Bool:=
 r.guard.isNone&&match r.op with
 |.callP _ _=>true
 |.pan _=>false
 |op=>!op.ht&& !op.eff&& !isS op
def aRa:ROp->Bool
 |.callP _ _=>true
 |_=>false
def aUb(ops:Array Oper)(σ:List Nat)(ros:List RO):Bool:=
 (dm ops.size).all (fun j=>(cP ops j).all fun e=>decide (e<j))&&
 decide (σ.length=ops.size)&&σ.all (fun i=>decide (i<ops.size))&&(dm ops.size).all (fun i=>σ.contains i)&&ros.all drP&&
 (dm ops.size).all fun q=>(dm ops.size).all fun p=>
  (!(decide (p<q))||(!anc ops (σ.getD q 0) (σ.getD p 0)&& !(σ.getD p 0==σ.getD q 0)&&(!aRa (ros.getD p default).op||anc ops (σ.getD p 0) (σ.getD q 0))&&((ros.getD p default).dst.isNone|| !((ros.getD p default).dst==(ros.getD q default).dst))))&&
  (match(ros.getD p default).dst with
  |some d=>!(aJc (ros.getD q default).op.operands).contains d||anc ops (σ.getD p 0) (σ.getD q 0)
  |none=>true)
structure DpOk (ops:Array Oper) (g:Nat->Nat) (r:Nat->RO):Prop where
 lt:∀j,j<ops.size->∀e∈cP ops j,e<j
 bd:∀p,p<ops.size->g p<ops.size
 sur:∀i,i<ops.size->∃p,p<ops.size/\g p=i
 pure:∀p,p<ops.size->drP (r p)=true
 ord:∀p q,p<q->q<ops.size->¬anc ops (g q) (g p)=true
 inj:∀p q,p<q->q<ops.size->g p≠g q
 call:∀p q,p<q->q<ops.size->aRa (r p).op=true->anc ops (g p) (g q)=true
 dst:∀p q,p<q->q<ops.size->∀d,(r p).dst=some d->(r q).dst≠some d
 use:∀p q,p<ops.size->q<ops.size->∀d,(r p).dst=some d->d∈aJc (r q).op.operands->anc ops (g p) (g q)=true
theorem aRs(hl:ros.length=ops.size)(h:aUb ops σ ros=true):DpOk ops (fun p=>σ.getD p 0) (fun p=>ros.getD p default):=by
 unfold aUb at h;simp only[μ,di,fq,decide_eq_true_eq]at h;obtain⟨⟨⟨⟨⟨h1,h2⟩,h3⟩,h4⟩,h5⟩,h6⟩:=h;have hg:∀p,p<ops.size->σ[p]?=some (σ.getD p 0):=fun p hp=>by rw[bk,ν (by omega)];rfl
 have hr:∀p,p<ops.size->ros[p]?=some (ros.getD p default):=fun p hp=>by rw[bk,ν (by omega)];rfl
 refine⟨h1,fun p hp=>h3 _ (cf (hg p hp)),fun i hi=>?_,fun p hp=>h5 _ (cf (hr p hp)),fun p q a b hc=>?_,fun p q a b hc=>?_,fun p q a b hc=>?_,fun p q a b d hd he=>?_,fun p q a b d hd he=>?_⟩
 ·have:=h4 i hi;rw[jh,decide_eq_true_eq]at this;obtain⟨p,hp,e⟩:=List.mem_iff_getElem.1 this;exact⟨p,by omega,by show σ.getD p 0=i;rw[bk,ν hp];exact e⟩
 ·have:=(h6 q b p (by omega)).1;simp only[a,decide_true,d9,ia,μ,dh]at this;rw[this.1.1.1]at hc;cases hc
 ·have:=(h6 q b p (by omega)).1;simp only[a,decide_true,d9,ia,μ,dh]at this;have h7:=this.1.1.2;rw[beq_eq_false_iff_ne]at h7;exact h7 hc
 ·have:=(h6 q b p (by omega)).1;simp only[a,decide_true,d9,ia,μ,dh,fh]at this;exact this.1.2.resolve_left (by show¬aRa (ros.getD p default).op=false;rw[show aRa (ros.getD p default).op=true from hc];simp)
 ·have:=(h6 q b p (by omega)).1;simp only[a,decide_true,d9,ia,μ,dh,fh]at this;have hd':(ros.getD p default).dst=some d:=hd;have he':(ros.getD q default).dst=some d:=he;have:=this.2;rw[hd',he']at this;simp at this
 ·have:=(h6 q b p a).2;have hd':(ros.getD p default).dst=some d:=hd;rw[hd']at this;simp only[fh,dh]at this;refine this.resolve_left fun e=>?_;rw[jh,decide_eq_false_iff_not]at e;exact e he
inductive DStep (P:Program) (o:Oper) (ro:RO) (s s':AState):Prop
 |pure (hc:aRa ro.op=false) (h:RStep P o ro s s')
 |call (f:Operand) (args:List Operand) (fn:FuncId) (caps:List AV) (r:AV) (h1:ro.op=.callP f args) (h2:s.ev f=.clo fn caps) (h3:AV.flat r=true) (h4:ACall P fn (AV.convL s.lk (fun _=>none) (args.map s.ev++caps)) [] r [] []) (h5:s'=s.put ro.dst r [] [])
def bAx(P:Program)(ro:RO)(s:AState)(v:Value):Prop:=
 ∃f args fn caps,ro.op=.callP f args/\s.ev f=.clo fn caps/\aJy P fn (AV.convL s.lk (fun _=>none) (args.map s.ev++caps)) v
theorem aVe{P:Program}{ops:Array Oper}{N:Nat}:∀{os:List Oper} {ros:List RO} {s:AState} {K:AState->Prop} {Pn:Value->AState->Prop},sQ P ops N os ros->(∀r∈ros,drP r=true)->nP P true ros s K Pn->
  ∃(st:Nat->AState) (k:Nat),st 0=s/\ros.length=os.length/\k<=os.length/\(∀(i:Nat) (o:Oper) (r:RO),os[i]?=some o->ros[i]?=some r->ResO P ops N o r/\(i<k->DStep P o r (st i) (st (i+1))))/\
   ((k=os.length/\K (st k))\/∃r v,ros[k]?=some r/\bAx P r (st k) v/\Pn v (st k))
 |[],[],s,K,Pn,_,_,h=>⟨fun _=>s,0,rfl,rfl,π _,fun i o r hi=>by simp at hi,.inl ⟨rfl,h⟩⟩
 |[],_::_,_,_,_,hr,_,_=>hr.elim
 |_::_,[],_,_,_,hr,_,_=>hr.elim
 |o::os,r::ros,s,K,Pn,hr,hd,h=>by
  obtain⟨h1,h2⟩:=hr;have hlens:∀(os:List Oper) (ros:List RO),sQ P ops N os ros->ros.length=os.length:=fun os=>by
   induction os with
   |nil=>intro ros h;cases ros with
    |nil=>rfl
    |cons _ _=>exact h.elim
   |cons _ _ ih=>intro ros h;cases ros with
    |nil=>exact h.elim
    |cons _ _=>simp[ih _ h.2]
  have hlen:=hlens _ _ h2;have hres:∀(os:List Oper) (ros:List RO),sQ P ops N os ros->∀(i:Nat) (o:Oper) (r:RO),os[i]?=some o->ros[i]?=some r->ResO P ops N o r:=fun os=>by
   induction os with
   |nil=>intro ros _ i o r hi;simp at hi
   |cons o' os ih=>
    intro ros h i o r hi hi';cases ros with
    |nil=>exact h.elim
    |cons r' ros=>match i with
     |0=>simp at hi hi';subst hi;subst hi';exact h.1
     |i+1=>exact ih ros h.2 i o r (by simpa using hi) (by simpa using hi')
  have go:∀s',nP P true ros s' K Pn->DStep P o r s s'->∃(st:Nat->AState) (k:Nat),st 0=s/\(r::ros).length=(o::os).length/\k<=(o::os).length/\(∀(i:Nat) (o':Oper) (r':RO),(o::os)[i]?=some o'->(r::ros)[i]?=some r'->ResO P ops N o' r'/\(i<k->DStep P o' r' (st i) (st (i+1))))/\
   ((k=(o::os).length/\K (st k))\/∃r' v,(r::ros)[k]?=some r'/\bAx P r' (st k) v/\Pn v (st k)):=fun s' hs' hstep=>by
   obtain⟨st,k,g1,g2,g3,g4,g5⟩:=aVe h2 (fun x hx=>hd x (by simp[hx])) hs';refine⟨fun i=>match i with|0=>s|i+1=>st i,k+1,rfl,by simp[g2],by simpa using g3,fun i o' r' hi hi'=>?_,?_⟩
   ·match i with
    |0=>
     simp at hi hi';subst hi;subst hi';refine⟨h1,fun _=>?_⟩;show DStep P o r s (st 0);rw[g1];exact hstep
    |i+1=>
     obtain⟨q1,q2⟩:=g4 i o' r' (by simpa using hi) (by simpa using hi');exact⟨q1,fun h=>q2 (by omega)⟩
   ·rcases g5 with⟨e,hK⟩|⟨r',v,e,hp,hK⟩
    ·exact .inl ⟨by simp[e],hK⟩
    ·exact .inr ⟨r',v,by simpa using e,hp,hK⟩
  unfold nP at h;split at h
  ·rename_i f args heq;obtain⟨hg,fn,caps,hf,h⟩:=h;rcases h with⟨rr,nbs,hfl,hcall,hK⟩|⟨pv,hpan,hK⟩
   ·obtain⟨hf2,rfl⟩:=hfl rfl;refine go _ hK (.call f args fn caps rr heq hf hf2 hcall ?_);rw[AV.flat_ren rr hf2,if_pos ⟨hf2,rfl⟩];rfl
   ·refine⟨fun _=>s,0,rfl,by simp[hlen],by simp,fun i o' r' hi hi'=>⟨?_,fun h=>absurd h (Nat.not_lt_zero i)⟩,.inr ⟨r,pv,rfl,⟨f,args,fn,caps,heq,hf,hpan⟩,hK⟩⟩;exact hres (o::os) (r::ros) ⟨h1,h2⟩ i o' r' hi hi'
  ·rename_i x heq;have:=hd r (by simp);unfold drP at this;rw[heq]at this;simp at this
  ·obtain⟨s',hK,hs⟩:=aLg h1 h;exact go s' hK (.pure (by
    rename_i hne _;cases e:r.op with
    |callP f args=>exact absurd e (hne f args)
    |_=>rfl) hs)
theorem aK1(hd:drP ro=true)(hc:aRa ro.op=false):ro.guard=none/\ro.op.ht=false/\ro.op.eff=false:=by
 unfold drP at hd;rw[μ,gn]at hd;obtain⟨hg,hd⟩:=hd;refine⟨hg,?_⟩;split at hd
 ·rename_i e;rw[e]at hc;cases hc
 ·cases hd
 ·simp only[μ,dh]at hd;exact⟨hd.1.1,hd.1.2⟩
theorem DStep.put{P:Program}{o:Oper}{ro:RO}{s s':AState}(hd:drP ro=true)(h:DStep P o ro s s'):∃x,s'=s.put ro.dst x [] []:=by
 cases h with
 |call f args fn caps r h1 h2 h3 h4 h5=>exact⟨r,h5⟩
 |pure hc h=>
  obtain⟨hg,hht,heff⟩:=aK1 hd hc;cases h with
  |skip h1 h2=>exact⟨_,h2⟩
  |eff h1 he h2=>rw[he]at heff;cases heff
  |run h1 he x nbs fz h2 h3 h5 h4 h6=>
   obtain⟨rfl,rfl⟩:=h3 hht;exact⟨x,h2⟩
theorem aRc{s2:AState}{l:List Operand}(h:∀t∈aJc l,s2.env t=s.env t):∀x∈l,s2.ev x=s.ev x:=fun x hx=>by
 cases x with
 |tmp t=>exact h t (List.mem_filterMap.2 ⟨_,hx,rfl⟩)
 |_=>rfl
theorem DStep.sound{s2:AState}(hr:ResO P ops E.N o ro)(hd:drP ro=true)(h:DStep P o ro s s')(hlk:s2.lk=s.lk)
  (hev:∀x∈ro.op.operands,s2.ev x=s.ev x) (hA:ASim E s2 a w) (hQ:∀x a' w',s'=s.put ro.dst x [] []->ASim E (s2.put ro.dst x [] []) a' w'->next a' w'):o.wpIn (FR rd) 0 P a w next Q:=by
 obtain⟨G,m,hA'⟩:=hA;cases h with
 |call f args fn caps r h1 h2 h3 h4 h5=>
  obtain e0|⟨b,op0,hop,hmk⟩:=hr.op
  ·rw[h1]at e0;cases e0
  rw[h1]at hmk;rcases wT hmk with e|e
  case inr=>rw[e]at hop;exact(aEg hop).elim
  rw[e]at hop;obtain⟨c,ho,hc,rfl⟩:=sU hop;have hxs:=hr.xs;rw[h1]at hxs hev;have hrf:=hA'.evs f (hxs f (by simp[ROp.operands]));rw[hev f (by simp[ROp.operands]),h2]at hrf;unfold AV.Rep at hrf;obtain⟨vs,hv,hcaps⟩:=hrf;have hargs:AV.RepL G m (c.args.toList.map s.ev) (c.args.toList.map a.eval):=AV.RepL_map (fun x hx=>by
   have hx':x∈(ROp.callP f c.args.toList).operands:=by simp only[ROp.operands,cq];exact .inr hx
   rw[<-hev x hx'];exact hA'.evs x (hxs x hx'))
  have hrep:AV.RepL G m (c.args.toList.map s.ev++caps) (c.args.map a.eval++vs).toList:=by rw[ep,eu];exact AV.RepL_append hargs hcaps
  have hS:=hA'.sim;refine kY (vK ho hc hv (aTa (ks:=[]) (n:=s2.nx) h4 (LkSame.refl _) (hlk▸hS) hrep (fun j hj=>by simp at hj))) fun v w' hp=>?_;refine hQ r _ _ h5 ?_;rw[AV.flat_ren r h3,if_pos ⟨h3,rfl⟩,<-hlk]at hp;rw[hr.dst];exact hA'.step (dst:=o.dst) hr.lt hp
 |pure hcp h=>
  obtain⟨hg,hht,heff⟩:=aK1 hd hcp;cases h with
  |skip h1 h2=>
   unfold uX at h1;rw[hg]at h1;exact h1.elim
  |eff h1 he h2=>rw[he]at heff;cases heff
  |run h1 he x nbs fz h2 h3 h5 h4 h6=>
   obtain⟨rfl,rfl⟩:=h3 hht;have hneed:Need ro.op s.ev s.lk s2.lk:=by rw[hlk];exact Need.refl _ _ _
   refine kY (h4 G m w a.eval (fun v=>rfl) s2.lk hneed hA'.sim (fun y hy=>by rw[<-hev y hy];exact hA'.evs y (hr.xs y hy)) (fun j hj=>by simp at hj)) fun v w' hp=>?_;refine hQ x _ _ h2 ?_;rw[hr.dst];refine hA'.step (dst:=o.dst) hr.lt ?_;obtain⟨G',m',p1,p2,p3,p4,p5⟩:=hp;exact⟨G',m',by rw[eY]at p1|-;exact p1,p2,p3,fun h hh=>p4 h (fun j hj=>by simp at hj),fun j b sz hj=>by simp at hj⟩
theorem aEw:∀(ros:List RO) (s:AState),(wM ros s).bs=s.bs/\(wM ros s).own=s.own/\(wM ros s).nx=s.nx/\∀t,((∃r∈ros,r.dst=some t)/\(wM ros s).env t=.any)\/((∀r∈ros,r.dst≠some t)/\(wM ros s).env t=s.env t)
 |[],s=>⟨rfl,rfl,rfl,fun t=>.inr ⟨fun r h=>(by cases h),rfl⟩⟩
 |r::ros,s=>by
  obtain⟨h1,h2,h3,h4⟩:=aEw ros (s.put r.dst .any [] []);refine⟨h1,h2,h3,fun t=>?_⟩;rcases h4 t with⟨⟨x,hx,hd⟩,h⟩|⟨h,h'⟩
  ·exact .inl ⟨⟨x,by simp[hx],hd⟩,h⟩
  ·by_cases e:r.dst=some t
   ·refine .inl ⟨⟨r,by simp,e⟩,h'.trans ?_⟩;show cE s.env r.dst .any t=_;rw[e];simp[cE,upd]
   ·refine .inr ⟨fun x hx=>?_,h'.trans ?_⟩
    ·rcases cq.1 hx with rfl|hx
     ·exact e
     ·exact h x hx
    ·show cE s.env r.dst .any t=_;cases hd:r.dst with
     |none=>rfl
     |some d=>simp only[cE,upd];rw[if_neg (fun e'=>e (by rw[hd,e']))]
theorem ASim.less(h:ASim E s a w)(h1:s'.bs=s.bs)(h2:s'.own=s.own)(h3:s'.nx=s.nx)(h4:∀t,s'.env t=s.env t\/(t<E.N/\s'.env t=.any)):ASim E s' a w:=by
 obtain⟨G,m,h⟩:=h;have hlk:s'.lk=s.lk:=by funext x;cases x<;>simp[AState.lk,h1,h2]
 refine⟨G,m,by rw[hlk];exact h.sim,fun t=>?_,h.size,h.defers,?_,by rw[h3];exact h.fresh,h.frame,h.base,h.own,h.noO,by rw[h3,h2];exact h.nxOk⟩
 ·rcases h4 t with e|⟨_,e⟩
  ·rw[e];exact h.env t
  ·rw[e];unfold AV.Rep;trivial
 ·rcases h4 E.N with e|⟨e,_⟩
  ·rw[e];exact h.jok
  ·exact absurd e (iy _)
def SLp(k:Nat)(g:Nat->Nat)(r:Nat->RO)(L:Nat->Prop)(t:Nat):Prop:=∃p,p<k/\L (g p)/\(r p).dst=some t
noncomputable def SL(st:Nat->AState)(k:Nat)(g:Nat->Nat)(r:Nat->RO)(L:Nat->Prop):AState:=
 {st 0 with env:=fun t=>@ite _ (SLp k g r L t) (i4 _) ((st k).env t) ((st 0).env t)}
theorem aEj{r:Nat->RO}(h:SLp k g r L t):(SL st k g r L).env t=(st k).env t:=by show@ite _ _ (i4 _) _ _=_;exact if_pos h
theorem aAo{r:Nat->RO}(h:¬SLp k g r L t):(SL st k g r L).env t=(st 0).env t:=by show@ite _ _ (i4 _) _ _=_;exact if_neg h
theorem aNo{r:Nat->RO}(hm:P.follows .mixedOrders=true)(hD:DpOk ops g r)(hk:k<=ops.size)
  (hst:∀p,p<ops.size->∃o,ops[g p]?=some o/\ResO P ops N o (r p)/\(p<k->DStep P o (r p) (st p) (st (p+1)))) (hros:∀p,p<ops.size->r p∈ros) (hros2:∀x∈ros,∃p,p<ops.size/\x=r p)
 {Q:Exit->AState->Prop} (hN:E.N=N) (hst0:st 0=s)
  (hK:(k=ops.size/\Q .normal (st k))\/(k<ops.size/\∃v,bAx P (r k) (st k) v/\Q (.panic [{v:=v,recovered:=false}]) (wM ros (st k)))) (hA:ASim E s a w):(Code.region id ops true).wpIn (FR rd) 0 P (aOr E Q) a w:=by
 subst hN;have hput:∀p,p<k->∃x,st (p+1)=(st p).put (r p).dst x [] []:=fun p hp=>by obtain⟨o,_,_,h⟩:=hst p (by omega);exact(h hp).put (hD.pure p (by omega))
 have hblk:∀p,p<=k->(st p).bs=(st 0).bs/\(st p).own=(st 0).own/\(st p).nx=(st 0).nx:=fun p=>by
  induction p with
  |zero=>exact fun _=>⟨rfl,rfl,rfl⟩
  |succ p ih=>
   intro hp;obtain⟨h1,h2,h3⟩:=ih (by omega);obtain⟨x,e⟩:=hput p (by omega);rw[e];exact⟨h1,h2,h3⟩
 have hlk:∀p,p<=k->(st p).lk=(st 0).lk:=fun p hp=>by obtain⟨h1,h2,_⟩:=hblk p hp;funext x;cases x<;>simp[AState.lk,h1,h2]
 have henv:∀(d p:Nat) (t:Nat),p+d<=k->(∀q,p<=q->q<p+d->(r q).dst≠some t)->(st (p+d)).env t=(st p).env t:=fun d=>by
  induction d with
  |zero=>exact fun p t _ _=>rfl
  |succ d ih=>
   intro p t h1 h2;obtain⟨x,e⟩:=hput (p+d) (by omega);rw[<-ih p t (by omega) (fun q a b=>h2 q a (by omega))];show(st (p+d+1)).env t=_;rw[e];show cE (st (p+d)).env (r (p+d)).dst x t=_;have:=h2 (p+d) (by omega) (by omega);cases hd:(r (p+d)).dst with
   |none=>rfl
   |some d'=>simp only[cE,upd];rw[if_neg (fun e'=>this (by rw[hd,e']))]
 have hfin:∀p t,p<k->(r p).dst=some t->(st k).env t=(st (p+1)).env t:=fun p t hp hd=>by have:=henv (k-(p+1)) (p+1) t (by omega) (fun q a b e=>hD.dst p q (by omega) (by omega) t hd e);rwa[show p+1+(k-(p+1))=k by omega]at this
 have hini:∀p t,p<=k->(∀q,q<p->(r q).dst≠some t)->(st p).env t=(st 0).env t:=fun p t hp h=>by have:=henv p 0 t (by omega) (fun q _ b=>h q (by omega));rwa[show 0+p=p by omega]at this
 have hdlt:∀p,p<ops.size->∀d,(r p).dst=some d->d<E.N:=fun p hp d hd=>by obtain⟨o,_,h,_⟩:=hst p hp;exact h.lt d (by rw[<-h.dst];exact hd)
 have hSLlk:∀L,(SL st k g r L).lk=(st 0).lk:=fun L=>by funext x;cases x<;>rfl
 let I:Array Bool->Act->World->Prop:=fun listed a w=>listed.size=ops.size/\(∀j,j<ops.size->listed.getD j false=true->∀e∈cP ops j,listed.getD e false=true)/\
  (∀p,p<ops.size->listed.getD (g p) false=true->p<k)/\ASim E (SL st k g r fun i=>listed.getD i false=true) a w
 refine wpIn_region_any hm (uQ I (fun _ _ _ hI=>hI.1) (fun listed a w i hI hi=>?_) (fun listed a w hI hr=>?_) _ _ _ _ ?_ ?_)
 ·obtain⟨hsize,hclosed,hbef,hA⟩:=hI;obtain⟨hun,oi,hoi,hall⟩:=mem_ready.1 hi;have hlt:i<ops.size:=(bx.1 hoi).1;have haft:∀e∈cP ops i,listed.getD e false=true:=fun e he=>by unfold cP at he;rw[hoi]at he;obtain⟨ed,h1,rfl⟩:=db.1 he;obtain⟨h1,h2⟩:=ξ.1 h1;exact hall ed (by simpa using h1) h2
  have hancL:∀j,anc ops j i=true->listed.getD j false=true:=fun j hj=>by
   obtain⟨e,he,rfl|h2⟩:=aAh hD.lt hlt hj
   ·exact haft _ he
   ·exact xG hD.lt (L:=fun k=>listed.getD k false=true) hclosed e j (Nat.lt_trans (hD.lt i hlt e he) hlt) h2 (haft e he)
  obtain⟨p,hp,rfl⟩:=hD.sur i hlt;have hpk:p<=k:=by
   rcases dv k p with h|h
   ·exfalso;rcases hK with⟨e,_⟩|⟨hks,v,hpan,_⟩
    ·omega
    ·obtain⟨f,args,fn,caps,e,_⟩:=hpan;exact absurd (hbef k hks (hancL _ (hD.call k p h hp (by rw[e];rfl)))) (iy _)
   ·exact h
  obtain⟨o,ho,hres,hstep⟩:=hst p hp;rw[hoi]at ho;cases ho;have hg:=hD.pure p hp;have hgn:(r p).guard=none:=by unfold drP at hg;rw[μ,gn]at hg;exact hg.1
  have hev:∀x∈(r p).op.operands,(SL st k g r fun i=>listed.getD i false=true).ev x=(st p).ev x:=by
   refine aRc fun t ht=>?_;by_cases h:SLp k g r (fun i=>listed.getD i false=true) t
   ·rw[aEj h];obtain⟨q,hq,hL,hd⟩:=h;have ha:=hD.use q p (by omega) hp t hd ht;have hqp:q<p:=by
     rcases dv q p with h|h
     ·exact h
     ·rcases dv p q with h'|h'
      ·exact absurd ha (hD.ord p q h' (by omega))
      ·have:q=p:=by omega
       subst this;exact absurd (bCt hD.lt _ _ (hD.bd q hp) ha) (iy _)
    rw[hfin q t hq hd];have:=henv (p-(q+1)) (q+1) t (by omega) (fun x a b e=>hD.dst q x (by omega) (by omega) t hd e);rw[show q+1+(p-(q+1))=p by omega]at this;exact this.symm
   ·rw[aAo h];exact(hini p t hpk fun q hq hd=>h ⟨q,by omega,hancL _ (hD.use q p (by omega) hp t hd ht),hd⟩).symm
  unfold wpOpIn;rw[hoi];simp only;rw[if_pos (by simp[Region.wanted,hres.guardN hgn])];rcases dv p k with hlt2|hge
  ·refine(hstep hlt2).sound hres hg (by rw[hSLlk,hlk p hpk]) hev hA fun x a' w' he hA'=>?_;refine⟨by simp[hsize],fun j hj hL e he=>?_,fun q hq hL=>?_,?_⟩
   ·rw[kX (by omega)]at hL|-;rcases hL with rfl|hL
    ·exact .inr (haft e he)
    ·exact .inr (hclosed j hj hL e he)
   ·rw[kX (by omega)]at hL;rcases hL with hL|hL
    ·have:q=p:=by
      rcases fy q p with h|h|h
      ·exact absurd hL (hD.inj q p h hp)
      ·exact h
      ·exact absurd hL.symm (hD.inj p q h hq)
     omega
    ·exact hbef q hq hL
   ·refine hA'.less rfl rfl rfl fun t=>.inl ?_;show _=cE (SL st k g r fun i=>listed.getD i false=true).env (r p).dst x t;by_cases hd:(r p).dst=some t
    ·rw[aEj ⟨p,hlt2,(kX (by omega)).2 (.inl rfl),hd⟩,hfin p t hlt2 hd,he];show cE (st p).env (r p).dst x t=_;rw[hd];simp[cE,upd]
    ·have hset:∀env:Nat->AV,cE env (r p).dst x t=env t:=fun env=>by
      cases hdd:(r p).dst with
      |none=>rfl
      |some d'=>simp only[cE,upd];rw[if_neg (fun e'=>hd (by rw[hdd,e']))]
     rw[hset];by_cases hs:SLp k g r (fun i=>listed.getD i false=true) t
     ·rw[aEj hs];obtain⟨q,h1,h2,h3⟩:=hs;exact aEj ⟨q,h1,(kX (by omega)).2 (.inr h2),h3⟩
     ·rw[aAo hs];refine aAo fun⟨q,h1,h2,h3⟩=>hs ⟨q,h1,?_,h3⟩;rcases(kX (by omega)).1 h2 with h2|h2
      ·exfalso;have:q=p:=by
        rcases fy q p with h|h|h
        ·exact absurd h2 (hD.inj q p h hp)
        ·exact h
        ·exact absurd h2.symm (hD.inj p q h (by omega))
       subst this;exact hd h3
      ·exact h2
  ·have hpe:p=k:=by omega
   subst hpe;rcases hK with⟨e,_⟩|⟨hks,v,⟨f,args,fn,caps,h1,h2,h3⟩,hQ⟩
   ·omega
   obtain e0|⟨b,op0,hop,hmk⟩:=hres.op
   ·rw[h1]at e0;cases e0
   rw[h1]at hmk;rcases wT hmk with e|e
   case inr=>rw[e]at hop;exact(aEg hop).elim
   rw[e]at hop;obtain⟨c,ho,hc,rfl⟩:=sU hop;have hxs:=hres.xs;rw[h1]at hxs hev;obtain⟨G,m,hA'⟩:=hA;have hrf:=hA'.evs f (hxs f (by simp[ROp.operands]));rw[hev f (by simp[ROp.operands]),h2]at hrf;unfold AV.Rep at hrf;obtain⟨vs,hv,hcaps⟩:=hrf;have hargs:AV.RepL G m (c.args.toList.map (st p).ev) (c.args.toList.map a.eval):=AV.RepL_map (fun x hx=>by
    have hx':x∈(ROp.callP f c.args.toList).operands:=by simp only[ROp.operands,cq];exact .inr hx
    rw[<-hev x hx'];exact hA'.evs x (hxs x hx'))
   have hrep:AV.RepL G m (c.args.toList.map (st p).ev++caps) (c.args.map a.eval++vs).toList:=by rw[ep,eu];exact AV.RepL_append hargs hcaps
   have hS:=hA'.sim;rw[hSLlk,<-hlk p (π _)]at hS;refine aGw ho hc hv (bDr (n:=(st 0).nx) h3 (LkSame.refl _) hS hrep) fun v' w' hp=>?_;refine⟨_,hQ,?_⟩;have hA2:=hA'.step (dst:=none) (fun d hd=>by cases hd) (by rw[hSLlk,<-hlk p (π _)];exact hp);obtain⟨m1,m2,m3,m4⟩:=aEw ros (st p);obtain⟨b1,b2,b3⟩:=hblk p (π _);refine hA2.less (m1.trans b1) (m2.trans b2) (m3.trans b3) fun t=>?_;rcases m4 t with⟨⟨x,hx,hd⟩,h⟩|⟨hn,h⟩
   ·obtain⟨q,hq,rfl⟩:=hros2 x hx;exact .inr ⟨hdlt q hq t hd,h⟩
   ·refine .inl (h.trans ?_);rw[hini p t (π _) (fun q hq hd=>hn _ (hros q (by omega)) hd)];exact(aAo fun⟨q,h1,_,h3⟩=>hn _ (hros q (by omega)) h3).symm
 ·obtain⟨hsize,hclosed,hbef,hA⟩:=hI;have hall:∀j,j<ops.size->listed.getD j false=true:=by
   intro j
   induction j using gz with
   |_ j ih=>
    intro hj;cases hl:listed.getD j false with
    |true=>rfl
    |false=>
     exfalso;have hjs:j<listed.size:=by rw[hsize];exact hj
     have:j∈Region.ready .any ops listed:=mem_ready.2 ⟨by simp[hjs]at hl|-;exact hl,ops[j],by simp[hj],fun e he hb=>by
      have hin:e.on∈cP ops j:=by unfold cP;rw[show ops[j]?=some ops[j] by simp[hj]];exact db.2 ⟨e,ξ.2 ⟨by simpa using he,hb⟩,rfl⟩
      have hlt:=hD.lt j hj _ hin;exact ih e.on hlt (by omega)⟩
     rw[hr]at this;cases this
  rcases hK with⟨e,hQ⟩|⟨hks,_⟩
  ·refine⟨_,hQ,?_⟩;obtain⟨b1,b2,b3⟩:=hblk k (π _);refine hA.less b1 b2 b3 fun t=>.inl ?_;by_cases h:SLp k g r (fun i=>listed.getD i false=true) t
   ·rw[aEj h]
   ·rw[aAo h];exact hini k t (π _) fun q hq hd=>h ⟨q,hq,hall _ (hD.bd q (by omega)),hd⟩
  ·exact absurd (hbef k hks (hall _ (hD.bd k hks))) (iy _)
 ·refine cx List.countP_le_length (by simp)
 ·have hf:∀j,(fj ops.size false).getD j false=false:=fun j=>by
   rcases dv j ops.size with h|h
   ·simp[h]
   ·simp[h]
  refine⟨by simp,fun j _ h=>(by rw[hf]at h;cases h),fun p _ h=>(by rw[hf]at h;cases h),?_⟩;obtain⟨G,m,hA⟩:=hA;have hd:ASim E s a w.drew:=⟨G,m,hA.sim.drew,hA.env,hA.size,hA.defers.keep fun _ _ h _=>h,E.Jkeep _ _ _ hA.jok fun _ _ h _=>h,hA.fresh,⟨hA.frame.os,hA.frame.tape.drew,hA.frame.output,hA.frame.size,hA.frame.heap,hA.frame.gh,hA.frame.le⟩,hA.base,hA.own,hA.noO,hA.nxOk⟩;rw[<-hst0]at hd;refine hd.less rfl rfl rfl fun t=>.inl ?_;exact aAo fun⟨p,_,h,_⟩=>absurd ((hf (g p)).symm.trans h) (by decide)
theorem CodeOk.drawD(hm:P.follows .mixedOrders=true)(h:sQ P ops N (σ.map fun i=>ops.getD i default) ros)(hd:aUb ops σ ros=true):CodeOk P N (.region id ops true) (.regDP ros):=fun rd Y E Q s a w hY hN hc hA=>by
 have hd':=hd;unfold aUb at hd';simp only[μ,di,fq,decide_eq_true_eq]at hd';obtain⟨⟨⟨⟨⟨_,hsl⟩,hsb⟩,_⟩,hdr⟩,_⟩:=hd';obtain⟨st,k,hst0,hlen,hk,hsteps,hK⟩:=aVe h hdr hc;rw[List.length_map,hsl]at hlen hk hK;have hget:∀p,p<ops.size->ros[p]?=some (ros.getD p default):=fun p hp=>by rw[bk,ν (by omega)];rfl
 have hg:∀p,p<ops.size->σ[p]?=some (σ.getD p 0):=fun p hp=>by rw[bk,ν (by omega)];rfl
 refine aNo (g:=fun p=>σ.getD p 0) (r:=fun p=>ros.getD p default) (ros:=ros) hm (aRs hlen hd) hk (fun p hp=>?_) (fun p hp=>cf (hget p hp)) (fun x hx=>?_) hN hst0 ?_ hA
 ·have hb:σ.getD p 0<ops.size:=hsb _ (cf (hg p hp));obtain⟨g1,g2⟩:=hsteps p ops[σ.getD p 0] _ (by rw[τ,hg p hp];simp only[Option.map_some,Array.getD,hb,dif_pos];rfl) (hget p hp);exact⟨_,by simp[hb],g1,g2⟩
 ·obtain⟨p,hp,e⟩:=List.mem_iff_getElem.1 hx;exact⟨p,by omega,by show x=ros.getD p default;rw[bk,ν hp];exact e.symm⟩
 ·rcases hK with⟨e,hQ⟩|⟨r,v,e,hp,hQ⟩
  ·exact .inl ⟨e,hQ⟩
  ·have hks:k<ops.size:=by have:=(ω.1 e).1;omega
   refine .inr ⟨hks,v,?_,hQ⟩;rw[hget k hks]at e;cases e;exact hp
def bFv:Nat:=1000000
def dH(P:Program)(fl:List Nat)(N:Nat)(ops:Array Oper):List Oper->Option (List RO)
 |[]=>some []
 |o::os=>match aAk P fl N ops o,dH P fl N ops os with
  |some r,some rs=>some (r::rs)
  |_,_=>none
def bAi(ops:Array Oper)(ros:List RO):List Nat:=
 let late:=fun j=>isP (ros.getD j default).op||(dm j).any fun i=>isP (ros.getD i default).op&&anc ops i j
 ((dm ops.size).filter fun j=>!late j)++(dm ops.size).filter late
theorem iA{P:Program}{fl:List Nat}{N:Nat}{ops:Array Oper}:∀{os:List Oper} {ros:List RO},dH P fl N ops os=some ros->sQ P ops N os ros
 |[],ros,h=>by unfold dH at h;cases h;trivial
 |o::os,ros,h=>by
  unfold dH at h;split at h
  ·rename_i r rs h1 h2;cases h;exact⟨aEb h1,iA h2⟩
  ·cases h
theorem CodeOk.sem{P:Program}{N:Nat}{c:Code}:CodeOk P N c (.sem N c):=fun r Y E Q s a w hY hN h hA=>by obtain rfl:=(hY.1 h.1).1;exact h.2 E a w hY hN hA
def bA1:Nat:=2000000
def wkIf:Bool->RCode->RCode
 |true,rc=>.wkr rc
 |false,rc=>rc
theorem CodeOk.wkIf{P:Program}{N:Nat}{c:Code}{rc:RCode}(h:CodeOk P N c rc):∀b,CodeOk P N c (wkIf b rc)
 |true=>fun r Y E Q s a w hY hN ⟨s0,hw,hc⟩ hA=>h r Y E Q s0 a w hY hN hc (hw _ _ _ hA)
 |false=>h
def isN:ROp->Bool
 |.nxt _=>true
 |_=>false
def aMc(_P:Program)(_fl:List Nat)(_N:Nat)(_ops:Array Oper):Option RCode:=none
theorem aKs(h:aMc P fl N ops=some rc):CodeOk P N (.region id ops false) rc:=by cases h
def aE(P:Program)(fl:List Nat)(N:Nat):Code->Option RCode
 |.skip=>some .skip
 |.region id ops draw=>if(!draw&&bBz ops)=true then aMc P fl N ops else Option.map (wkIf (fl.contains (bA1+id)))<|match dH P fl N ops ops.toList with
  |some ros=>if draw=true then(if aDg ops ros=true then(if ros.any (fun r=>isP r.op)=true then(match dH P fl N ops ((bAi ops ros).map fun i=>ops.getD i default)with|some rs=>if aUb ops (bAi ops ros) rs=true then some (.regDP rs)else none|none=>none)else if bE5 ros=true then some (.regS (aGx ops ros) ros)else some (.reg true ros))else none)else(if ros.any (fun r=>isN r.op)=true then none else if ros.any (fun r=>isP r.op)=true then some (.regP ros)else if fl.contains bFv then some (.regY ros)else some (.reg false ros))
  |none=>none
 |.seq a b=>match aE P fl N a,aE P fl N b with
  |some x,some y=>some (.seq x (wkIf true y))
  |_,_=>none
 |.cond c a b=>match aE P fl N a,aE P fl N b with
  |some x,some y=>if c.inN N=true then some (.cond c x y)else none
  |_,_=>none
 |.block id b=>(aE P fl N b).map (.block id)
 |.loop b=>(aE P fl N b).map .loop
 |.exit id=>some (.exit id)
 |.scope b=>(aE P fl N b).map .scope
 |.ret=>some .ret
 |.rangeFunc g ps as bd=>some (.sem N (.rangeFunc g ps as bd))
 |.label _=>some .skip
 |_=>none
theorem aW{P:Program}{fl:List Nat}{N:Nat}(hm:P.follows .mixedOrders=true):∀{c:Code} {rc:RCode},aE P fl N c=some rc->CodeOk P N c rc
 |.skip,rc,h=>by unfold aE at h;cases h;exact .skip
 |.label l,rc,h=>by unfold aE at h;cases h;exact .label
 |.region id ops draw,rc,h=>by
  unfold aE at h;split at h
  ·rename_i hc;rw[μ]at hc;cases draw with
   |true=>cases hc.1
   |false=>exact aKs h
  rw[ζ]at h;obtain⟨rc0,h,e⟩:=h;subst e;refine CodeOk.wkIf ?_ _;split at h
  ·rename_i ros h1;have h2:=iA h1;cases draw with
   |true=>
    simp only[if_true]at h;split at h
    ·rename_i hd;split at h
     ·split at h
      ·rename_i rs h3;rw[δ]at h;obtain⟨h4,h⟩:=h;cases h;exact .drawD hm (iA h3) h4
      ·cases h
     ·split at h
      ·cases h;exact .drawS hm h2 hd
      ·rename_i hs;cases h;exact .draw hm h2 hd (by simpa using hs)
    ·cases h
   |false=>
    simp only[fg,if_false]at h;split at h
    ·cases h
    split at h
    ·cases h;exact .regionP h2
    ·split at h
     ·cases h;exact .regionY h2
     ·cases h;exact .region h2
  ·cases h
 |.seq a b,rc,h=>by
  unfold aE at h;split at h
  ·rename_i x y h1 h2;cases h;exact .seq (aW hm h1) (CodeOk.wkIf (aW hm h2) true)
  ·cases h
 |.cond c a b,rc,h=>by
  unfold aE at h;split at h
  ·rename_i x y h1 h2;rw[δ]at h;obtain⟨hx,h⟩:=h;cases h;exact .cond hx (aW hm h1) (aW hm h2)
  ·cases h
 |.block id b,rc,h=>by
  unfold aE at h;rw[ζ]at h;obtain⟨x,h1,rfl⟩:=h;exact .block (aW hm h1)
 |.loop b,rc,h=>by
  unfold aE at h;rw[ζ]at h;obtain⟨x,h1,rfl⟩:=h;exact .loop (aW hm h1)
 |.exit id,rc,h=>by unfold aE at h;cases h;exact .exit
 |.scope b,rc,h=>by
  unfold aE at h;rw[ζ]at h;obtain⟨x,h1,rfl⟩:=h;exact .scope (aW hm h1)
 |.ret,rc,h=>by unfold aE at h;cases h;exact .ret
 |.rangeFunc ..,rc,h=>by unfold aE at h;cases h;exact .sem
 |.goto _,rc,h=>by unfold aE at h;cases h
 |.refuse _,rc,h=>by unfold aE at h;cases h
def pX(j:Nat):List Nat->Nat->Option Nat
 |[],_=>none
 |x::xs,i=>if x=j then some i else pX j xs (i+1)
theorem qM{j:Nat}:∀{l:List Nat} {n i:Nat},pX j l n=some i->n<=i/\l[i-n]?=some j
 |[],_,_,h=>by cases h
 |x::xs,n,i,h=>by
  unfold pX at h;split at h
  ·rename_i e;cases h;simp[e]
  ·obtain⟨h1,h2⟩:=qM h;refine⟨by omega,?_⟩;rw[show i-n=(i-(n+1))+1 by omega];simpa using h2
theorem xF{j:Nat}:∀{l:List Nat} {n:Nat},pX j l n=none->j∉l
 |[],_,_=>by simp
 |x::xs,n,h=>by
  unfold pX at h;split at h
  ·cases h
  ·rename_i e;have:=xF h;simp only[cq,not_or];exact⟨fun q=>e q.symm,this⟩
def phi(slots:List Nat):Hd->Option Hd
 |.B i=>some (.B i)
 |.O j=>(pX j slots 0).map .O
def aF0:List (Nat×AV)->Nat->AV
 |[],_=>.any
 |(t,a)::r,i=>if i=t then a else aF0 r i
def AState.wk(s:AState)(keep:List Nat)(slots:List Nat):AState:=
 {env:=aF0 (keep.map fun t=>(t,AV.conv s.lk (phi slots) (s.env t)))
  bs:=fun i=>(s.bs i).map (Blk.conv s.lk (phi slots))
  own:=fun i=>(slots[i]?).bind fun j=>(s.own j).map (Blk.conv s.lk (phi slots))
  nx:=slots.length}
theorem aEf(f:Nat->AV):∀(keep:List Nat) (t:Nat),aF0 (keep.map fun t=>(t,f t)) t=.any\/aF0 (keep.map fun t=>(t,f t)) t=f t
 |[],_=>.inl rfl
 |k::ks,t=>by
  simp only[df,aF0];split
  ·rename_i e;subst e;exact .inr rfl
  ·exact aEf f ks t
def qQ(nx:Nat)(slots:List Nat):List Hd:=((dm nx).filter fun j=>decide (j∉slots)).map .O
def wkM(m:HM)(slots:List Nat):HM
 |.B i=>m (.B i)
 |.O i=>(slots[i]?).bind fun j=>m (.O j)
theorem AtS.wk{E:Ent}{G:Gh}{m:HM}{s:AState}{a:Act}{w:World}(h:AtS E G m s a w)(keep:List Nat){slots:List Nat}(hn:slots.Nodup):
  ∃G',AtS E G' (wkM m slots) (s.wk keep slots) a w/\∀x v,AV.Rep G m x v->AV.Rep G' (wkM m slots) (AV.conv s.lk (phi slots) x) v:=by
 obtain⟨G',hS,hle,hG⟩:=h.sim.freeze (qQ s.nx slots);have hmem:∀j,(.O j:Hd)∈qQ s.nx slots↔j<s.nx/\j∉slots:=fun j=>by simp[qQ]
 have hphi:∀hd hd' loc,phi slots hd=some hd'->m hd=some loc->wkM m slots hd'=some loc:=by
  intro hd hd' loc hp hm;cases hd with
  |B i=>cases hp;exact hm
  |O j=>
   simp only[phi,ζ]at hp;obtain⟨i,hi,rfl⟩:=hp;obtain⟨_,h2⟩:=qM hi;show(slots[i]?).bind _=_;rw[show slots[i]?=some j by simpa using h2];exact hm
 have hrow:∀hd mt k es,s.lk hd=some (.row mt k es)->∃mt',lkF s.lk (qQ s.nx slots) hd=some (.row mt' k es):=fun hd mt k es hh=>by
  unfold lkF;split
  ·exact⟨false,by rw[hh];rfl⟩
  ·exact⟨mt,hh⟩
 have hfz:∀hd mt k es,phi slots hd=none->(s.lk hd).isSome=true->lkF s.lk (qQ s.nx slots) hd=some (.row mt k es)->mt=false:=by
  intro hd mt k es hp hsome hr;cases hd with
  |B i=>cases hp
  |O j=>
   simp only[phi,Option.map_eq_none_iff]at hp;have hj:j<s.nx:=by
    rcases dv j s.nx with h'|h'
    ·exact h'
    ·have:s.lk (.O j)=none:=h.nxOk j h';rw[this]at hsome;cases hsome
   unfold lkF at hr;rw[if_pos ((hmem j).2 ⟨hj,xF hp⟩)]at hr;cases hx:s.lk (.O j)with
   |none=>rw[hx]at hr;cases hr
   |some bl=>
    rw[hx]at hr;cases bl with
    |row mt' k' es'=>cases hr;rfl
    |_=>cases hr
 have hrep:∀x v,AV.Rep G m x v->AV.Rep G' (wkM m slots) (AV.conv s.lk (phi slots) x) v:=fun x v hx=>
  AV.conv_rep hS hrow hphi x v (fun hd _ mt k es a b c=>hfz hd mt k es a b c) (AV.Rep.mono hle (HM.le.refl m) _ _ hx)
 have hblk:∀bl b sz,BlkRep G' m bl b sz w->BlkRep G' (wkM m slots) (Blk.conv s.lk (phi slots) bl) b sz w:=fun bl b sz hb=>by
  cases bl with
  |row mt k es=>cases mt<;>exact hb
  |box cs=>
   obtain⟨vs,T,h1,h2,h3,h4⟩:=hb;exact⟨vs,T,h1,h2,AV.convL_rep hS hrow hphi cs _ (fun hd _ mt k es a b c=>hfz hd mt k es a b c) h3,h4⟩
  |_=>exact hb.elim
 have hlkB:∀i,lkF s.lk (qQ s.nx slots) (.B i)=s.bs i:=fun i=>by unfold lkF;rw[if_neg (by simp[qQ])];rfl
 have hlkO:∀j,j∈slots->lkF s.lk (qQ s.nx slots) (.O j)=s.own j:=fun j hj=>by unfold lkF;rw[if_neg (by rw[hmem];exact fun q=>q.2 hj)];rfl
 have hgetO:∀{i loc},wkM m slots (.O i)=some loc->∃j,slots[i]?=some j/\m (.O j)=some loc:=fun{i loc} hx=>by simpa[wkM,ε]using hx
 have hlk':∀i j,slots[i]?=some j->(s.wk keep slots).lk (.O i)=(s.own j).map (Blk.conv s.lk (phi slots)):=fun i j hj=>by show(slots[i]?).bind _=_;rw[hj];rfl
 have hbk:∀hd loc,wkM m slots hd=some loc->∃hd0,m hd0=some loc/\(s.wk keep slots).lk hd=(lkF s.lk (qQ s.nx slots) hd0).map (Blk.conv s.lk (phi slots))/\(∀hd',wkM m slots hd'≠none->(∃loc',wkM m slots hd'=some loc'/\((∃i,hd'=.B i/\hd0=.B i)\/∃i j,hd'=.O i/\hd0=.O j/\slots[i]?=some j))->hd'=hd):=by
  intro hd loc hx;cases hd with
  |B i=>
   refine⟨.B i,hx,by rw[hlkB];rfl,fun hd' _ ⟨loc',_,h2⟩=>?_⟩;rcases h2 with⟨i',rfl,e⟩|⟨_,_,_,e,_⟩
   ·cases e;rfl
   ·cases e
  |O i=>
   obtain⟨j,hj,hm⟩:=hgetO hx;refine⟨.O j,hm,by rw[hlkO j (cf hj),hlk' i j hj],fun hd' _ ⟨loc',_,h2⟩=>?_⟩;rcases h2 with⟨_,_,e⟩|⟨i',j',rfl,e,hj'⟩
   ·cases e
   ·cases e;have h2:=(ω.1 hj');rw[(i9 h2.1 hn).1 (hj'.trans hj.symm)]
 have hjok:E.J ((s.wk keep slots).env E.N) w:=by
  show E.J (aF0 (keep.map fun t=>(t,AV.conv s.lk (phi slots) (s.env t))) E.N) w;rcases aEf (fun t=>AV.conv s.lk (phi slots) (s.env t)) keep E.N with e|e
  ·rw[e];exact E.Jany _ _ h.jok
  ·rw[e];exact E.Jconv _ _ _ _ h.jok
 refine⟨G',⟨⟨?_,?_,?_,hS.gh,?_,hS.gl,fun hd b sz fp hx=>?_⟩,?_,h.size,h.defers,hjok,?_,?_,h.base,?_,h.noO,?_⟩,hrep⟩
 rotate_left 4
 ·obtain⟨hd0,h1,h2,_⟩:=hbk hd _ hx;obtain⟨bl,h3,h4⟩:=hS.blkx _ _ _ _ h1;exact⟨_,by rw[h2,h3];rfl,h4.conv hphi⟩
 rotate_right 4
 ·intro hd b sz hx;obtain⟨hd0,h1,h2,_⟩:=hbk hd _ hx;obtain⟨bl,h3,h4⟩:=hS.blk _ _ _ h1;exact⟨_,by rw[h2,h3];rfl,hblk _ _ _ h4⟩
 ·intro hd hx;obtain⟨hd0,h1,h2,_⟩:=hbk hd _ hx;obtain⟨mt,k,h3⟩:=hS.nil _ h1;exact⟨mt,k,by rw[h2,h3];rfl⟩
 ·intro hd hd' l l' b hx hx' hb hb';cases hd with
  |B i=>
   cases hd' with
   |B i'=>exact hS.injG (.B i) (.B i') l l' b hx hx' hb hb'
   |O i'=>
    obtain⟨j,_,hm⟩:=hgetO hx';have:=hS.injG (.B i) (.O j) l l' b hx hm hb hb';cases this
  |O i=>
   obtain⟨j,hj,hm⟩:=hgetO hx;cases hd' with
   |B i'=>
    have:=hS.injG (.O j) (.B i') l l' b hm hx' hb hb';cases this
   |O i'=>
    obtain⟨j',hj',hm'⟩:=hgetO hx';have:=hS.injG (.O j) (.O j') l l' b hm hm' hb hb';cases this;have h2:=(ω.1 hj');rw[(i9 h2.1 hn).1 (hj'.trans hj.symm)]
 ·intro hd hx;obtain⟨hd0,h1,h2,_⟩:=hbk hd _ hx;rw[h2,hS.dead _ h1];rfl
 ·intro t;show AV.Rep G' _ (aF0 (keep.map fun t=>(t,AV.conv s.lk (phi slots) (s.env t))) t) _;rcases aEf (fun t=>AV.conv s.lk (phi slots) (s.env t)) keep t with e|e
  ·rw[e];unfold AV.Rep;trivial
  ·rw[e];exact hrep _ _ (h.env t)
 ·intro i hi;have hi':slots.length<=i:=hi;show(slots[i]?).bind _=none;rw[dc hi'];rfl
 ·have hF:Fr (fun _=>False) (Own m) G G' w w:=⟨rfl,.same rfl rfl,rfl,π _,fun _ _ _=>rfl,fun b _ ho o=>hG b (fun h' _ sz q=>ho (.at_ q)) o,hle⟩;exact h.frame.step hF (fun b _ q=>q.elim) (fun b hb q=>h.ownOld hb q)
 ·intro x l b hx hl;cases x with
  |B i=>exact h.own _ l b hx hl
  |O i=>
   obtain⟨j,_,hm⟩:=hgetO hx;exact h.own _ l b hm hl
 ·intro i hi;have hi':slots.length<=i:=hi;show(slots[i]?).bind _=none;rw[dc hi'];rfl
theorem AState.wk_ok(s:AState)(keep:List Nat)(hn:slots.Nodup):Wk s (s.wk keep slots):=fun _ _ _ ⟨_,_,h⟩=>
 let⟨G',h',_⟩:=h.wk keep hn;⟨G',_,h'⟩
inductive RRes where
 |tmp (t:Nat)
 |cell (ag:Option Nat) (t:Nat)
 deriving Inhabited
variable{rs:List RRes}
def fD(P:Program):List ResultVar->Option (List RRes)
 |[]=>some []
 |.tmp t::r=>(fD P r).map (.tmp t::·)
 |.cell t T::r=>match P.underlying T,P.info? T,fD P r with
  |some d,some i,some rs=>some (.cell (if aX d then some i.size else none) t::rs)
  |_,_,_=>none
def aE3(N:Nat):ResultVar->Bool
 |.tmp t=>decide (t<N)
 |.cell t _=>decide (t<N)
def cG(P:Program)(N:Nat)(l:List ResultVar):Option (List RRes):=if l.all (aE3 N)=true then fD P l else none
def oZ(s:AState):RRes->Option AV
 |.tmp t=>some (s.env t)
 |.cell ag t=>match s.env t with
  |.ptr h off=>match s.lk h with
   |some (.box cs)=>match ag with
    |none=>cs[off]?
    |some n=>if off+n<=cs.length then some (.agg ((cs.drop off).take n))else none
   |_=>none
  |.eptr h k ix off=>match s.lk h,ag with
   |some (.row _ k' es),some n=>if k=1/\k'=1/\off=0/\ix+n<=es.length then some (.agg ((((es.drop ix).take n).flatten).map .D))else none
   |_,_=>none
  |_=>none
def kF(s:AState):List RRes->Option (List AV)
 |[]=>some []
 |r::rs=>match oZ s r,kF s rs with
  |some a,some as=>some (a::as)
  |_,_=>none
def aTr(s:AState)(rs:List RRes):Option AV:=
 match kF s rs with
 |some [a]=>some a
 |some as=>some (.tup as)
 |none=>none
def xI(tmps:Array Value):ResultVar->Sem Value
 |.tmp t=>pure (tmps.getD t undef)
 |.cell a t=>do loadVar t (<-asAddr (tmps.getD a undef))
theorem nS{P:Program}{E:Ent}{G:Gh}{m:HM}{s:AState}{a:Act}{w:World}(h:AtS E G m s a w):∀{rvs:List ResultVar} {rs:List RRes} {as:List AV},(∀x∈rvs,aE3 E.N x=true)->fD P rvs=some rs->kF s rs=some as->
  ∃vs:List Value,(rvs.mapM (xI a.tmps)).run P w=.ok vs w/\AV.RepL G m as vs
 |[],rs,as,_,h1,h2=>by
  cases h1;cases h2;exact⟨[],by simp,by simp[AV.RepL]⟩
 |.tmp t::rvs,rs,as,h0,h1,h2=>by
  have htN:t<E.N:=by simpa[aE3]using h0 (.tmp t) (by simp)
  simp only[fD,ζ]at h1;obtain⟨rs',h1,rfl⟩:=h1;simp only[kF,oZ]at h2;split at h2
  ·rename_i x y e1 e2;cases e1;cases h2;obtain⟨vs,k1,k2⟩:=nS h (fun x hx=>h0 x (by simp[hx])) h1 e2;exact⟨a.tmps.getD t undef::vs,by simp[xI,k1],by unfold AV.RepL;exact⟨_,_,rfl,Ent.val_lt htN▸h.env t,k2⟩⟩
  ·cases h2
 |.cell t T::rvs,rs,as,h0,h1,h2=>by
  have htN:t<E.N:=by simpa[aE3]using h0 (.cell t T) (by simp)
  simp only[fD]at h1;split at h1
  ·rename_i d i rs' hd hi hrs;cases h1;simp only[kF]at h2;split at h2
   ·rename_i x y e1 e2;cases h2;obtain⟨vs,k1,k2⟩:=nS h (fun x hx=>h0 x (by simp[hx])) hrs e2;have hv:=h.env t;rw[Ent.val_lt htN]at hv;simp only[oZ]at e1;split at e1
    ·rename_i hd' off he;rw[he]at hv;unfold AV.Rep at hv;obtain⟨_,loc,hloc,hp⟩:=hv;split at e1
     ·rename_i cs hl;have hnd:loc≠.dead:=fun e=>by subst e;rw[h.sim.dead _ hloc]at hl;cases hl
      obtain⟨b,sz,rfl,hp'⟩:=hp hnd;obtain⟨bl,hl3,hb⟩:=h.sim.blk _ _ _ hloc;rw[hl]at hl3;cases hl3;obtain⟨ws,T',h1,h2,h3,h4⟩:=hb;have hm:(match(if aX d then some i.size else none)with
       |none=>∃x',cs[off]?=some x'/\x=x'
       |some n=>off+n<=cs.length/\x=.agg ((cs.drop off).take n)):=by
       split at e1
       ·exact⟨x,e1,rfl⟩
       ·rw[δ]at e1;exact⟨e1.1,(Option.some.inj e1.2).symm⟩
      obtain⟨v,hv,hrep⟩:=aKn (P:=P) hd hi h1 h3 hm;refine⟨v::vs,?_,by unfold AV.RepL;exact⟨_,_,rfl,hrep,k2⟩⟩;simp only[cp]at hp';simp[xI,hp',asAddr,hv,k1]
     ·cases e1
    ·rename_i hd' k ix off he;rw[he]at hv;unfold AV.Rep at hv;obtain⟨_,loc,hloc,hp⟩:=hv;split at e1
     ·rename_i mt k' es n hl hag;rw[δ]at e1;obtain⟨⟨rfl,rfl,rfl,hle⟩,e1⟩:=e1;cases e1;have ha:aX d=true:=by
       cases hh:aX d with
       |true=>rfl
       |false=>rw[hh]at hag;cases hag
      rw[ha]at hag;cases hag;have hnd:loc≠.dead:=fun e=>by subst e;rw[h.sim.dead _ hloc]at hl;cases hl
      obtain⟨b,sz,rfl,hp'⟩:=hp hnd;obtain⟨bl,hl3,hb⟩:=h.sim.blk _ _ _ hloc;rw[hl]at hl3;cases hl3;obtain⟨f,hrow,hf,_⟩:=mV hb h.sim.gh;have hrow2:=DV.rows_drop ix hrow;rw[Nat.zero_add]at hrow2;have hcell:=rows_flat hrow2;have hfl:=aFh hrow2;rw[List.length_drop,Nat.mul_one]at hfl;obtain⟨v,hv,hrep⟩:=rJ (P:=P) (m:=m) hd hi (b:=b) hcell hf (a:=.agg ((((es.drop ix).take i.size).flatten).map .D)) (by
       rw[ha];exact⟨by rw[hfl];omega,by rw[nW i.size hrow2]⟩)
      refine⟨v::vs,?_,by unfold AV.RepL;exact⟨_,_,rfl,hrep,k2⟩⟩;simp only[cp,Nat.mul_one,Nat.add_zero]at hp' hv;simp[xI,hp',asAddr,hv,k1]
     ·cases e1
    ·cases e1
   ·cases h2
  ·cases h1
theorem aNe(h:AtS E G m s a w){x:AV}(h0:∀x∈fn.results.toList,aE3 E.N x=true)(h1:fD P fn.results.toList=some rs)(h2:aTr s rs=some x):
  ∃v,(results fn a.tmps).run P w=.ok v w/\AV.Rep G m x v:=by
 have key:∀as,kF s rs=some as->∃vs:List Value,(fn.results.mapM (xI a.tmps)).run P w=.ok vs.toArray w/\AV.RepL G m as vs:=fun as he=>by obtain⟨vs,k1,k2⟩:=nS (P:=P) h h0 h1 he;refine⟨vs,?_,k2⟩;rw[Array.mapM_eq_mapM_toList];simp[k1]
 have hres:∀vs:List Value,(fn.results.mapM (xI a.tmps)).run P w=.ok vs.toArray w->(results fn a.tmps).run P w=.ok (if h:vs.toArray.size=1 then vs.toArray[0]else .tuple vs.toArray) w:=fun vs hr=>by have:results fn a.tmps=(do let vs<-fn.results.mapM (xI a.tmps);pure (if h:vs.size=1 then vs[0]else .tuple vs)):=rfl;rw[this];simp[hr]
 unfold aTr at h2;split at h2
 ·rename_i y he;cases h2;obtain⟨vs,k1,k2⟩:=key _ he;refine⟨_,hres vs k1,?_⟩;unfold AV.RepL AV.RepL at k2;obtain⟨v,vs',rfl,k3,rfl⟩:=k2;simpa using k3
 ·rename_i as hne he;cases h2;obtain⟨vs,k1,k2⟩:=key _ he;refine⟨_,hres vs k1,?_⟩;have hl:=AV.RepL_length k2;have:¬vs.toArray.size=1:=fun e=>by
   have:as.length=1:=by simpa[hl]using e
   match as,this with
   |[y],_=>exact hne y rfl
  rw[dif_neg this];unfold AV.Rep;exact⟨_,rfl,by simpa using k2⟩
 ·cases h2
def bDm(n:Nat)(rs:List RRes)(r:AV)(bs':List (Option Blk))(nbs:List Blk):Exit->AState->Prop:=fun e s=>
 (e=.normal\/e=.ret)/\∃slots x,slots.Nodup/\aTr s rs=some x/\AV.conv s.lk (phi slots) x=r/\((dm n).map fun i=>(s.bs i).map (Blk.conv s.lk (phi slots)))=bs'/\
  (slots.map fun j=>(s.own j).map (Blk.conv s.lk (phi slots)))=nbs.map some
def entry(args:List AV)(bs:List (Option Blk)):AState:=
 {env:=fun t=>args.getD t .un,bs:=fun i=>(bs[i]?).join,own:=fun _=>none,nx:=0}
theorem Sim.putObj{G:Gh}{m:HM}{lk:aY}{w:World}(h:Sim G m lk w){r:Nat}{o o':Obj}(hr:w.heap[r]?=some o)(hn:o.isD=false):Sim G m lk (w.putObj r o'):=by
 refine⟨fun x b sz hx=>?_,h.nil,h.injG,fun b q v hv=>?_,h.dead,h.gl,fun x b sz fp hx=>?_⟩
 rotate_right
 ·obtain⟨bl,h1,h2⟩:=h.blkx x b sz fp hx;have hne:∀c∈b::fp,c≠r:=fun c hc e=>by obtain⟨o2,hc2,hd2⟩:=h2.data c hc;subst e;rw[hr]at hc2;cases hc2;rw[hd2]at hn;cases hn
  refine⟨bl,h1,h2.mono (Gh.le.refl G) (HM.le.refl m) (fun _ _ _=>rfl) (fun c hc=>World.putObj_heap_other (hne c hc)) fun _ c _ _ _ _ _ _ _ hc=>World.putObj_heap_other (fun e=>?_)⟩;subst e;rw[hr]at hc;cases hc;cases hn
 ·obtain⟨bl,h1,h2⟩:=h.blk x b sz hx;obtain⟨o2,hc,hd⟩:=h.data (.at_ hx);have hne:b≠r:=fun e=>by subst e;rw[hr]at hc;cases hc;rw[hd]at hn;cases hn
  exact⟨bl,h1,h2.mono (Gh.le.refl G) (HM.le.refl m) (fun _=>rfl) (World.putObj_heap_other hne)⟩
 ·have hv':=h.gh b q v hv;have hne:b≠r:=fun e=>by subst e;unfold World.cell? at hv';simp only[hr]at hv';cases o<;>first|(cases hn;done)|cases hv'
  unfold World.cell?;rw[World.putObj_heap_other hne];exact hv'
theorem Fr.putObj{oh og:Nat->Prop}{G0 G:Gh}{w0 w:World}(h:Fr oh og G0 G w0 w){r:Nat}{o:Obj}(hr:w0.heap.size<=r):Fr oh og G0 G w0 (w.putObj r o):=
 ⟨h.os,h.tape,h.output,by rw[World.putObj_size];exact h.size,fun b hb ho=>by rw[World.putObj_heap_other (by omega)];exact h.heap b hb ho,h.gh,h.le⟩
theorem yP{P:Program}{fn:Func}{E:Ent}{G:Gh}{m:HM}{s:AState}{R:Ending->World->Prop}{tmps:Array Value}:∀(ms:List Deferred) (w:World),AtS E G m s {tmps:=tmps,defers:=ms++E.dt} w->Marks (E.w0.heap.size+E.sk) E.nd ms w->
  (∀w',AtS E G m s {tmps:=tmps,defers:=E.dt} w'->LeavesInM (FR none) 0 P fn tmps R E.dt .returning w')->LeavesInM (FR none) 0 P fn tmps R (ms++E.dt) .returning w
 |[],w,h,_,hR=>hR w h
 |d::ms,w,h,hM,hR=>by
  obtain⟨r,rfl,hr1,hr2⟩:=hM.1 d (by simp);have hnd:=hM.2.1;have hM':Marks (E.w0.heap.size+E.sk) E.nd ms (w.putObj r (.deferred none)):=by refine⟨fun d' hd'=>?_,(eq.1 hnd).2,fun e=>by have:=hM.2.2 e;cases this⟩;obtain⟨r',rfl,q1,q2⟩:=hM.1 d' (by simp[hd']);refine⟨r',rfl,q1,?_⟩;rw[World.putObj_heap_other (fun e=>(eq.1 hnd).1 (by subst e;exact hd'))];exact q2
  refine⟨by simp,.inl ⟨r,w.putObj r (.deferred none),rfl,run_takeDeferred hr2,yP ms _ ?_ hM' hR⟩⟩;exact⟨h.sim.putObj hr2 rfl,h.env,h.size,⟨ms,rfl,hM'⟩,E.Jput _ _ _ _ h.jok hr1,h.fresh,h.frame.putObj (cx (ge _ _) hr1),h.base,h.own,h.noO,h.nxOk⟩
theorem wJ(hdt:E.dt=[])(ds:List Deferred)(w:World)(h:AtS E G m s {tmps:=tmps,defers:=ds} w)
  (hR:∀w',AtS E G m s {tmps:=tmps,defers:=[]} w'->∃v,(results fn tmps).run P w'=.ok v w'/\R (.returned v) w'):LeavesInM (FR none) 0 P fn tmps R ds .returning w:=by obtain⟨ms,e,hM⟩:=h.defers;have e:ds=ms++E.dt:=e;subst e;exact yP ms w h hM (fun w' h'=>by rw[hdt]at h'|-;exact hR w' h')
def mJ(n:Nat)(rs:List RRes)(r:AV)(bs':List (Option Blk))(nbs:List Blk):Exit->AState->Prop:=fun e s=>∃s',Wk s s'/\bDm n rs r bs' nbs e s'
theorem pV(nd:Bool)(hn:args.length<=N)(hS:Sim G m (fK bs []) w)(hO:∀i,m (.O i)=none)(hA:AV.RepL G m args vs.toList):
  AtS {w0:=w,G0:=G,m0:=m,N:=N,nd:=nd:Ent} G m (entry args bs) {tmps:=vs++fj (N-vs.size) undef,defers:=[]} w:=by
 have hlen:=AV.RepL_length hA;have hlen':args.length=vs.size:=by simpa using hlen
 refine⟨?_,fun t=>?_,?_,jC.2 Marks.nil,trivial,fun i _=>hO i,Fr.refl _ _ _ _,fun i=>.inl rfl,fun x l b hi hl=>.inr ⟨x,l,hi,hl⟩,trivial,fun _ _=>rfl⟩
 ·have:(entry args bs).lk=fK bs []:=by funext h;cases h<;>simp[AState.lk,entry,fK]
  rw[this];exact hS
 ·have hval:Ent.val {w0:=w,G0:=G,m0:=m,N:=N,nd:=nd:Ent} {tmps:=vs++fj (N-vs.size) undef,defers:=[]} t=(vs++fj (N-vs.size) undef).getD t undef:=by
   unfold Ent.val;split
   ·rfl
   ·rename_i ht;have ht:N<=t:=Nat.le_of_not_lt ht;have:(vs++fj (N-vs.size) undef)[t]?=none:=Array.getElem?_eq_none (by simp;omega);simp only[cp,this];rfl
  rw[hval];show AV.Rep G m (args.getD t .un) ((vs++fj (N-vs.size) undef).getD t undef);rcases dv t vs.size with ht|ht
  ·have h1:args[t]?=some args[t]:=by simp[hlen',ht]
   obtain⟨v,h2,h3⟩:=AV.RepL_get hA h1;rw[bk,h1];simp only[Array.getElem?_toList]at h2;simp only[cp,Array.getElem?_append_left ht,h2];exact h3
  ·rw[bk,dc (by omega)];have:(vs++fj (N-vs.size) undef).getD t undef=undef:=by simp only[cp,Array.getElem?_append_right ht,Array.getElem?_replicate];split<;>rfl
   rw[this];show AV.Rep G m .un undef;unfold AV.un AV.Rep DV.Rep;rfl
 ·simp;omega
theorem wY{r:AV}(hrs0:(∀x∈fn.results.toList,aE3 fn.ntmps x=true)/\fD P fn.results.toList=some rs)
 (h0:E.w0=w) (h1:E.G0=G) (h2:E.m0=m) (hN:E.N=fn.ntmps) (hS:Sim G m (fK bs []) w) {G1:Gh} {m1:HM} (hA':AtS E G1 m1 s a' w') {e:Exit} (hq:bDm bs.length rs r bs' nbs e s):
  ∃v,(results fn a'.tmps).run P w'=.ok v w'/\nO w G m (fK bs' nbs) r v w':=by
 subst h0;subst h1;subst h2;rw[<-hN]at hrs0;obtain⟨he,slots,x,hnd,hx,hr,hbs,hnbs⟩:=hq;obtain⟨v,hv,hrep⟩:=aNe (P:=P) (fn:=fn) hA' hrs0.1 hrs0.2 hx;obtain⟨G2,hA2,hconv⟩:=hA'.wk [] hnd;have hlkO:∀i,fK bs' nbs (.O i)=(s.wk [] slots).lk (.O i):=fun i=>by
  show nbs[i]?=(slots[i]?).bind _;have:=congrArg (fun l=>l[i]?) hnbs;simp only[τ]at this;cases h1:nbs[i]?with
  |none=>cases h2:slots[i]?with
   |none=>rfl
   |some j=>rw[h1,h2]at this;cases this
  |some b=>cases h2:slots[i]?with
   |none=>rw[h1,h2]at this;cases this
   |some j=>
    rw[h1,h2]at this;exact(Option.some.inj this).symm
 have hlen2:slots.length=nbs.length:=by simpa using congrArg List.length hnbs
 have hpost:nO E.w0 E.G0 E.m0 (fK bs' nbs) r v w':=by
  have hS2:Sim G2 (wkM m1 slots) (fK bs' nbs) w':=by
   have hB:∀i,i<bs.length->fK bs' nbs (.B i)=(s.wk [] slots).lk (.B i):=fun i hi=>by show(bs'[i]?).join=_;rw[<-hbs];simp[hi];rfl
   have hB':∀i,bs.length<=i->fK bs' nbs (.B i)=none/\(wkM m1 slots (.B i)=none\/wkM m1 slots (.B i)=some .dead):=fun i hi=>by
    refine⟨?_,?_⟩
    ·show(bs'[i]?).join=_;have:bs'.length=bs.length:=by rw[<-hbs];simp
     rw[dc (by omega)];rfl
    ·have hno:fK bs [] (.B i)=none:=by show(bs[i]?).join=none;rw[dc hi];rfl
     rcases hA2.base i with h1|⟨_,h1⟩|⟨_,_,_,_,h1,_⟩
     rotate_right
     ·obtain⟨bl,h3,_⟩:=hS.blkx _ _ _ _ h1;rw[hno]at h3;cases h3
     ·rw[h1];show E.m0 (.B i)=none\/E.m0 (.B i)=some .dead;cases hm:E.m0 (.B i)with
      |none=>exact .inl rfl
      |some loc=>
       cases loc with
       |dead=>exact .inr rfl
       |none=>obtain⟨mt,k,h3⟩:=hS.nil _ hm;rw[hno]at h3;cases h3
       |at_ b sz=>obtain⟨bl,h3,_⟩:=hS.blk _ _ _ hm;rw[hno]at h3;cases h3
       |atx b sz fp=>obtain⟨bl,h3,_⟩:=hS.blkx _ _ _ _ hm;rw[hno]at h3;cases h3
     ·exact .inr h1
   have hcase:∀x,fK bs' nbs x=(s.wk [] slots).lk x\/(fK bs' nbs x=none/\(wkM m1 slots x=none\/wkM m1 slots x=some .dead)):=fun x=>by
    cases x with
    |O i=>exact .inl (hlkO i)
    |B i=>
     rcases dv i bs.length with h|h
     ·exact .inl (hB i h)
     ·exact .inr (hB' i h)
   refine⟨fun x b sz hx=>?_,fun x hx=>?_,hA2.sim.injG,hA2.sim.gh,fun x hx=>?_,hA2.sim.gl,fun x b sz fp hx=>?_⟩
   rotate_right
   ·rcases hcase x with h|⟨_,h|h⟩
    ·rw[h];exact hA2.sim.blkx x b sz fp hx
    ·rw[h]at hx;cases hx
    ·rw[h]at hx;cases hx
   ·rcases hcase x with h|⟨_,h|h⟩
    ·rw[h];exact hA2.sim.blk x b sz hx
    ·rw[h]at hx;cases hx
    ·rw[h]at hx;cases hx
   ·rcases hcase x with h|⟨_,h|h⟩
    ·rw[h];exact hA2.sim.nil x hx
    ·rw[h]at hx;cases hx
    ·rw[h]at hx;cases hx
   ·rcases hcase x with h|⟨h,_⟩
    ·rw[h];exact hA2.sim.dead x hx
    ·exact h
  refine⟨G2,wkM m1 slots,hS2,hr▸hconv _ _ hrep,hA2.frame,hA2.base,hA2.own,fun i hi=>?_⟩;have:slots[i]?=none:=by have hi:nbs[i]?=none:=hi;rw[List.getElem?_eq_none_iff]at hi|-;omega
  show(slots[i]?).bind _=none;rw[this];rfl
 exact⟨v,hv,hpost⟩
theorem yW(hrs:cG P fn.ntmps fn.results.toList=some rs):(∀x∈fn.results.toList,aE3 fn.ntmps x=true)/\fD P fn.results.toList=some rs:=by unfold cG at hrs;rw[δ,di]at hrs;exact hrs
theorem ACall.of_bodyS(fl:List Nat)(S:AState->Prop){f:FuncId}{r:AV}
  (hf:P.funcs[f]?=some fn) (hb:fn.body=some c) (hname:(fn.name== "runtime.NumGoroutine")=false) (hm:P.follows .mixedOrders=true) (hrc:aE P fl fn.ntmps c=some rc) (hrs:cG P fn.ntmps fn.results.toList=some rs)
  (hn:args.length<=fn.ntmps) (hw0:∀E a w,E.N=fn.ntmps->ASim E (entry args bs) a w->∃s0,S s0/\ASim E s0 a w) (h:∀s0,S s0->dX P noY rc (mJ bs.length rs r bs' nbs) s0):ACall P f args bs r bs' nbs:=by
 have hrs0:=yW hrs;refine fun w G m vs hS hO hA=>.inl ⟨⟨fn,hf,by rw[hb];rfl,hname⟩,aAg (r:=none) (n:=0) (callsIn_of_wp_marks hf hb (lP none f) ?_)⟩;have hent:=pV false hn hS hO hA;obtain⟨s0,hs0,hsim0⟩:=hw0 _ _ _ rfl ⟨G,m,hent⟩;refine wpIn_mono (aW hm hrc none noY _ _ _ _ _ (YOk.none rfl rfl) rfl (h s0 hs0) hsim0) fun e a' w' ⟨s00,⟨s,hw,hq⟩,hA0⟩=>?_;obtain⟨G1,m1,hA'⟩:=hw _ _ _ hA0;have key:∀w',AtS {w0:=w,G0:=G,m0:=m,N:=fn.ntmps:Ent} G1 m1 s {tmps:=a'.tmps,defers:=[]} w'->∃v,(results fn a'.tmps).run P w'=.ok v w'/\∃v',Ending.returned v=.returned v'/\nO w G m (fK bs' nbs) r v' w':=fun w' hA'=>by obtain⟨v,hv,hp⟩:=wY hrs0 rfl rfl rfl rfl hS hA' hq;exact⟨v,hv,v,rfl,hp⟩
 rcases hq.1 with rfl|rfl<;>exact wJ rfl a'.defers w' hA' key
theorem ACall.of_bodyX(fl:List Nat)(s0:AState){f:FuncId}{r:AV}
  (hf:P.funcs[f]?=some fn) (hb:fn.body=some c) (hname:(fn.name== "runtime.NumGoroutine")=false) (hm:P.follows .mixedOrders=true) (hrc:aE P fl fn.ntmps c=some rc) (hrs:cG P fn.ntmps fn.results.toList=some rs)
  (hn:args.length<=fn.ntmps) (hw0:Wk (entry args bs) s0) (h:dX P noY rc (mJ bs.length rs r bs' nbs) s0):ACall P f args bs r bs' nbs:=
 ACall.of_bodyS fl (·=s0) hf hb hname hm hrc hrs hn (fun E a w _ h=>⟨s0,rfl,hw0 E a w h⟩) (fun _ e=>e▸h)
def shE(N:Nat)(top:Nat->AV)(g:AV)(low:Nat->AV):Nat->AV:=fun t=>if t<N then top t else if t=N then g else low (t-N-1)
def AState.withEnv(s:AState)(env:Nat->AV):AState:={s with env:=env}
section
variable{B:Nat}{fid:FuncId}{tmps:Array Value}{ps:Array Tmp}{as bd:Code}{ds:List Deferred}{E:Ent}{x0:AV}
end
theorem aNp(s:AState)(env:Nat->AV):(s.withEnv env).lk=s.lk:=by funext h;cases h<;>rfl
theorem AtS.turn{E':Ent}(h:AtS E G m s a w)(env:Nat->AV)(h0:E'.w0=E.w0)(h1:E'.G0=E.G0)(h2:E'.m0=E.m0)(hs:Sim G m s.lk w')(hf:Fr (Own E.m0) (Own E.m0) E.G0 G E.w0 w')
  (he:∀t,AV.Rep G m (env t) (E'.val a' t)) (hsz:a'.tmps.size=E'.N) (hd:Marks1 E'.dt (E'.w0.heap.size+E'.sk) E'.nd a'.defers w') (hj:E'.J (env E'.N) w'):AtS E' G m (s.withEnv env) a' w':=by refine⟨by rw[aNp];exact hs,he,hsz,hd,hj,h.fresh,by rw[h0,h1,h2];exact hf,by rw[h2];exact h.base,by rw[h0,h2];exact h.own,trivial,h.nxOk⟩
theorem aW8{top low:Nat->AV}{g:AV}{v:Nat->Value}(h1:∀t,t<N->AV.Rep G m (top t) (v t))(h2:AV.Rep G m g (v N))(h3:∀t,AV.Rep G m (low t) (v (N+1+t)))(t:Nat):AV.Rep G m (shE N top g low t) (v t):=by
 unfold shE;split
 ·exact h1 t ‹_›
 ·split
  ·rename_i e;subst e;exact h2
  ·rename_i ha hb;have:=h3 (t-N-1);rwa[show N+1+(t-N-1)=t by omega]at this
def aN5(f:Nat->Value):Nat->Value:=fun j=>if j=0 then undef else f (j-1)
theorem aWq{f:Nat->Value}(h:E.cv=aN5 f)(t:Nat):E.val a (E.N+1+t)=f t:=by rw[Ent.val_ge (by omega),h];unfold aN5;rw[if_neg (by omega),show E.N+1+t-E.N-1=t by omega]
theorem aCy{v:Value}:AV.Rep G m .any v:=by unfold AV.Rep;trivial
theorem AtS.epost{v:Value}(h:AtS E G m s a w)(henv:∀t,s'.env t=s.env t)(hnx:s.nx<=s'.nx)(hown:(∀i,s.nx<=i->s.own i=none)->∀i,s'.nx<=i->s'.own i=none)(hp:aDx G m s none s' w v w'):ASim E s' a w':=by
 obtain⟨G',m',hS,_,hF,hle,hB,hO,hnew⟩:=hp;have hk:KeepO w w':=hF.keep (fun b q=>h.sim.data q);refine⟨G',m',hS,fun t=>?_,h.size,h.defers.keep hk,by rw[henv];exact E.Jkeep _ _ _ h.jok hk,fun i hi=>?_,h.frame.step hF (fun b hb q=>h.ownOld hb q) (fun b hb q=>h.ownOld hb q),fun i=>(h.base i).trans (hB i),fun x l b hi hl=>?_,h.noO,hown h.nxOk⟩
 ·rw[henv t];exact AV.Rep.mono hF.le hle _ _ (h.env t)
 ·exact(hO i (.inr hi)).none (h.fresh i (cx hnx hi))
 ·rcases hnew x l b hi hl with h1|h1
  ·exact .inl (cx h.frame.size h1)
  ·rcases dv b E.w0.heap.size with h2|h2
   ·exact .inr (h.ownOld h2 h1)
   ·exact .inl h2
def bGr(N:Nat)(xs:List AV)(env:Nat->AV):Nat->AV:=shE N env .any fun t=>xs.getD t .any
def aSz(N:Nat)(xs:List AV)(s:AState):AState:=s.withEnv (bGr N xs s.env)
def aB9(N:Nat)(s:AState):Nat->List AV
 |0=>[]
 |n+1=>aB9 N s n++[s.env (N+1+n)]
def xA(P:Program):List RCode->(AState->Prop)->(Exit->AState->Prop)->AState->Prop
 |[],K,_,s=>K s
 |rc::rcs,K,Q,s=>dX P iN rc (tQ (xA P rcs K Q) Q) s
def iY(P:Program)(fl:List Nat)(N:Nat):List Code->Option (List RCode)
 |[]=>some []
 |c::cs=>match aE P fl N c,iY P fl N cs with
  |some x,some y=>some (x::y)
  |_,_=>none
theorem aGb{P:Program}{fl:List Nat}{N:Nat}(hm:P.follows .mixedOrders=true){E:Ent}(hE:E.N=N){c:Code}{K:AState->Prop}{Q:Exit->AState->Prop}{R:Exit->Act->World->Prop}
  (hK:∀s a w,K s->ASim E s a w->c.wpIn (FR none) 0 P R a w) (hQ:∀e s a w,Q e s->ASim E s a w->R e a w):∀{cs:List Code} {rcs:List RCode} {s:AState} {a:Act} {w:World},iY P fl N cs=some rcs->xA P rcs K Q s->ASim E s a w->(cs.foldr Code.seq c).wpIn (FR none) 0 P R a w
 |[],rcs,s,a,w,hr,h,hA=>by
  unfold iY at hr;cases hr;exact hK s a w h hA
 |d::cs,rcs,s,a,w,hr,h,hA=>by
  unfold iY at hr;split at hr
  ·rename_i x y h1 h2;cases hr;subst hE;refine wpIn_seq ?_;refine wpIn_mono (aW hm h1 none iN E _ _ _ _ YOk.body rfl h hA) fun e a' w' ⟨s',hq,hA'⟩=>?_;cases e with
   |normal=>exact aGb hm rfl hK hQ h2 hq hA'
   |_=>exact hQ _ _ _ _ hq hA'
  ·cases hr
theorem aF7{r:Option Nat}{P:Program}{ops:Array Oper}{E:Ent}{Q:Exit->Act->World->Prop}{tl:List Oper}:∀{os:List Oper} {ros:List RO} {s:AState} {a:Act} {w:World} {K:AState->Prop},sQ P ops E.N os ros->iL P ros s K->ASim E s a w->
  (∀s' a' w',K s'->ASim E s' a' w'->wpListIn (FR r) 0 P ops Q tl a' w')->wpListIn (FR r) 0 P ops Q (os++tl) a w
 |[],[],s,a,w,K,_,h,hA,hQ=>hQ _ _ _ h hA
 |[],_::_,_,_,_,_,hr,_,_,_=>hr.elim
 |_::_,[],_,_,_,_,hr,_,_,_=>hr.elim
 |o::os,ro::ros,s,a,w,K,hr,h,hA,hQ=>
  vB (K:=fun s'=>iL P ros s' K) hr.1 h hA fun s' a' w' hK hA'=>aF7 hr.2 hK hA' hQ
theorem aL4{G:Gh}{m:HM}{N:Nat}{s:AState}{vs:List Value}(h:∀i v,vs[i]?=some v->AV.Rep G m (s.env (N+1+i)) v):∀k,k<=vs.length->AV.RepL G m (aB9 N s k) (vs.take k)
 |0,_=>by simp[aB9,AV.RepL]
 |k+1,hk=>by
  have h1:vs[k]?=some vs[k]:=by simp
  rw[List.take_add_one,h1];unfold aB9;refine AV.RepL_append (aL4 h k (by omega)) ?_;unfold AV.RepL;exact⟨_,_,rfl,h k _ h1,by unfold AV.RepL;rfl⟩
def aUu(l:List Oper):Option (List Oper×Oper):=match l.reverse with
 |od::r=>some (r.reverse,od)
 |[]=>none
theorem aN1{l:List Oper}{od:Oper}(h:aUu l=some (os,od)):l=os++[od]:=by
 unfold aUu at h;split at h
 ·rename_i x r e;cases h;have:=congrArg List.reverse e;simpa using this
 ·cases h
def bAg(P:Program)(fl:List Nat)(N:Nat)(ops:Array Oper):Option (List RO×FuncId×List Operand):=
 match aUu ops.toList with
 |some (os,od)=>match od.op with
  |.defer cl=>match cl.callee with
   |.value (.func g)=>if(od.guard.isNone&&od.dst.isNone&&cl.args.toList.all (Operand.inN N))=true then(dH P fl N ops os).map fun ros=>(ros,g,cl.args.toList)else none
   |_=>none
  |_=>none
 |none=>none
def bB7(P:Program)(fl:List Nat)(N:Nat):Code->Option (List RO×FuncId×List Operand)
 |.region _ ops false=>bAg P fl N ops
 |_=>none
def cY(P:Program)(fl:List Nat)(N:Nat):Code->Option (List RCode×List RO×FuncId×List Operand×RCode)
 |.seq a b=>match bB7 P fl N a with
  |some (ros,g,xs)=>(aE P fl N b).map fun rc=>([],ros,g,xs,rc)
  |none=>match aE P fl N a,cY P fl N b with
   |some x,some (rcs,r)=>some (x::rcs,r)
   |_,_=>none
 |_=>none
theorem aQk{g:FuncId}(h:bB7 P fl N c=some (ros,g,xs)):∃id ops os od cl,c=.region id ops false/\ops.toList=os++[od]/\od.op=.defer cl/\od.guard=none/\od.dst=none/\
  cl.callee=.value (.func g)/\cl.args.toList.all (Operand.inN N)=true/\dH P fl N ops os=some ros/\xs=cl.args.toList:=by
 unfold bB7 at h;split at h
 case h_2=>cases h
 rename_i id ops;unfold bAg at h;split at h
 case h_2=>cases h
 rename_i os od hl;split at h
 case h_2=>cases h
 rename_i cl hop;split at h
 case h_2=>cases h
 rename_i g' hc;rw[δ]at h;obtain⟨hb,h⟩:=h;rw[ζ]at h;obtain⟨ros',hr,e⟩:=h;cases e;simp only[μ,gn]at hb;exact⟨id,ops,os,od,cl,rfl,aN1 hl,hop,hb.1.1,hb.1.2,hc,hb.2,hr,rfl⟩
theorem vZ{P:Program}{fl:List Nat}{N:Nat}:∀{c:Code} {rcs:List RCode} {ros:List RO} {g:FuncId} {xs:List Operand} {rc:RCode},cY P fl N c=some (rcs,ros,g,xs,rc)->
  ∃cs id ops os od cl rest,c=cs.foldr Code.seq (.seq (.region id ops false) rest)/\iY P fl N cs=some rcs/\ops.toList=os++[od]/\od.op=.defer cl/\od.guard=none/\od.dst=none/\
  cl.callee=.value (.func g)/\cl.args.toList.all (Operand.inN N)=true/\dH P fl N ops os=some ros/\xs=cl.args.toList/\aE P fl N rest=some rc
 |.seq a b,rcs,ros,g,xs,rc,h=>by
  unfold cY at h;split at h
  ·rename_i ros' g' xs' hd;rw[ζ]at h;obtain⟨rc',hr,e⟩:=h;cases e;obtain⟨id,ops,os,od,cl,rfl,h1,h2,h3,h4,h5,h6,h7,h8⟩:=aQk hd;exact⟨[],id,ops,os,od,cl,b,rfl,rfl,h1,h2,h3,h4,h5,h6,h7,h8,hr⟩
  ·split at h
   case h_2=>cases h
   rename_i x rcs' r' hx hD;cases h;obtain⟨cs,id,ops,os,od,cl,rest,rfl,h0,hrest⟩:=vZ hD;exact⟨a::cs,id,ops,os,od,cl,rest,rfl,by unfold iY;rw[hx,h0],hrest⟩
 |.skip,_,_,_,_,_,h=>by unfold cY at h;cases h
 |.region ..,_,_,_,_,_,h=>by unfold cY at h;cases h
 |.cond ..,_,_,_,_,_,h=>by unfold cY at h;cases h
 |.block ..,_,_,_,_,_,h=>by unfold cY at h;cases h
 |.loop ..,_,_,_,_,_,h=>by unfold cY at h;cases h
 |.exit ..,_,_,_,_,_,h=>by unfold cY at h;cases h
 |.scope ..,_,_,_,_,_,h=>by unfold cY at h;cases h
 |.ret,_,_,_,_,_,h=>by unfold cY at h;cases h
 |.rangeFunc ..,_,_,_,_,_,h=>by unfold cY at h;cases h
 |.label ..,_,_,_,_,_,h=>by unfold cY at h;cases h
 |.goto ..,_,_,_,_,_,h=>by unfold cY at h;cases h
 |.refuse ..,_,_,_,_,_,h=>by unfold cY at h;cases h
def AOut(P:Program)(f:FuncId)(args:List AV)(pv:Value):Option (AV×List Blk)->Prop
 |some p=>ACall P f args [] p.1 [] p.2
 |none=>aJy P f args pv
theorem aW2{P:Program}(h0:E.w0=w)(h1:E.G0=G)(h2:E.m0=m)(hN:E.N=N)(hS:Sim G m (fK bs []) w){G1:Gh}{m1:HM}(hA':AtS E G1 m1 s a' w')
  (hn:bs.length=n) (hbs:((dm n).map fun i=>(s.bs i).map (Blk.conv s.lk (phi [])))=bs'):nO w G m (fK bs' []) .any undef w':=by subst hn;obtain⟨v,_,G2,m2,a1,a2,a3,a4,a5,a6⟩:=wY (P:=P) (fn:={(default:Func)with ntmps:=N,results:=#[]}) (rs:=[]) (r:=.tup []) (bs':=bs') (nbs:=[]) ⟨fun x hx=>by simp at hx,rfl⟩ h0 h1 h2 hN hS hA' (e:=.ret) ⟨.inr rfl,[],.tup [],List.nodup_nil,rfl,rfl,hbs,rfl⟩;exact⟨G2,m2,a1,aCy,a3,a4,a5,a6⟩
def DRec(P:Program)(f:FuncId)(args:List AV)(bs:List (Option Blk))(u u1:FrameMode)(bs':List (Option Blk)):Prop:=
 aTn P f/\∀(w:World) (G:Gh) (m:HM) (vs:Array Value),Sim G m (fK bs []) w->(∀i,m (.O i)=none)->AV.RepL G m args vs.toList->
  CallsDIn (FR none) 0 P f vs u w fun e u' w'=>u'=u1/\∃v,e=.returned v/\nO w G m (fK bs' []) .any v w'
def aOz(u u1:FrameMode)(pv:Value):Prop:=∀(c0:Frame) (cs:List Frame),c0.mode=u->(recoverD (c0::cs)=none/\pv=.nilIface/\u1=u)\/recoverD (c0::cs)=some (pv,{c0 with mode:=u1}::cs)
theorem aP9:aOz .returning .returning .nilIface:=fun c0 cs h=>.inl ⟨by simp[recoverD,h],rfl,rfl⟩
theorem aQ5:aOz (.panicking [{v:=pv,recovered:=false}]) (.panicking [{v:=pv,recovered:=true}]) pv:=fun c0 cs h=>.inr (by simp[recoverD,h])
def aT2(args:List AV)(bs:List (Option Blk))(t:Nat)(v:Value):AState:=(entry args bs).put (some t) (.D (.C v)) [] []
theorem DRec.of_body(fl:List Nat){f:FuncId}{cl:Call}{rest:Code}{u1:FrameMode}{r:AV}
  (hf:P.funcs[f]?=some fn) (hb:fn.body=some (.seq (.region id #[o] false) rest)) (hname:(fn.name== "runtime.NumGoroutine")=false)
  (ho:o.op=.call cl) (hcl:cl.callee=.builtin .recover) (hca:cl.args=#[]) (hog:o.guard=none) (hot:o.dst=some t) (ht:t<fn.ntmps) (hm:P.follows .mixedOrders=true) (hrc:aE P fl fn.ntmps rest=some rc) (hrs:cG P fn.ntmps fn.results.toList=some rs)
  (hn:args.length<=fn.ntmps) (hrec:aOz u u1 pv) (hw0:Wk (aT2 args bs t pv) s0) (h:dX P iN rc (mJ bs.length rs r bs' []) s0):DRec P f args bs u u1 bs':=by
 have hrs0:=yW hrs;refine⟨⟨fn,hf,by rw[hb];rfl,hname⟩,fun w G m vs hS hO hA=>callsDIn_of_wpSIn hf hb (lP none f) fun c0 cs hu=>?_⟩;refine wpSIn_seq (wpSIn_region ?_);have hnd:∀c,o.op≠.defer c:=fun c e=>by rw[ho]at e;cases e
 have hrun:∀ρ:Operand->Value,(execOp ρ o).run P w=.ok .recover w:=fun ρ=>by simp[execOp,ho,resolve,hcl,hca,invoke,builtin]
 have hent:=pV true hn hS hO hA;have hsim:∀pv',pv'=pv->ASim {w0:=w,G0:=G,m0:=m,N:=fn.ntmps,nd:=true:Ent} (aT2 args bs t pv) (({tmps:=vs++fj (fn.ntmps-vs.size) undef,defers:=[]}:Act).put (some t) pv') w:=fun pv' e=>by subst e;exact hent.step (dst:=some t) (fun d hd=>by cases hd;exact ht) (PPost.val hent.sim (by unfold AV.Rep DV.Rep;rfl))
 have key:∀(a:Act),ASim {w0:=w,G0:=G,m0:=m,N:=fn.ntmps,nd:=true:Ent} (aT2 args bs t pv) a w->∀cs1,cs1={c0 with mode:=u1}::cs->rest.wpSIn (FR none) 0 P (bodyPostS P fn c0 cs fun e u' w'=>u'=u1/\∃v,e=.returned v/\nO w G m (fK bs' []) .any v w') a cs1 w:=fun a ha cs1 hcs=>by
  refine wpSIn_of_wpIn rfl (wpIn_mono (aW hm hrc none iN _ _ _ _ _ YOk.body rfl h (hw0 _ _ _ ha)) fun e a' w' ⟨s00,⟨s,hw,hq⟩,hA0⟩=>?_);obtain⟨G1,m1,hA'⟩:=hw _ _ _ hA0;obtain⟨v,hv,hp⟩:=wY hrs0 rfl rfl rfl rfl hS hA' hq;have hd:a'.defers=[]:=(jC.1 hA'.defers).2.2 rfl;have hp':nO w G m (fK bs' []) .any v w':=by obtain⟨G2,m2,a1,_,a3⟩:=hp;exact⟨G2,m2,a1,aCy,a3⟩
  rcases hq.1 with rfl|rfl<;>exact⟨hd,u1,hcs,v,hv,rfl,v,rfl,hp'⟩
 have hab:∀f',o.about P w (({tmps:=vs++fj (fn.ntmps-vs.size) undef,defers:=[]}:Act).eval)=some f'->(FR none).fn f':=fun f' _=>lP none f';have hw:Region.wanted o (yielded #[o] (vs++fj (fn.ntmps-vs.size) undef))=true:=by simp[Region.wanted,hog]
 show wpOpsSIn _ _ _ #[o] _ [0] _ _ _;unfold wpOpsSIn;simp only[List.getElem?_toArray,List.getElem?_cons_zero];refine⟨hab,?_⟩;rw[if_pos hw,hrun];rcases hrec c0 cs hu with⟨h1,h2,h3⟩|h1
 ·rw[h1];simp only;unfold wpOpsSIn;refine key _ ?_ _ ?_
  ·rw[hot];exact hsim _ h2.symm
  ·rw[h3,<-hu]
 ·rw[h1];simp only;unfold wpOpsSIn;refine key _ ?_ _ rfl;rw[hot];exact hsim _ rfl
theorem wI{P:Program}{fn:Func}{E:Ent}{G:Gh}{m:HM}{s:AState}{R:Ending->World->Prop}{tmps:Array Value}{u:FrameMode}(hu:u≠.run):∀(ms:List Deferred) (w:World),AtS E G m s {tmps:=tmps,defers:=ms++E.dt} w->Marks (E.w0.heap.size+E.sk) E.nd ms w->
  (∀w',AtS E G m s {tmps:=tmps,defers:=E.dt} w'->LeavesInM (FR none) 0 P fn tmps R E.dt u w')->LeavesInM (FR none) 0 P fn tmps R (ms++E.dt) u w
 |[],w,h,_,hR=>hR w h
 |d::ms,w,h,hM,hR=>by
  obtain⟨r,rfl,hr1,hr2⟩:=hM.1 d (by simp);have hnd:=hM.2.1;have hM':Marks (E.w0.heap.size+E.sk) E.nd ms (w.putObj r (.deferred none)):=by refine⟨fun d' hd'=>?_,(eq.1 hnd).2,fun e=>by have:=hM.2.2 e;cases this⟩;obtain⟨r',rfl,q1,q2⟩:=hM.1 d' (by simp[hd']);refine⟨r',rfl,q1,?_⟩;rw[World.putObj_heap_other (fun e=>(eq.1 hnd).1 (by subst e;exact hd'))];exact q2
  refine⟨hu,.inl ⟨r,w.putObj r (.deferred none),rfl,run_takeDeferred hr2,wI hu ms _ ?_ hM' hR⟩⟩;exact⟨h.sim.putObj hr2 rfl,h.env,h.size,⟨ms,rfl,hM'⟩,E.Jput _ _ _ _ h.jok hr1,h.fresh,h.frame.putObj (cx (ge _ _) hr1),h.base,h.own,h.noO,h.nxOk⟩
def aPt(P:Program)(N n:Nat)(g:FuncId)(k:Nat)(rs:List RRes)(r:AV)(bs':List (Option Blk))(nbs:List Blk):Exit->AState->Prop:=fun e s=>
 ∃u u1,(((e=.normal\/e=.ret)/\u=.returning/\u1=.returning)\/∃pv,e=.panic [{v:=pv,recovered:=false}]/\u=.panicking [{v:=pv,recovered:=false}]/\u1=.panicking [{v:=pv,recovered:=true}])/\
  ∃hs bs2,hs.Nodup/\aFw s.nx hs=true/\(∀h∈hs,(s.lk h).any Blk.isIt=false)/\bs2.length=hs.length/\
  DRec P g (AV.convL s.lk (vU hs) (aB9 N s k)) (pQ s.lk hs) u u1 bs2/\mJ n rs r bs' nbs .ret (eE s hs (aB9 N s k) none .any bs2 [])
theorem ACall.of_bodyDR(fl:List Nat){f:FuncId}(cs:List Code){od:Oper}{cl:Call}{g:FuncId}{rest:Code}{r:AV}
  (hf:P.funcs[f]?=some fn) (hb:fn.body=some (cs.foldr Code.seq (.seq (.region id ops false) rest))) (hname:(fn.name== "runtime.NumGoroutine")=false) (hm:P.follows .mixedOrders=true)
  (hcs:iY P fl fn.ntmps cs=some rcs) (hops:ops.toList=os++[od]) (hod:od.op=.defer cl) (hog:od.guard=none) (hdst:od.dst=none) (hcl:cl.callee=.value (.func g)) (hxs:cl.args.toList.all (Operand.inN fn.ntmps)=true)
  (hos:dH P fl fn.ntmps ops os=some ros) (hrest:aE P fl fn.ntmps rest=some rc) (hrs:cG P fn.ntmps fn.results.toList=some rs)
  (hn:args.length<=fn.ntmps) (hw0:Wk (entry args bs) s0) (h:xA P rcs (fun s=>iL P ros s fun s'=>dX P iN rc (aPt P fn.ntmps bs.length g cl.args.size rs r bs' nbs) (aSz fn.ntmps (cl.args.toList.map s'.ev) s')) (mJ bs.length rs r bs' nbs) s0):ACall P f args bs r bs' nbs:=by
 have hrs0:=yW hrs;refine fun w G m vs hS hO hA=>.inl ⟨⟨fn,hf,by rw[hb];rfl,hname⟩,aAg (r:=none) (n:=0) (callsIn_of_wp_marks hf hb (lP none f) ?_)⟩;have hent:=pV true hn hS hO hA;refine aGb hm (N:=fn.ntmps) rfl (fun s a1 w1 hK hA1=>?_) (fun e s a1 w1 hq hA1=>?_) hcs h (hw0 _ _ _ ⟨G,m,hent⟩)
 ·refine wpIn_seq (wpIn_region_list ?_);rw[hops];refine aF7 (iA hos) hK hA1 fun s' a2 w2 hq ⟨G2,m2,hA2⟩=>?_;unfold wpListIn;rw[if_pos (by simp[Region.wanted,hog])];unfold Oper.wpIn;refine⟨fun f' _=>lP none f',?_⟩;rw[aU5,Oper.semAt_none];have hexec:(execOp a2.eval od).run P w2=.ok (.defer {target:=.fn (.func g) #[],args:=cl.args.map a2.eval}) w2:=by simp only[execOp,hod,resolve,hcl,Deferred.ofValue,Act.eval,Sem.run_bind];simp
  rw[hexec,Oper.uponIn_defer,hdst];unfold wpListIn;show Exit.then _ _ .normal _ _;show rest.wpIn _ _ _ _ _ _;have hd0:a2.defers=[]:=(jC.1 hA2.defers).2.2 rfl;obtain⟨d,hd⟩:∃d:Deferred,d={target:=.fn (.func g) #[],args:=cl.args.map a2.eval}:=⟨_,rfl⟩;have hrl:AV.RepL G2 m2 (cl.args.toList.map s'.ev) d.args.toList:=by rw[hd,eu];exact AV.RepL_map fun x hx=>hA2.evs x (di.1 hxs x hx)
  let E2:Ent:={w0:=w,G0:=G,m0:=m,N:=fn.ntmps,cv:=aN5 fun i=>d.args.toList.getD i undef,dt:=[d]};have hE2v:∀a t,E2.val a (fn.ntmps+1+t)=d.args.toList.getD t undef:=fun a t=>aWq (E:=E2) (f:=fun i=>d.args.toList.getD i undef) rfl t;have hA3:AtS E2 G2 m2 (aSz fn.ntmps (cl.args.toList.map s'.ev) s') {a2 with defers:=d::a2.defers} w2:=by
   refine hA2.turn (E':=E2) _ rfl rfl rfl hA2.sim hA2.frame (aW8 (N:=fn.ntmps) (v:=E2.val _) (fun t ht=>?_) aCy fun t=>?_) hA2.size ⟨[],by rw[hd0];rfl,Marks.nil⟩ trivial
   ·have:=hA2.env t;rw[Ent.val_lt ht]at this;rw[Ent.val_lt (E:=E2) ht];exact this
   ·rw[hE2v];rw[bk,bk];cases h1:(cl.args.toList.map s'.ev)[t]?with
    |none=>exact aCy
    |some x=>
     obtain⟨v,h2,h3⟩:=AV.RepL_get hrl h1;rw[h2];exact h3
  rw[<-hd];refine wpIn_mono (aW hm hrest none iN E2 _ _ _ _ YOk.body rfl hq ⟨G2,m2,hA3⟩) fun e a' w' ⟨s,hq,G1,m1,hA1⟩=>?_;obtain⟨u,u1,he,hs,bs2,hnd,hok,hits,hlen,hcall,hend⟩:=hq;obtain⟨tmps,ds⟩:=a';obtain⟨ms,e1,hM⟩:=hA1.defers;have e1:ds=ms++E2.dt:=e1;subst e1;obtain⟨fd,hfd,hbd,hnm⟩:=hcall.1;have hset:settle u1=.returning:=by rcases he with⟨_,_,rfl⟩|⟨pv,_,_,rfl⟩<;>rfl
  have hur:u≠.run:=by rcases he with⟨_,rfl,_⟩|⟨pv,_,rfl,_⟩<;>(intro e;cases e)
  have key:LeavesInM (FR none) 0 P fn tmps (fun e w'=>∃v,e=.returned v/\nO w G m (fK bs' nbs) r v w') (ms++E2.dt) u w':=by
   refine wI (E:=E2) hur ms w' hA1 hM fun w4 h4=>?_;refine⟨hur,.inr ⟨fun hd=>by simp[FR,Fence.wide]at hd,.func g,#[],g,d.args,by rw[hd],?_,fun f' _=>lP none f',?_⟩⟩
   ·rw[hd];have hnone:fd.body.isNone=false:=by cases hb2:fd.body<;>rw[hb2]at hbd<;>simp_all
    simp only[invoke,callFunc,Sem.run_bind,run_program,hfd,hnm,hnone,fg,if_false,Result.andThen_ok];simp
   ·obtain⟨c1,c2,c3,c4⟩:=aGh (s:=s) (dst:=none) (vals:=aB9 fn.ntmps s cl.args.size) (r:=.any) (nbs:=[]) hnd hok hits hlen;have hrep4:AV.RepL G1 m1 (aB9 fn.ntmps s cl.args.size) d.args.toList:=by
     have:=aL4 (G:=G1) (m:=m1) (N:=fn.ntmps) (s:=s) (vs:=d.args.toList) (fun i v hi=>by
      have:=h4.env (fn.ntmps+1+i);rw[hE2v,bk,hi]at this;exact this) cl.args.size (by rw[hd];simp)
     rwa[List.take_of_length_le (by rw[hd];simp)]at this
    obtain⟨G3,m3,hS3,hO3,hr3,hpost⟩:=c4 G1 m1 w4 d.args h4.sim hrep4 (fun j hj _=>h4.fresh j hj);refine(hcall.2 w4 G3 m3 d.args hS3 hO3 hr3).mono ?_;rintro e u' w5 ⟨hu',v,rfl,hp⟩;have hA5:AtS {w0:=w,G0:=G,m0:=m,N:=fn.ntmps,cv:=aN5 fun i=>d.args.toList.getD i undef:Ent} G1 m1 s {tmps:=tmps,defers:=[]} w4:=
     ⟨h4.sim,h4.env,h4.size,jC.2 Marks.nil,trivial,h4.fresh,h4.frame,h4.base,h4.own,trivial,h4.nxOk⟩
    obtain⟨s6,hw6,hq6⟩:=hend;obtain⟨G6,m6,hA6⟩:=hw6 _ _ _ (hA5.epost (fun t=>c1 t (by simp)) c2 c3 (hpost v w5 hp));obtain⟨v6,hv6,hp6⟩:=wY hrs0 rfl rfl rfl rfl hS hA6 hq6;show LeavesInM _ _ _ _ _ _ [] (settle u') _;rw[hu',hset];exact⟨v6,hv6,v6,rfl,hp6⟩
  rcases he with⟨rfl|rfl,rfl,_⟩|⟨pv,rfl,rfl,_⟩<;>exact key
 ·obtain⟨s',hw,hq⟩:=hq;obtain⟨G1,m1,hA'⟩:=hw _ _ _ hA1;have key:∀w',AtS {w0:=w,G0:=G,m0:=m,N:=fn.ntmps,nd:=true:Ent} G1 m1 s' {tmps:=a1.tmps,defers:=[]} w'->∃v,(results fn a1.tmps).run P w'=.ok v w'/\∃v',Ending.returned v=.returned v'/\nO w G m (fK bs' nbs) r v' w':=fun w' hA'=>by obtain⟨v,hv,hp⟩:=wY hrs0 rfl rfl rfl rfl hS hA' hq;exact⟨v,hv,v,rfl,hp⟩
  rcases hq.1 with rfl|rfl<;>exact wJ rfl a1.defers w1 hA' key
theorem ACall.of_bodyRR(fl:List Nat){f:FuncId}{g:FuncId}{r:AV}
  (hf:P.funcs[f]?=some fn) (hb:fn.body=some c) (hname:(fn.name== "runtime.NumGoroutine")=false) (hm:P.follows .mixedOrders=true)
  (hrc:cY P fl fn.ntmps c=some (rcs,ros,g,xs,rc)) (hrs:cG P fn.ntmps fn.results.toList=some rs)
  (hn:args.length<=fn.ntmps) (hw0:Wk (entry args bs) s0) (h:xA P rcs (fun s=>iL P ros s fun s'=>dX P iN rc (aPt P fn.ntmps bs.length g xs.length rs r bs' nbs) (aSz fn.ntmps (xs.map s'.ev) s')) (mJ bs.length rs r bs' nbs) s0):ACall P f args bs r bs' nbs:=by obtain⟨cs,id,ops,os,od,cl,rest,rfl,h0,h1,h2,h3,h4,h5,h6,h7,rfl,h8⟩:=vZ hrc;exact ACall.of_bodyDR fl cs hf hb hname hm h0 h1 h2 h3 h4 h5 h6 h7 h8 hrs hn hw0 (by simpa using h)
end Go.Eng

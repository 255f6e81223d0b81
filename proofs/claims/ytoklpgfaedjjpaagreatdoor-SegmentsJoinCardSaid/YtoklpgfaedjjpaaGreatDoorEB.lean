/- Texts of this claim. -/
import Derived.Test.YtoklpgfaedjjpaaGreatDoorEA
import Derived.ChangeKeysEq
import Derived.Lib.ConvBytes
import Derived.WideLaws
import Derived.Laws.IdiomRangeMap
import Derived.Laws.MakeOwn
import Derived.RangeFuncRecord
import Derived.RangeFuncSeq
import Derived.TacticsIn
import Derived.OrdersIn
import Derived.Scope
open Array renaming getD_eq_getD_getElem?->aaA,getElem!_eq_getD->acZ,getElem?_eq_getElem->ab8,getElem?_eq_some_iff->aad,getElem?_map->adw,getElem?_range->ac9,getElem?_toList->aaj,length_toList->aby,range->acD,toArray_toList->aaL,toList_append->abj,toList_extract->abB,toList_inj->ach,toList_map->abm
open Bool renaming and_eq_true->μ,not_eq_true'->aaY
open List renaming all_cons->acQ,all_eq_true->aa1,append_assoc->π,append_nil->aag,drop_append->acI,drop_drop->abe,drop_succ_cons->acO,exists_mem_of_ne_nil->acN,extract_eq_take_drop->abT,flatten_cons->acx,getElem?_append_left->aak,getElem?_append_right->aal,getElem?_cons_zero->abA,getElem?_drop->abg,getElem?_eq_getElem->ν,getElem?_eq_none->aay,getElem?_eq_some_iff->υ,getElem?_inj->acz,getElem?_map->aac,getElem?_of_mem->aaK,getElem?_range->adk,getElem?_take_of_lt->aaH,getElem?_toArray->abV,length_append->ε,length_drop->aat,length_eq_zero_iff->aas,length_map->κ,length_pos_iff->adl,length_replicate->aaX,map_cons->aaM,mem_append_left->abp,mem_append_right->abi,mem_cons->ω,mem_filter->ξ,mem_map->aaS,mem_of_getElem?->aar,mem_of_mem_take->abZ,mem_singleton->aai,nil_append->aa8,nodup_cons->abk,range->abc,replicate->aae,size_toArray->acy,take_append_drop->aa2,take_succ_cons->ab4,take_take->acG,zipWith->abr
open Nat renaming add_assoc->ab6,add_comm->acY,add_mul->aaW,add_sub_cancel_left->aaP,add_zero->abt,eq_zero_or_pos->aa0,le_add_right->abJ,le_mul_of_pos_right->acV,le_refl->me,le_trans->aaG,lt_of_lt_of_le->aa6,min_eq_left->abw,mod_lt->ace,mul_le_mul_right->aaF,mul_one->aaN,zero_add->aan
open Option renaming any_eq_true->adv,bind_eq_some_iff->η,isSome_iff_exists->aa5,ite_none_left_eq_some->acq,ite_none_right_eq_some->ζ,map_eq_some_iff->ι,map_some->aaZ
set_option linter.all false
namespace Go.Eng
open Go.RowKit
variable{G G':Gh}{w w':World}{m:HM}{x y:Operand}{e T t u yT ty src:TypeId}{k n b off sz sLen sCap B:Nat}{v z:Value}{i inf:TypeInfo}{dst r:Option Nat}{P:Program}{a:Act}{h hd:Hd}{d:TypeDesc}{o:Oper}{c:Call}{ys es:List (List DV)}{op:BinOp}{kd:KD}{ro:bu}{f:Nat->Option Value}{lkf:bJ}{xs:List Operand}{og oh:Nat->Prop}{nd:Bool}{nbs:List bn}{news A us:List Value}{ψ:Hd->Hd}{ρ:Operand->Value}{fs:Array Field}{ks:List IntKind}{bl:bn}{ds:List Deferred}{fz:List Hd}{vs olds args:Array Value}{ps:Array (Nat×Operand)}{lo hi:Option Operand}{kn:IntKind}{R:Ending->World->Prop}{cs:List Frame}
theorem bj.AK{lk:bJ}{a:AV}(hS:cf G m lk w)(ob:Obj)(h:AV.aq G m a v):bj G m lk n a [] [] w v (w.alloc ob):=
 ⟨G,m,by rw[iL,eD];exact hS.alloc ob,h,Fr.alloc _,fun _ _=>rfl,fun j _ _ hj=>by simp at hj⟩
theorem Ib{k:Nat}:∀(cs:List (List Value)) (s:Nat) (pre rest:List Value),(∀c∈cs,c.length=k)->pre.length=s*k->rest.length=cs.length*k->
  xq (pre++rest) ((cs.zipIdx s).map fun p=>(p.2*k,p.1))=pre++cs.flatten
 |[],s,pre,rest,_,_,hr=>by
  have:rest=[]:=by simpa using hr
  subst this;simp[xq]
 |c::cs,s,pre,rest,hc,hp,hr=>by
  have hck:=hc c (by simp);simp only[List.zipIdx_cons,aaM,xq];have e1:(pre++rest).take (s*k)=pre:=by rw[<-hp];simp
  have e2:(pre++rest).drop (s*k+c.length)=rest.drop k:=by rw[acI,hp,hck,List.drop_eq_nil_of_le (by omega),aa8];congr 1;omega
  rw[e1,e2];rw[Ib cs (s+1) (pre++c) (rest.drop k) (fun d hd=>hc d (by simp[hd])) (by simp[hp,hck,aaW]) (by
   rw[aat,hr];simp[aaW])]
  simp
section
variable{P:Program}{o:Oper}{lk:bJ}{n:Nat}{ev:Operand->AV}{K:AV->List bn->List Hd->Prop}
theorem vV{G:Gh}{m:HM}{lkf:bJ}{w:World}{ρ:Operand->Value}{k:Nat}(hS:cf G m lkf w)(hs:∀h mt k es,lk h=some (.row mt k es)->∃mt',lkf h=some (.row mt' k es)):
  ∀{xs:List Operand} {es:List (List DV)},uI lk ev k xs=some es->(∀x∈xs,AV.aq G m (ev x) (ρ x))->
   (∀h∈gO ev xs,(lk h).isSome=true->∀mt k es,lkf h=some (.row mt k es)->mt=false)->
   (∀x∈xs,(ρ x).cells.size=k)/\es.length=xs.length/\
   ∀(f:Nat->Option Value) (off:Nat),(∀i,i<((xs.map fun x=>(ρ x).cells.toList).flatten).length->f (off+i)=((xs.map fun x=>(ρ x).cells.toList).flatten)[i]?)->DV.rows G f k off es
 |[],es,h,_,_=>by
  unfold uI at h;cases h;exact⟨fun x hx=>by simp at hx,rfl,fun f off _=>by simp[DV.rows]⟩
 |x::xs,es,h,hev,hfz=>by
  unfold uI at h;cases h1:((ev x).cells?).bind fun cs=>AV.data (AV.bq lk (fun _=>none) cs)with
  |none=>rw[h1]at h;cases h
  |some e=>
   cases h2:uI lk ev k xs with
   |none=>rw[h1,h2]at h;cases h
   |some es'=>
    rw[h1,h2]at h;simp only at h;split at h
    case isFalse=>cases h
    rename_i hek;cases h;simp only[η]at h1;obtain⟨cs,hcs,hd⟩:=h1;have hx:=hev x (by simp);have hrep:=(AV.fq hcs hx).1;have hrows:∀h∈AV.cm cs,h∈AV.rows (ev x):=fun h hh=>by
     unfold AV.cells? at hcs;split at hcs
     ·split at hcs
      ·cases hcs;rename_i e _;rw[e];unfold AV.rows;exact hh
      ·cases hcs
     ·split at hcs
      ·cases hcs;simpa[AV.cm]using hh
      ·cases hcs
    have hconv:=AV.ef (mc:=m) (lk:=lk) (φ:=fun _=>none) hS hs (fun h h' loc hh=>by cases hh) cs _ (fun h hh mt k' es'' _ hsome hl=>hfz h (by unfold gO;exact abp _ (hrows h hh)) hsome mt k' es'' hl) hrep;obtain⟨ih1,ih2,ih3⟩:=vV hS hs h2 (fun y hy=>hev y (by simp[hy])) (fun h hh=>hfz h (by unfold gO;exact abi _ hh));have hlen:(ρ x).cells.size=k:=by
     have h3:=AV.cd hconv;have h4:e.length=(AV.bq lk (fun _=>none) cs).length:=by
      clear h2 ih1 ih2 ih3 hconv h3 hrep hrows hfz hev hx hcs hek;generalize AV.bq lk (fun _=>none) cs=l at hd
      induction l generalizing e with
      |nil=>unfold AV.data at hd;cases hd;rfl
      |cons a l ih=>
       cases a<;>unfold AV.data at hd<;>first|cases hd|skip
       simp only[ι]at hd;obtain⟨e',he',rfl⟩:=hd;simp[ih e' he']
     rw[<-hek,h4,h3];simp
    refine⟨fun y hy=>?_,by simp[ih2],fun f off hf=>?_⟩
    ·rcases ω.1 hy with rfl|hy
     ·exact hlen
     ·exact ih1 y hy
    ·unfold DV.rows;simp only[aaM,acx,ε]at hf;have hl':(ρ x).cells.toList.length=k:=by simpa using hlen
     refine⟨hek,AV.jd hconv hd f off (fun j hj=>?_),ih3 f (off+k) (fun i hi=>?_)⟩
     ·rw[hf j (by omega),aak hj]
     ·have:=hf (k+i) (by omega);rw[aal (by omega),hl',aaP]at this;rw[ab6];exact this
theorem SO{T:Nat}(ho:o.op=.buildSlice T k ps)(hr:aA P o=some ro)(h:aY P lk n ev ro K):PS P o ro lk n ev K:=by
 simp only[aA,ho]at hr;split at hr
 case h_2=>cases hr
 rename_i e hT;simp only[η]at hr;obtain⟨i,hi,hr⟩:=hr;split at hr
 case isFalse=>cases hr
 rename_i hc;cases hr;simp only[μ,beq_iff_eq,decide_eq_true_eq]at hc;obtain⟨⟨⟨hc1,hc2⟩,hc3⟩,hc4⟩:=hc;obtain⟨z,hz⟩:=aa5.1 hc4;have hk:k=ps.size:=by have:=congrArg List.length hc1;simpa using this.symm
 have h':(if ps.toList.map (·.2)=[]then K (.fl []) [] []else∃es,uI lk ev i.size (ps.toList.map (·.2))=some es/\K (.sl (.O n) i.size 0 (ps.toList.map (·.2)).length) [.row true i.size es] (ja lk (gO ev (ps.toList.map (·.2))))):=h;clear h;split at h'
 ·
  rename_i hnil;have hps:ps=#[]:=by
   have:ps.toList=[]:=by simpa using hnil
   rw[<-aaL (xs:=ps),this]
  subst hps;have hk0:k=0:=by simpa using hk
  subst hk0;refine⟨_,_,_,h',by first|exact fun _=>⟨rfl,rfl⟩|(intro hh;cases hh),(by intro h hh;first|(cases hh;done)|exact(ξ.1 hh).2|(split at hh<;>first|exact(ξ.1 hh).2|cases hh)),fun G m w ρ _ lk2 hls hS hev _=>?_⟩;refine bp.val (v:=.slice (some ⟨w.heap.size,0,none⟩) 0 0) (w':=w.alloc (.cells #[] e)) ?_ (bj.AK hS _ ?_)
  ·simp[execOp,ho,Instr.buildSlice,run_underlying hT,cO hi,Instr.fill,newRow,Array.range_zero']
  ·unfold AV.aq;refine⟨?_,_,rfl⟩;unfold DV.aq;exact⟨_,0,rfl,by simp,fun _=>rfl,fun h=>absurd rfl h⟩
 ·rename_i hne;obtain⟨es,hes,hK⟩:=h';refine⟨_,_,_,hK,by first|exact fun _=>⟨rfl,rfl⟩|(intro hh;cases hh),(by intro h hh;first|(cases hh;done)|exact(ξ.1 hh).2|(split at hh<;>first|exact(ξ.1 hh).2|cases hh)),fun G m w ρ _ lk2 hls hS hev hn=>?_⟩;have hzc:∀x∈ps.toList.map (·.2),AV.aq G m (ev x) (ρ x):=fun x hx=>hev x (by simpa[bu.operands]using hx);have hkpos:0<k:=by
   rw[hk];rcases aa0 ps.size with h0|h0
   ·exfalso;apply hne;have:ps=#[]:=by simpa using h0
    subst this;rfl
   ·exact h0
  let css:List (List Value):=(ps.toList.map (·.2)).map fun x=>(ρ x).cells.toList;have hsize:∀x∈ps.toList.map (·.2),(ρ x).cells.size=i.size:=by
   obtain⟨G1,hS1,hle1,_⟩:=hS.freeze (ja lk (gO ev (ps.toList.map (·.2))));exact(vV (ρ:=ρ) hS1 (fun h mt k es hh=>by
    obtain⟨mt',h2⟩:=(hls rfl).row h mt k es hh;unfold fo;split
    ·exact⟨false,by rw[h2];rfl⟩
    ·exact⟨mt',h2⟩) hes (fun x hx=>AV.aq.mono hle1 (HM.le.refl m) _ _ (hzc x hx)) (fun h hh hsome mt k es hrow=>by
    unfold fo at hrow;rw[if_pos (zm hh hsome)]at hrow;cases hx:lk2 h with
    |none=>rw[hx]at hrow;cases hrow
    |some bl=>
     rw[hx]at hrow;cases bl with
     |box cs=>cases hrow
     |row mt' k' es'=>cases hrow;rfl
     |nst _ _=>cases hrow
     |sb _ _ _=>cases hrow
     |mp _ _ _=>cases hrow
     |it=>cases hrow)).1
  have hzs:(acD (k*i.size)).map (z.cells[· %z.cells.size]!)=((acD (k*i.size)).map (z.cells[· %z.cells.size]!)):=rfl;let base:Array Value:=(acD (k*i.size)).map (z.cells[· %z.cells.size]!);have hbase:base.toList.length=k*i.size:=by simp[base]
  let rs:List (Nat×List Value):=(css.zipIdx 0).map fun p=>(p.2*i.size,p.1);have hcssl:css.length=k:=by simp[css,hk]
  have hparts:∀(j i':Nat) (v:Value),(ps.map fun(i,x)=>(i,ρ x)).toList[j]?=some (i',v)->i'=j/\j<k/\css[j]?=some v.cells.toList/\v.cells.size=i.size:=fun j i' v hj=>by
   rw[abm,aac]at hj;cases hx:ps.toList[j]?with
   |none=>rw[hx]at hj;cases hj
   |some p=>
    rw[hx]at hj;obtain⟨i2,x⟩:=p;simp only[aaZ,Option.some.injEq,Prod.mk.injEq]at hj;obtain⟨rfl,rfl⟩:=hj;have hlt:=(υ.1 hx).1;have h1:(abc k)[j]?=some i2:=by rw[<-hc1,aac,hx];rfl
    have hlt':j<k:=by rw[hk];simpa using hlt
    rw[adk hlt']at h1;cases h1;refine⟨rfl,hlt',by simp[css,hx],hsize x ?_⟩;exact aaS.2 ⟨_,aar hx,rfl⟩
  obtain⟨out,ho1,ho2⟩:=yP (fun j=>some (j*i.size,i.size)) (ps.map fun(i,x)=>(i,ρ x)).toList base rs (by simp[rs,hcssl,hk]) (fun j i' v hj=>by
   obtain⟨rfl,h1,h2,h3⟩:=hparts j i' v hj;refine⟨i'*i.size,?_,by rw[h3],?_⟩
   ·simp[rs,List.getElem?_zipIdx,h2]
   ·rw[h3];have:base.size=k*i.size:=by simpa using hbase
    rw[this,<-Nat.succ_mul];exact aaF _ h1)
  have hout:out.toList=css.flatten:=by
   rw[ho2];have:=Ib (k:=i.size) css 0 [] base.toList (fun c hc=>by
    simp only[css,aaS]at hc;obtain⟨x,hx,rfl⟩:=hc;simpa using hsize x (aaS.2 hx)) (by simp) (by rw[hbase,hcssl])
   simpa[rs]using this
  refine bp.val (v:=.slice (some ⟨w.heap.size,0,none⟩) k k) (w':=w.alloc (.cells out e)) ?_ ?_
  ·have hnz:¬(k*i.size=0):=by have:=Nat.mul_pos hkpos hc3;omega
   have hle:¬(16777216<k*i.size):=by omega
   have ho1':Instr.fill (fun j=>some (j*i.size,i.size)) ((acD (k*i.size)).map (z.cells[· %z.cells.size]!)) (ps.map fun(i,x)=>(i,ρ x)).toList=some out:=ho1;simp only[execOp,ho,Instr.buildSlice,Sem.run_bind,run_underlying hT,cO hi,Result.andThen_ok];simp only[show(2:Nat)^24=16777216 from rfl,hle,hnz,if_false,Sem.run_bind,lN hi hz,Result.andThen_ok,Sem.run_pure,ho1'];simp[newRow]
  ·refine bj.oo hS (fun G1 hle1 hS1=>?_);have hlkf:∀h mt k es,lk h=some (.row mt k es)->∃mt',fo lk2 (ja lk (gO ev (ps.toList.map (·.2)))) h=some (.row mt' k es):=fun h mt k es hh=>by
    obtain⟨mt',h2⟩:=(hls rfl).row h mt k es hh;unfold fo;split
    ·exact⟨false,by rw[h2];rfl⟩
    ·exact⟨mt',h2⟩
   have hfz:∀h∈gO ev (ps.toList.map (·.2)),(lk h).isSome=true->∀mt k es,fo lk2 (ja lk (gO ev (ps.toList.map (·.2)))) h=some (.row mt k es)->mt=false:=fun h hh hsome mt k es hrow=>by
    unfold fo at hrow;rw[if_pos (zm hh hsome)]at hrow;cases hx:lk2 h with
    |none=>rw[hx]at hrow;cases hrow
    |some bl=>
     rw[hx]at hrow;cases bl with
     |box cs=>cases hrow
     |row mt' k' es'=>cases hrow;rfl
     |nst _ _=>cases hrow
     |sb _ _ _=>cases hrow
     |mp _ _ _=>cases hrow
     |it=>cases hrow
   obtain⟨_,hel,hrows⟩:=vV (ρ:=ρ) hS1 hlkf hes (fun x hx=>AV.aq.mono hle1 (HM.le.refl m) _ _ (hzc x hx)) hfz;have hosz:out.size=k*i.size:=by
    have h1:out.toList.length=(css.flatten).length:=by rw[hout]
    have h2:(css.flatten).length=css.length*i.size:=by
     have:∀(l:List (List Value)),(∀c∈l,c.length=i.size)->l.flatten.length=l.length*i.size:=fun l=>by
      induction l with
      |nil=>simp
      |cons c l ih=>intro hl;simp[ih (fun d hd=>hl d (by simp[hd])),hl c (by simp),aaW];omega
     exact this css (fun c hc=>by
      simp only[css,aaS]at hc;obtain⟨x,hx,rfl⟩:=hc;simpa using hsize x (aaS.2 hx))
    rw[h2,hcssl]at h1;simpa using h1
   refine bj.new hS1 (by simpa using hn 0 (by simp)) _ _ _ (fun m' hm'=>?_) (fun m' hm' hmn=>?_)
   ·unfold bg;refine⟨out,e,heap_alloc_new w _,rfl,?_,hrows _ 0 (fun j hj=>?_),fun o=>vW hS1 (me _) o⟩
    ·rw[hel,hosz,hk];simp
    ·rw[aan,<-aaj,hout]
   ·unfold AV.aq;refine⟨rfl,_,hmn,fun _=>.inr ⟨_,_,k,rfl,?_,?_,?_⟩⟩
    ·simp[hk]
    ·simp[hk]
    ·rw[hosz];simp
theorem KA{G:Gh}{f:Nat->Option Value}{k:Nat}:∀{es:List (List DV)} {o:Nat},DV.rows G f k o es->∃vs:List Value,vs.length=es.length*k/\∀j,j<vs.length->f (o+j)=vs[j]?
 |[],_,_=>⟨[],by simp,fun j hj=>by simp at hj⟩
 |e::es,o,q=>by
  unfold DV.rows at q;obtain⟨us,h1,h2⟩:=wQ q.2.1;obtain⟨vs,h3,h4⟩:=KA q.2.2;have hus:us.length=k:=by rw[h1];exact q.1
  refine⟨us++vs,by simp[h3,hus,aaW];omega,fun j hj=>?_⟩;by_cases hlt:j<us.length
  ·rw[h2 j hlt,aak hlt]
  ·have:=h4 (j-k) (by simp at hj;omega);rw[aal (by omega),hus,<-this];congr 1;omega
theorem fE(hS:cf G m lkf w)(hs:∀h mt k es,lk h=some (.row mt k es)->∃mt',lkf h=some (.row mt' k es)){y:AV}
  (hr:AV.aq G m y v) (hy:AV.content lk y=some ys) (hu:js k ys):
  (∀w1:World,(Builtin.lenOf v).run P w1=.ok ys.length w1)/\
  ∃(vs:List Value),vs.length=ys.length*k/\(∀w1:World,w1.heap=w.heap->(Builtin.firstCells k ys.length v).run P w1=.ok vs.toArray w1)/\
   ∀(G':Gh) (f:Nat->Option Value) (o:Nat),Gh.le G G'->(∀i,i<vs.length->f (o+i)=vs[i]?)->DV.rows G' f k o ys:=by
 have hk':∀{G':Gh} {f:Nat->Option Value} {k' o:Nat},DV.rows G' f k' o ys->ys≠[]->k'=k:=fun h hne=>by obtain⟨e,he⟩:=acN ys hne;rw[<-hu e he];exact(DV.jv h e he).symm
 have main:∀(f:Nat->Option Value) (b off cap:Nat),v=.slice (some ⟨b,off,none⟩) ys.length cap->DV.rows G f k off ys->(∀o u,f o=some u->w.cell? ⟨b,o,none⟩=some u)->
   (∀w1:World,(Builtin.lenOf v).run P w1=.ok ys.length w1)/\
   ∃(vs:List Value),vs.length=ys.length*k/\(∀w1:World,w1.heap=w.heap->(Builtin.firstCells k ys.length v).run P w1=.ok vs.toArray w1)/\
   ∀(G':Gh) (f:Nat->Option Value) (o:Nat),Gh.le G G'->(∀i,i<vs.length->f (o+i)=vs[i]?)->DV.rows G' f k o ys:=fun f b off cap hv hrows hf=>by
  obtain⟨vs,h1,h2⟩:=KA hrows;refine⟨fun w1=>by rw[hv];simp[Builtin.lenOf],vs,h1,fun w1 hw1=>?_,fun G' g o hG hg=>?_⟩
  ·rw[hv];refine run_firstCells_some w1 k ys.length ⟨b,off,none⟩ _ _ vs h1 (fun j u hj=>?_);have hlt:=(υ.1 hj).1;rw[Addr.add_lit];have:=hf (off+j) u (by rw[h2 j hlt];exact hj);simpa[World.cell?,hw1]using this
  ·refine DV.rows.mono hG (fun _ _ h=>h) _ _ _ (DV.dc (fun i hi=>?_) hrows);rw[hg i (by rw[h1];exact hi),h2 i (by rw[h1];exact hi)]
 have nil:ys=[]->(∃a cap,v=.slice a 0 cap)->(∀w1:World,(Builtin.lenOf v).run P w1=.ok ys.length w1)/\
   ∃(vs:List Value),vs.length=ys.length*k/\(∀w1:World,w1.heap=w.heap->(Builtin.firstCells k ys.length v).run P w1=.ok vs.toArray w1)/\
   ∀(G':Gh) (f:Nat->Option Value) (o:Nat),Gh.le G G'->(∀i,i<vs.length->f (o+i)=vs[i]?)->DV.rows G' f k o ys:=fun e hv=>by
  obtain⟨a,cap,hv⟩:=hv;subst e;refine⟨fun w1=>by rw[hv];simp[Builtin.lenOf],[],by simp,fun w1 _=>?_,fun _ _ _ _ _=>by simp[DV.rows]⟩;rw[hv];cases a with
  |none=>simp[Builtin.firstCells]
  |some a=>simp[Builtin.firstCells,loadCells,loadCellsFrom]
 unfold AV.content at hy;split at hy
 ·cases hy;obtain⟨a,cap,hv,hcap,_,hne⟩:=um hr;by_cases hes:ys=[]
  ·exact nil hes ⟨a,cap,by rw[hv,hes];rfl⟩
  ·obtain⟨b,off,k',rfl,hrows⟩:=hne hes;have:=hk' hrows hes;subst this;exact main _ b off cap hv hrows (fun o u h=>hS.gh b o u h)
 ·cases hy;unfold AV.aq at hr;obtain⟨a,cap,hv,hcap,_,hne⟩:=um (m:=m) (by unfold AV.aq;exact hr.1);by_cases hes:ys=[]
  ·exact nil hes ⟨a,cap,by rw[hv,hes];rfl⟩
  ·obtain⟨b,off,k',rfl,hrows⟩:=hne hes;have:=hk' hrows hes;subst this;exact main _ b off cap hv hrows (fun o u h=>hS.gh b o u h)
 ·rename_i h k1 off len;split at hy
  case h_2=>cases hy
  rename_i mt k2 es hl;split at hy
  case isFalse=>cases hy
  rename_i hc;cases hy;obtain⟨rfl,hle⟩:=hc;obtain⟨mt',hl'⟩:=hs _ _ _ _ hl;have hL:((es.drop off).take len).length=len:=by simp;omega
  unfold AV.aq at hr;obtain⟨_,loc,hloc,hsl⟩:=hr;have hnd:loc≠.dead:=fun e=>by subst e;rw[hS.dead _ hloc]at hl';cases hl'
  rcases hsl hnd with⟨p,hv,rfl⟩|⟨b,sz,cap,rfl,hv,hcap,hsz⟩
  ·exact nil (by simp) ⟨p,0,hv⟩
  ·obtain⟨bl,hl3,hb⟩:=hS.fh _ _ _ hloc;rw[hl']at hl3;cases hl3;obtain⟨f,hrow,hf,_⟩:=qR hb hS.gh;have hrow2:=DV.en len (DV.ei off hrow);rw[aan]at hrow2;by_cases hes:(es.drop off).take len=[]
   ·have:len=0:=by rw[<-hL,hes];rfl
    subst this;exact nil hes ⟨_,cap,hv⟩
   ·have:=hk' hrow2 hes;subst this;exact main f b _ cap (by rw[hL];exact hv) hrow2 hf
 ·rename_i h k1 off len cap0;split at hy
  case h_2=>cases hy
  rename_i mt k2 es hl;split at hy
  case isFalse=>cases hy
  rename_i hc;cases hy;obtain⟨rfl,hle⟩:=hc;obtain⟨mt',hl'⟩:=hs _ _ _ _ hl;have hL:((es.drop off).take len).length=len:=by simp;omega
  unfold AV.aq at hr;obtain⟨_,loc,hloc,hsl⟩:=hr;have hnd:loc≠.dead:=fun e=>by subst e;rw[hS.dead _ hloc]at hl';cases hl'
  rcases Ek (hsl hnd)with⟨p,hv,rfl⟩|⟨b,sz,cap,rfl,hv,hcap,hsz⟩
  ·exact nil (by simp) ⟨p,0,hv⟩
  ·obtain⟨bl,hl3,hb⟩:=hS.fh _ _ _ hloc;rw[hl']at hl3;cases hl3;obtain⟨f,hrow,hf,_⟩:=qR hb hS.gh;have hrow2:=DV.en len (DV.ei off hrow);rw[aan]at hrow2;by_cases hes:(es.drop off).take len=[]
   ·have:len=0:=by rw[<-hL,hes];rfl
    subst this;exact nil hes ⟨_,cap,hv⟩
   ·have:=hk' hrow2 hes;subst this;exact main f b _ cap (by rw[hL];exact hv) hrow2 hf
 ·rename_i t;cases hy;have hv:=z6 hr;by_cases ht:t=[]
  ·subst ht;refine⟨fun w1=>by rw[hv];simp[Builtin.lenOf,ByteArray.size],[],by simp,fun w1 _=>?_,fun _ _ _ _ _=>by simp[DV.rows]⟩;rw[hv];simp[Builtin.firstCells]
  ·have hk1:k=1:=by obtain⟨c,hc⟩:=acN t ht;exact(hu [.I .u8 c.toNat] (aaS.2 ⟨c,hc,rfl⟩)).symm
   subst hk1;refine⟨fun w1=>by rw[hv];simp[Builtin.lenOf,ByteArray.size],t.map (fun c=>.int .u8 c.toNat),by simp,fun w1 _=>?_,fun G' f o _ hf=>?_⟩
   ·rw[hv];simp only[Builtin.firstCells,κ,Sem.run_pure];congr 1;apply Array.ext';rw[abm,ByteArray.data_extract,abB];simp[abT]
   ·clear hr hv ht hu nil main hk'
    induction t generalizing o with
    |nil=>simp[DV.rows]
    |cons c t ih=>
     simp only[aaM];unfold DV.rows;refine⟨rfl,?_,ih (o+1) (fun i hi=>?_)⟩
     ·unfold DV.cells;refine⟨⟨.int .u8 c.toNat,by have:=hf 0 (by simp);simpa using this,by unfold DV.aq;rfl⟩,by simp[DV.cells]⟩
     ·have:=hf (i+1) (by simpa using hi);rw[show o+1+i=o+(i+1) by omega,this];simp
 ·cases hy
end
section
variable{P:Program}{o:Oper}{lk:bJ}{n:Nat}{ev:Operand->AV}{K:AV->List bn->List Hd->Prop}
theorem vJ(ht:P.underlying t=some (.slice e))(hu:P.underlying u=some d)(hd:d=.string\/∃e',d=.slice e')(hi:P.info? e=some i)(hz:i.zero=some z)
 {s x:Value} {a:Option Addr} {m:Nat} {news:Array Value} (hs:s=.slice a sLen sCap) (hlen:∀w1:World,(Builtin.lenOf x).run P w1=.ok m w1)
  (holds:(Builtin.firstCells i.size sLen s).run P w.drew=.ok olds w.drew) (hnews:(Builtin.firstCells i.size m x).run P w.drew=.ok news w.drew)
  (hg:sCap<sLen+m) (hb:(sLen+m)*i.bytes<=140737488355328) (h63:((sLen+m:Nat):Int)<=9223372036854775807):
  ∃ rest:Array Value,(Builtin.append_ #[t,u] ty #[s,x]).run P w=.ok (.slice (some ⟨w.heap.size,0,none⟩) (sLen + m) (grownCap w (sLen + m) sCap e))
    (w.drew.alloc (.cells (olds++news++rest) e))/\rest.size=(grownCap w (sLen+m) sCap e-(sLen+m))*z.cells.size:=by
 refine⟨Builtin.zeroCells z.cells (grownCap w (sLen+m) sCap e-(sLen+m)),?_,size_zeroCells _ _⟩;have hfit:=growslice_fits (bytes:=i.bytes) hg hb;have hn:¬(sLen+m<=sCap):=by omega
 have h63':¬(((sLen+m:Nat):Int)>IntKind.i64.max):=by rw[IntKind.max_i64];omega
 have h48':¬(Builtin.nextslicecap (sLen+m) sCap*i.bytes>2^48):=by rw[show(2:Nat)^48=281474976710656 from rfl];omega
 subst hs;have h63'':¬(9223372036854775807<(sLen:Int)+(m:Int)/\i.bytes=0):=fun h=>by omega
 have h48'':¬(281474976710656<Builtin.nextslicecap (sLen+m) sCap*i.bytes):=by omega
 rcases hd with rfl|⟨e',rfl⟩
 ·simp[Builtin.append_,sizeOf,typeInfo,zeroValue,run_underlying ht,run_underlying hu,hi,hz,hlen,Question.forced,newRow,grownCap];rw[if_neg hn,if_neg h63'',if_neg h48'',holds];simp[hnews]
 ·simp[Builtin.append_,sizeOf,typeInfo,zeroValue,run_underlying ht,run_underlying hu,hi,hz,hlen,Question.forced,newRow,grownCap];rw[if_neg hn,if_neg h63'',if_neg h48'',holds];simp[hnews]
theorem pQ(ht:P.underlying t=some (.slice e))(hu:P.underlying u=some d)(hd:d=.string\/∃e',d=.slice e')(hi:P.info? e=some i)
 {x:Value} {a:Option Addr} (hlen:∀w1:World,(Builtin.lenOf x).run P w1=.ok 0 w1) (hnews:(Builtin.firstCells i.size 0 x).run P w=.ok #[] w) (hle:sLen<=sCap):
  (Builtin.append_ #[t,u] ty #[.slice a sLen sCap,x]).run P w=.ok (.slice a sLen sCap) w:=by
 rcases hd with rfl|⟨e',rfl⟩
 ·simp[Builtin.append_,sizeOf,typeInfo,run_underlying ht,run_underlying hu,hi,hlen,hle,hnews];cases a<;>simp[storeCells]
 ·simp[Builtin.append_,sizeOf,typeInfo,run_underlying ht,run_underlying hu,hi,hlen,hle,hnews];cases a<;>simp[storeCells]
theorem cf.tu{lk:bJ}{n:Nat}(hS:cf G m lk w)(hn:m (.O n)=none)(k:Nat):cf G (aJ m (.O n) .none) (ij lk n [.row true k []]) w:=by
 have hlk:∀x,ij lk n [.row true k []] x=if x=.O n then some (.row true k [])else lk x:=fun x=>by
  unfold ij;cases x with
  |B j=>simp
  |O j=>
   by_cases e:j=n
   ·subst e;simp
   ·have e1:¬(n<=j/\j<n+[bn.row true k []].length):=by simp;omega
    simp only[e1,if_false,Hd.O.injEq,e]
 have hle:HM.le m (aJ m (.O n) .none):=fun x loc hx=>by
  unfold aJ;by_cases e:x=.O n
  ·rw[e,hn]at hx;cases hx
  ·rw[if_neg e];exact .inl (.inl hx)
 have get:∀{x loc},aJ m (.O n) .none x=some loc->(x=.O n/\loc=.none)\/(x≠.O n/\m x=some loc):=fun{x loc} hx=>by
  unfold aJ at hx;split at hx
  ·cases hx;exact .inl ⟨‹_›,rfl⟩
  ·exact .inr ⟨‹_›,hx⟩
 refine⟨fun x b sz hx=>?_,fun x hx=>?_,fun x y b l l' hx hy hb hb'=>?_,hS.gh,fun x hx=>?_,hS.gl,fun x b sz fp hx=>?_⟩
 ·rcases get hx with⟨_,h⟩|⟨e,h⟩
  ·cases h
  ·obtain⟨bl,h1,h2⟩:=hS.fh x b sz h;exact⟨bl,by rw[hlk,if_neg e];exact h1,h2.mono (Gh.le.refl G) hle (fun _=>rfl) rfl⟩
 ·rcases get hx with⟨e,_⟩|⟨e,h⟩
  ·exact⟨true,k,by rw[hlk,if_pos e]⟩
  ·obtain⟨mt,k',h1⟩:=hS.nil x h;exact⟨mt,k',by rw[hlk,if_neg e];exact h1⟩
 ·rcases get hx with⟨_,rfl⟩|⟨_,h⟩
  ·cases hb
  ·rcases get hy with⟨_,rfl⟩|⟨_,h'⟩
   ·cases hb'
   ·exact hS.da x y _ _ _ h h' hb hb'
 ·rcases get hx with⟨_,h⟩|⟨e,h⟩
  ·cases h
  ·rw[hlk,if_neg e];exact hS.dead x h
 ·rcases get hx with⟨_,h⟩|⟨e,h⟩
  ·cases h
  ·obtain⟨bl,h1,h2⟩:=hS.di x b sz fp h;exact⟨bl,by rw[hlk,if_neg e];exact h1,h2.mono (Gh.le.refl G) hle (fun _ _ _=>rfl) (fun _ _=>rfl) (dz.refl _ _)⟩
theorem Hn(ho:o.op=.call c)(hc:c.callee=.builtin .append)(ha:c.args.toList=[x,y])(hta:c.argTypes.toList=[t,u])
  (ht:P.underlying t=some (.slice e)) (hu:P.underlying u=some d) (hd:d=.string\/∃e',d=.slice e') (hi:P.info? e=some i) (hz:i.zero.any (fun z=>z.cells.size==i.size)=true) (hbytes:0<i.bytes)
  (h:aY P lk n ev (.app i.size i.bytes x y) K):PS P o (.app i.size i.bytes x y) lk n ev K:=by
 obtain⟨z,hz,hz'⟩:=(adv _ _).1 hz;have hz':z.cells.size=i.size:=by simpa using hz'
 obtain⟨es,hx,ys,hy,hu1,hu2,hb,h⟩:=h;have ha':c.args=#[x,y]:=by rw[<-aaL (xs:=c.args),ha]
 have ht':c.argTypes=#[t,u]:=by rw[<-aaL (xs:=c.argTypes),hta]
 have hexec:∀(ρ:Operand->Value) (v:Value) (w w':World),(Builtin.append_ #[t,u] o.type #[ρ x,ρ y]).run P w=.ok v w'->(execOp ρ o).run P w=.ok (.value v) w':=fun ρ v w w' h=>by simp only[execOp,ho,resolve,hc,ha',ht',invoke,builtin,Sem.run_bind,Sem.run_pure,Result.andThen_ok];simp[h]
 split at h
 ·
  rename_i hnil;obtain⟨hnil,_⟩:=hnil;refine⟨_,_,_,h,by first|exact fun _=>⟨rfl,rfl⟩|(intro hh;cases hh),(by intro h hh;first|(cases hh;done)|exact(ξ.1 hh).2|(split at hh<;>first|exact(ξ.1 hh).2|cases hh)),fun G m w ρ _ lk2 hls hS hev _=>?_⟩;have hrx:=fj hev hx (by simp[bu.operands]);have hry:=hev y (by simp[bu.operands]);obtain⟨c1,vs,c2,c3,c4⟩:=fE (P:=P) hS (hls rfl).row hry hy hu2;subst hnil;have hvs:vs=[]:=by simpa using c2
  subst hvs;have hrx':=hrx;unfold AV.aq at hrx';obtain⟨_,a,hv⟩:=hrx';refine bp.val (hexec ρ (ρ x) w w ?_) (bj.val hS hrx);rw[hv];exact pQ ht hu hd hi (by simpa using c1) (by simpa using c3 w rfl) (me _)
 ·rename_i hne0;by_cases hys:ys=[]
  ·have hes:es=[]:=Decidable.byContradiction fun q=>hne0 ⟨hys,q⟩;subst hys hes;refine⟨_,_,_,h,by first|exact fun _=>⟨rfl,rfl⟩|(intro hh;cases hh),(by intro h hh;first|(cases hh;done)|exact(ξ.1 hh).2|(split at hh<;>first|exact(ξ.1 hh).2|cases hh)),fun G m w ρ _ lk2 hls hS hev hn=>?_⟩;have hrx:=fj hev hx (by simp[bu.operands]);have hry:=hev y (by simp[bu.operands]);obtain⟨c1,vs,c2,c3,c4⟩:=fE (P:=P) hS (hls rfl).row hry hy hu2;have hvs:vs=[]:=by simpa using c2
   subst hvs;unfold AV.aq at hrx;obtain⟨_,a,hv⟩:=hrx;have hn0:m (.O n)=none:=by simpa using hn 0 (by simp)
   refine bp.val (hexec ρ (ρ x) w w ?_) (bj.oo hS (fun G1 hle1 hS1=>?_))
   ·rw[hv];exact pQ ht hu hd hi (by simpa using c1) (by simpa using c3 w rfl) (me _)
   ·refine⟨G1,aJ m (.O n) .none,by rw[eD];exact hS1.tu hn0 _,?_,Fr.refl _ _ _ _,fun hd hhd=>?_,fun j b sz hj he hbl=>?_⟩
    ·rw[hv];unfold AV.aq;exact⟨rfl,.none,by unfold aJ;rw[if_pos rfl],fun _=>.inl ⟨a,rfl,rfl⟩⟩
    ·unfold aJ;rw[if_neg (by simpa using hhd 0 (by simp))]
    ·have hj0:j=0:=by simpa using hj
     subst hj0;unfold aJ at he;rw[if_pos (by simp)]at he;cases he;cases hbl
  have hne:=hys;refine⟨_,_,_,h,by first|exact fun _=>⟨rfl,rfl⟩|(intro hh;cases hh),(by intro h hh;first|(cases hh;done)|exact(ξ.1 hh).2|(split at hh<;>first|exact(ξ.1 hh).2|cases hh)),fun G m w ρ _ lk2 hls hS hev hn=>?_⟩;have hrx:=fj hev hx (by simp[bu.operands]);have hry:=hev y (by simp[bu.operands]);have hrx':=hrx;unfold AV.aq at hrx';obtain⟨hL,a,hv⟩:=hrx';obtain⟨_,os,o2,o3,o4⟩:=fE (P:=P) (lk:=lk) (y:=.fl es) hS (hls rfl).row hrx (by unfold AV.content;rfl) hu1;obtain⟨c1,vs,c2,c3,c4⟩:=fE (P:=P) hS (hls rfl).row hry hy hu2;have hpos2:0<ys.length:=adl.2 hne;have hfits:es.length+ys.length<=9223372036854775807:=by have:=acV (es.length+ys.length) hbytes;omega
  obtain⟨rest,hrun,hrest⟩:=vJ (ty:=o.type) ht hu hd hi hz hv c1 (o3 w.drew rfl) (c3 w.drew rfl) (by omega) hb (by omega);refine bp.val (hexec ρ _ w _ hrun) ?_;refine bj.oz (bj.oo hS.drew (fun G1 hle1 hS1=>?_));have hge:=grownCap_ge w (es.length+ys.length) es.length e;have hsz:(os.toArray++vs.toArray++rest).size=grownCap w (es.length+ys.length) es.length e*i.size:=by simp only[Array.size_append,acy,o2,c2,hrest,hz'];rw[<-aaW,<-aaW];congr 1;omega
  refine bj.new hS1 (by simpa using hn 0 (by simp)) _ _ _ (fun m' hm'=>?_) (fun m' hm' hmn=>?_)
  ·unfold bg;refine⟨_,e,heap_alloc_new _ _,rfl,?_,?_,fun o=>vW hS1 (me _) o⟩
   ·rw[hsz,ε];exact aaF _ hge
   ·refine DV.cu (o4 G1 _ 0 hle1 (fun j hj=>?_)) (c4 G1 _ _ hle1 (fun j hj=>?_))
    ·rw[aan,<-aaj];simp only[abj];rw[π,aak (by simpa using hj)]
    ·rw[<-aaj];simp only[abj];rw[π,aal (by simp[o2]),aak (by simp[o2];omega)];congr 1;simp[o2]
  ·unfold AV.aq;refine⟨rfl,_,hmn,fun _=>.inr ⟨_,_,grownCap w (es.length+ys.length) es.length e,rfl,?_,hge,?_⟩⟩
   ·simp
   ·rw[hsz];simp
theorem Kf(w:World){G:Gh}{m:HM}(dep:Nat)(xs ys:Array Value):∀(fs:List Field) (j:Nat) (kds:List Nat) (as bs:List AV) (b:Bool),kA P fs j=some kds->
  AV.bb G m as (xs.toList.drop j)->AV.bb G m bs (ys.toList.drop j)->kP kds as bs=some b->(Op.eqFields (dep+1) xs ys fs).run P w=.ok b w
 |[],j,kds,as,bs,b,hp,ha,hb,h=>by
  unfold kA at hp;cases hp;cases as<;>cases bs<;>simp[kP]at h;subst h;simp[Op.eqFields]
 |f::fs,j,kds,as,bs,b,hp,ha,hb,h=>by
  unfold kA at hp;split at hp
  case isFalse=>cases hp
  rename_i hf;obtain⟨hname,hoff⟩:=hf;cases hr:kA P fs (j+1)with
  |none=>rw[hr]at hp;split at hp<;>simp_all
  |some r=>
   rw[hr]at hp;have key:∀(kd:Nat) (d:TypeDesc),P.underlying f.type=some d->(match d with|.bool=>kd=0|.int _=>kd=1|.string=>kd=2|_=>False)->kds=kd::r->(Op.eqFields (dep+1) xs ys (f::fs)).run P w=.ok b w:=fun kd d hd hk hkds=>by
    subst hkds
    match as,bs,h with
    |.D x::as,.D y::bs,h=>
     unfold kP at h;cases h1:DV.same kd x y with
     |none=>rw[h1]at h;simp at h
     |some p=>
      cases h2:kP r as bs with
      |none=>rw[h1,h2]at h;simp at h
      |some q=>
       rw[h1,h2]at h;simp only[Option.some.injEq]at h;unfold AV.bb at ha hb;obtain⟨u,us,ha1,ha2,ha3⟩:=ha;obtain⟨v,vs,hb1,hb2,hb3⟩:=hb;have hxu:xs[j]?=some u:=by have:=congrArg (·[0]?) ha1;simpa using this
       have hyv:ys[j]?=some v:=by have:=congrArg (·[0]?) hb1;simpa using this
       have hus:xs.toList.drop (j+1)=us:=by rw[<-abe,ha1];rfl
       have hvs:ys.toList.drop (j+1)=vs:=by rw[<-abe,hb1];rfl
       have hagg:bH d=false:=by cases d<;>first|rfl|exact hk.elim
       have hpart:∀(zs:Array Value) (v:Value),zs[j]?=some v->(part f.type zs f.offset).run P w=.ok v w:=fun zs v hz=>by simp[part,fI hd,hagg,hoff,hz]
       have heq:(Op.equalIn (dep+1) f.type u v).run P w=.ok p w:=by
        unfold AV.aq at ha2 hb2;cases x<;>cases y<;>simp[DV.same]at h1
        ·unfold DV.aq at ha2 hb2;obtain⟨rfl,rfl⟩:=h1;subst ha2;subst hb2;cases d<;>simp at hk;exact run_equalIn_bool' w dep f.type _ _ hd
        ·unfold DV.aq at ha2 hb2;obtain⟨⟨rfl,rfl⟩,rfl⟩:=h1;subst ha2;subst hb2;cases d<;>simp at hk;exact run_equalIn_int w dep f.type _ _ _ _ hd
        ·unfold DV.aq at ha2 hb2;obtain⟨rfl,rfl⟩:=h1;subst ha2;subst hb2;cases d<;>simp at hk;rw[run_equalIn_string w dep f.type _ _ hd];simp[ByteArray.toList_eq]
       have ih:=Kf w dep xs ys fs (j+1) r as bs q hr (by rw[hus];exact ha3) (by rw[hvs];exact hb3) h2;simp only[Op.eqFields,ne_eq,hname,not_false_eq_true,if_true,Sem.run_bind,hpart xs u hxu,hpart ys v hyv,Result.andThen_ok,heq];cases p
       ·simp only[Bool.not_false,if_true,Sem.run_pure];rw[<-h];rfl
       ·simp only[Bool.not_true,Bool.false_eq_true,if_false];rw[ih,<-h];rfl
   split at hp
   ·rename_i hd _;cases hp;exact key 0 _ hd rfl (by simp_all)
   ·rename_i hd _;cases hp;exact key 1 _ hd rfl (by simp_all)
   ·rename_i hd _;cases hp;exact key 2 _ hd rfl (by simp_all)
   ·cases hp
theorem bNp{kds:List Nat}(ho:o.op=.binOp op T x y yT)(hT:P.underlying T=some (.struct fs))(hc1:P.eqGuardType P.depth T=false)(hc2:P.stoodInHeld T=false)(hc3:uH op=true)(hkds:kA P fs.toList 0=some kds)(h:aY P lk n ev (.eqs (dR op) kds x y) K):PS P o (.eqs (dR op) kds x y) lk n ev K:=by
 obtain⟨xs,ys,b,hx,hy,hb,hK⟩:=h;have hops:op=.eql\/op=.neq:=by cases op<;>simp[uH]at hc3|-
 refine⟨_,_,_,hK,by first|exact fun _=>⟨rfl,rfl⟩|(intro hh;cases hh),(by intro h hh;first|(cases hh;done)|exact(ξ.1 hh).2|(split at hh<;>first|exact(ξ.1 hh).2|cases hh)),fun G m w ρ _ lk2 hls hS hev _=>?_⟩;have h1:=fj hev hx (by simp[bu.operands]);have h2:=fj hev hy (by simp[bu.operands]);unfold AV.aq at h1 h2;obtain⟨us,hu,hus⟩:=h1;obtain⟨vs,hv,hvs⟩:=h2;have hT':P.underlying T=some (.struct (P.fieldsOf T)):=by simp[Program.fieldsOf,hT]
 have hfs:P.fieldsOf T=fs:=by simp[Program.fieldsOf,hT]
 have hrun:(Op.equalIn 10000 T (.agg us) (.agg vs)).run P w=.ok b w:=by rw[run_equalIn_struct w 9999 T us vs hT' hc2,hfs];exact Kf w 9998 us vs fs.toList 0 kds xs ys b hkds (by simpa using hus) (by simpa using hvs) hb
 refine bp.val (v:=.bool (if dR op=true then !b else b)) (w':=w) ?_ (bj.val hS (by unfold AV.aq DV.aq;rfl));rcases hops with rfl|rfl
 ·simp only[execOp,ho,hu,hv,Sem.run_bind,run_eqGuard_agg w _ _ _ _ _ _ hc1,Result.andThen_ok,run_eql_struct,hrun,Sem.run_pure];rfl
 ·simp only[execOp,ho,hu,hv,Sem.run_bind,run_eqGuard_agg w _ _ _ _ _ _ hc1,Result.andThen_ok,run_neq_struct,hrun,Sem.run_pure];rfl
end
section
variable{P:Program}{o:Oper}{lk:bJ}{n:Nat}{ev:Operand->AV}{K:AV->List bn->List Hd->Prop}
theorem Oz(ho:o.op=.nilCheck x)(h:aY P lk n ev (.nilc x) K):PS P o (.nilc x) lk n ev K:=by
 obtain⟨hl,h'⟩:=h;have hexec:∀(ρ:Operand->Value) (a:Addr) (w:World),ρ x=.pointer (some a)->(execOp ρ o).run P w=.ok (.value (.pointer (some a))) w:=fun ρ a w hx=>by simp[execOp,ho,hx]
 generalize hx:ev x=ax at h' hl;split at h'
 ·refine⟨_,_,_,h',fun _=>⟨rfl,rfl⟩,(by intro h hh;cases hh),fun G m w ρ _ lk2 hls hS hev _=>?_⟩;have hr:=fj hev hx (by simp[bu.operands]);obtain⟨b,sz,hloc,hp⟩:=yH hS (hls rfl) hr hl;exact bp.val (hexec ρ _ w hp) (bj.val hS (hp▸hr))
 ·refine⟨_,_,_,h',fun _=>⟨rfl,rfl⟩,(by intro h hh;cases hh),fun G m w ρ _ lk2 hls hS hev _=>?_⟩;have hr:=fj hev hx (by simp[bu.operands]);obtain⟨b,sz,hloc,hp⟩:=EI hS (hls rfl) hr hl;exact bp.val (hexec ρ _ w hp) (bj.val hS (hp▸hr))
 ·refine⟨_,_,_,h',fun _=>⟨rfl,rfl⟩,(by intro h hh;cases hh),fun G m w ρ _ lk2 hls hS hev _=>?_⟩;have hr:=fj hev hx (by simp[bu.operands]);have hr':=hr;unfold AV.aq at hr';obtain⟨b,o',hp,hc⟩:=hr';exact bp.val (hexec ρ _ w hp) (bj.val hS (hp▸hr))
 ·exact h'.elim
theorem R8(ho:o.op=.nilCheck x)(h:aY P lk n ev (.nilcS x) K):PS P o (.nilcS x) lk n ev K:=by
 obtain⟨hs,hv,h'⟩:=h;obtain⟨hdl,hhd⟩:=aa5.1 hs;have hp:aY P (fun y=>if y=hdl then(lk y).map bn.kf else none) n ev (.nilc x) (fun a nbs fz=>nbs=[]/\fz=[]/\K a nbs fz):=by
  show AV.live _ (ev x)=true/\_;generalize hx:ev x=v at hv hhd h';cases v<;>first|(cases hhd;done)|skip
  case ptr hh o=>cases hhd;exact⟨by simpa[AV.live]using hv,rfl,rfl,h'⟩
  case eptr hh k2 ix o=>cases hhd;exact⟨by simpa[AV.live]using hv,rfl,rfl,h'⟩
  case sl hh k2 ix o=>exact h'.elim
 obtain⟨a,nbs,fz,⟨rfl,rfl,hK⟩,_,_,hD⟩:=Oz ho hp;refine⟨a,[],[],hK,fun _=>⟨rfl,rfl⟩,(by intro h hh;cases hh),fun G m w ρ hρ lk2 hls hS hev hn=>hD G m w ρ hρ lk2 (fun _=>?_) hS hev hn⟩;have he:(lk2 hdl).map bn.kf=(lk hdl).map bn.kf:=hls hdl hhd;intro y b hb;have hy:y=hdl:=by
  by_cases e:y=hdl
  ·exact e
  ·simp only[if_neg e]at hb;cases hb
 subst hy;simp only[if_true]at hb;exact yN (he.trans hb)
theorem XJ{i:Operand}{m:Nat}(ho:o.op=.indexAddr T x i)(hT:P.underlying T=some (.array m e))(h1:1<m)(hi:P.info? e=some inf)(hk:k=inf.size)
  (h:aY P lk n ev (.iaddrA m k x i) K):PS P o (.iaddrA m k x i) lk n ev K:=by
 subst hk;obtain⟨hl,kd,j,hj,h0,hlt,h'⟩:=h;have hexec:∀(ρ:Operand->Value) (a:Addr) (w:World),ρ x=.pointer (some a)->ρ i=.int kd j->(execOp ρ o).run P w=.ok (.value (.pointer (some (a.add (j.toNat*inf.size))))) w:=fun ρ a w hx hi'=>by simp[execOp,ho,hx,hi',Instr.indexAt,run_underlying hT,asIntOf,Instr.sureAddr,h0,hlt,cO hi]
 generalize hx:ev x=ax at h' hl;split at h'
 ·refine⟨_,_,_,h',fun _=>⟨rfl,rfl⟩,(by intro h hh;cases hh),fun G m w ρ _ lk2 hls hS hev _=>?_⟩;obtain⟨b,sz,hloc,hp⟩:=yH hS (hls rfl) (fj hev hx (by simp[bu.operands])) hl;refine bp.val (hexec ρ _ w hp (mU (fj hev hj (by simp[bu.operands])))) (bj.val hS ?_);unfold AV.aq;exact⟨rfl,_,hloc,fun _=>⟨b,sz,rfl,by rw[Addr.add_lit]⟩⟩
 ·refine⟨_,_,_,h',fun _=>⟨rfl,rfl⟩,(by intro h hh;cases hh),fun G m w ρ _ lk2 hls hS hev _=>?_⟩;obtain⟨b,sz,hloc,hp⟩:=EI hS (hls rfl) (fj hev hx (by simp[bu.operands])) hl;refine bp.val (hexec ρ _ w hp (mU (fj hev hj (by simp[bu.operands])))) (bj.val hS ?_);rw[Addr.add_lit];exact ET hloc
 ·refine⟨_,_,_,h',fun _=>⟨rfl,rfl⟩,(by intro h hh;cases hh),fun G m w ρ _ lk2 hls hS hev _=>?_⟩;have hp:=fj hev hx (by simp[bu.operands]);unfold AV.aq at hp;obtain⟨b,o',hp,hc⟩:=hp;refine bp.val (hexec ρ _ w hp (mU (fj hev hj (by simp[bu.operands])))) (bj.val hS ?_);unfold AV.aq;exact⟨b,o'+j.toNat*inf.size,by rw[Addr.add_lit],DV.gj _ hc⟩
 ·exact h'.elim
theorem ZD{i:Operand}{m:Nat}(ho:o.op=.indexAddr T x i)(hT:P.underlying T=some (.array m e))(hi:P.info? e=some inf)(hk:k=inf.size)(hc:Cw m k i=some off)
  (h:aY P lk n ev (.faddr off x) K):PS P o (.faddr off x) lk n ev K:=by
 subst hk;obtain⟨kd,j,rfl,h0,hlt,rfl⟩:∃kd j,i=.const (.int kd j)/\0<=j/\j<m/\off=j.toNat*inf.size:=by
  unfold Cw at hc;split at hc
  ·split at hc
   ·rename_i hb;cases hc;exact⟨_,_,rfl,hb.1,hb.2,rfl⟩
   ·cases hc
  ·cases hc
 obtain⟨hl,h'⟩:=h;have hexec:∀(ρ:Operand->Value) (a:Addr) (w:World),ρ x=.pointer (some a)->ρ (.const (.int kd j))=.int kd j->(execOp ρ o).run P w=.ok (.value (.pointer (some (a.add (j.toNat*inf.size))))) w:=fun ρ a w hx hi'=>by simp[execOp,ho,hx,hi',Instr.indexAt,run_underlying hT,asIntOf,Instr.sureAddr,h0,hlt,cO hi]
 generalize hx:ev x=ax at h' hl;split at h'
 ·refine⟨_,_,_,h',fun _=>⟨rfl,rfl⟩,(by intro h hh;cases hh),fun G m w ρ hcst lk2 hls hS hev _=>?_⟩;obtain⟨b,sz,hloc,hp⟩:=yH hS (hls rfl) (fj hev hx (by simp[bu.operands])) hl;refine bp.val (hexec ρ _ w hp (hcst _)) (bj.val hS ?_);unfold AV.aq;exact⟨rfl,_,hloc,fun _=>⟨b,sz,rfl,by rw[Addr.add_lit]⟩⟩
 ·refine⟨_,_,_,h',fun _=>⟨rfl,rfl⟩,(by intro h hh;cases hh),fun G m w ρ hcst lk2 hls hS hev _=>?_⟩;obtain⟨b,sz,hloc,hp⟩:=EI hS (hls rfl) (fj hev hx (by simp[bu.operands])) hl;refine bp.val (hexec ρ _ w hp (hcst _)) (bj.val hS ?_);rw[Addr.add_lit];exact ET hloc
 ·refine⟨_,_,_,h',fun _=>⟨rfl,rfl⟩,(by intro h hh;cases hh),fun G m w ρ hcst lk2 hls hS hev _=>?_⟩;have hp:=fj hev hx (by simp[bu.operands]);unfold AV.aq at hp;obtain⟨b,o',hp,hc⟩:=hp;refine bp.val (hexec ρ _ w hp (hcst _)) (bj.val hS ?_);unfold AV.aq;exact⟨b,o'+j.toNat*inf.size,by rw[Addr.add_lit],DV.gj _ hc⟩
 ·exact h'.elim
theorem SB{i:Operand}{m:Nat}(ho:o.op=.index T x i)(hT:P.underlying T=some (.array m e))(hd:P.underlying e=some d)(hi:P.info? e=some inf)(hk:k=inf.size)
  (h:aY P lk n ev (.idxA m k (if bH d then some inf.size else none) x i) K):PS P o (.idxA m k (if bH d then some inf.size else none) x i) lk n ev K:=by
 subst hk;obtain⟨cs,kd,j,hx,hj,h0,hlt,h⟩:=h;have hexec:∀(ρ:Operand->Value) (vs:Array Value) (w:World),ρ x=.agg vs->ρ i=.int kd j->(execOp ρ o).run P w=((part e vs (j.toNat*inf.size)).run P w).andThen fun v w=>.ok (.value v) w:=fun ρ vs w hx hi'=>by simp[execOp,ho,hx,hi',Instr.index,run_underlying hT,asIntOf,h0,hlt,cO hi]
 have hrepx:∀(G:Gh) (m':HM) (ρ:Operand->Value),(∀z∈(bu.idxA m inf.size (if bH d then some inf.size else none) x i).operands,AV.aq G m' (ev z) (ρ z))->∃vs:Array Value,ρ x=.agg vs/\AV.bb G m' cs vs.toList:=fun G m' ρ hev=>by have:=fj hev hx (by simp[bu.operands]);unfold AV.aq at this;exact this
 cases ha:bH d with
 |true=>
  rw[ha]at h;obtain⟨hle,hK⟩:=h;refine⟨_,_,_,hK,fun _=>⟨rfl,rfl⟩,(by intro h hh;cases hh),fun G m' w ρ _ lk2 hls hS hev _=>?_⟩;obtain⟨vs,hv,hrep⟩:=hrepx G m' ρ (by rw[ha];exact hev);have h1:=AV.eg inf.size (AV.gv (j.toNat*inf.size) hrep);refine bp.val (v:=.agg (vs.extract (j.toNat*inf.size) (j.toNat*inf.size+inf.size))) (w':=w) ?_ (bj.val hS ?_)
  ·rw[hexec ρ vs w hv (mU (fj hev hj (by simp[bu.operands])))];simp[part,fI hd,ha,cO hi]
  ·unfold AV.aq;refine⟨_,rfl,?_⟩;rw[abB,abT,aaP];exact h1
 |false=>
  rw[ha]at h;obtain⟨a,hcs,hK⟩:=h;refine⟨_,_,_,hK,fun _=>⟨rfl,rfl⟩,(by intro h hh;cases hh),fun G m' w ρ _ lk2 hls hS hev _=>?_⟩;obtain⟨vs,hv,hrep⟩:=hrepx G m' ρ (by rw[ha];exact hev);obtain⟨v,hv',hr⟩:=AV.gf hrep hcs;refine bp.val (v:=v) (w':=w) ?_ (bj.val hS hr);rw[hexec ρ vs w hv (mU (fj hev hj (by simp[bu.operands])))];rw[aaj]at hv';simp[part,fI hd,ha,hv']
theorem YR{m:Nat}(ho:o.op=.slice T x lo hi none)(hT:P.underlying T=some (.array m e))(hinf:P.info? e=some inf)(h1:inf.size=1)
  (h:aY P lk n ev (.slsA m x lo hi) K):PS P o (.slsA m x lo hi) lk n ev K:=by
 obtain⟨hd,ix,mt,es,hx,hl,hle,h⟩:=h;obtain⟨hh,h,bh⟩:=dV h;obtain⟨ll,h,bl⟩:=dV h;obtain⟨g1,g2,hK⟩:=h;refine⟨_,_,_,hK,fun _=>⟨rfl,rfl⟩,(by intro h hh;cases hh),fun G m' w ρ _ lk2 hls hS hev _=>?_⟩;have hp:=fj hev hx (by simp[bu.operands]);unfold AV.aq at hp;obtain⟨_,loc,hloc,hp⟩:=hp;have hl0:ni (lk2 hd)=ni (lk hd):=hls hd (by rw[hx];rfl);rw[hl]at hl0;obtain⟨mt2,es2,hl2,hes2⟩:=Jq hl0;have hnd:loc≠.dead:=fun e=>by subst e;rw[hS.dead _ hloc]at hl2;cases hl2
 obtain⟨b,sz,rfl,hv⟩:=hp hnd;obtain⟨bl',hl3,hb⟩:=hS.fh _ _ _ hloc;rw[hl2]at hl3;cases hl3;obtain⟨f,_,_,hsz⟩:=qR hb hS.gh;rw[hes2]at hsz;rw[aaN]at hsz;rw[aaN,abt]at hv;have b1:=bh G m' ρ (fun z hz=>hev z (by simp[bu.operands]at hz|-;exact .inr (.inr hz)));have b2:=bl G m' ρ (fun z hz=>hev z (by simp[bu.operands]at hz|-;exact .inr (.inl hz)));have hb:=Hq (P:=P) (isSlice:=false) (len:=m) (cap:=m) (mx:=none) (m:=m) (.inl ⟨rfl,rfl⟩) b1 b2 g1 g2 (me _) (fun h=>by cases h) w;refine bp.val (v:=.slice (some (if m=ll then⟨b,ix,none⟩else⟨b,ix+ll,none⟩)) (hh-ll) (m-ll)) (w':=w) ?_ (bj.val hS ?_)
 ·simp only[execOp,ho,Option.map_none,Instr.sliceAt,hv,Sem.run_bind,run_underlying hT,Result.andThen_ok,Instr.sureAddr,Sem.run_pure];rw[hb];simp only[Result.andThen_ok,cO hinf,h1,aaN,Sem.run_pure,Addr.add_lit]
 ·unfold AV.aq;refine⟨rfl,_,hloc,fun _=>?_⟩;by_cases q:m=ll
  ·rw[if_pos q];exact .inl ⟨some ⟨b,ix,none⟩,by rw[show hh-ll=0 by omega,show m-ll=0 by omega],by omega⟩
  ·rw[if_neg q];exact .inr ⟨b,_,m-ll,rfl,by rw[aaN],by omega,by omega⟩
theorem Qu{m:Nat}(ho:o.op=.sliceToArrayPointer T x)(hT:P.underlying T=some (.array m e))
  (h:aY P lk n ev (.arrP m x) K):PS P o (.arrP m x) lk n ev K:=by
 obtain⟨hd,off,len,mt,es,hx,hl,hle,hpos,hK⟩:=h;refine⟨_,_,_,hK,fun _=>⟨rfl,rfl⟩,(by intro h hh;cases hh),fun G m' w ρ _ lk2 hls hS hev _=>?_⟩;have hp:=fj hev hx (by simp[bu.operands]);unfold AV.aq at hp;obtain⟨_,loc,hloc,hp⟩:=hp;have hl0:ni (lk2 hd)=ni (lk hd):=hls hd (by rw[hx];rfl);rw[hl]at hl0;obtain⟨mt2,es2,hl2,_⟩:=Jq hl0;have hnd:loc≠.dead:=fun e=>by subst e;rw[hS.dead _ hloc]at hl2;cases hl2
 rcases hp hnd with⟨a,_,hz⟩|⟨b,sz,cap,rfl,hv,hcap,hsz⟩
 ·omega
 ·refine bp.val (v:=.pointer (some ⟨b,off*1,none⟩)) (w':=w) ?_ (bj.val hS ?_)
  ·have:¬len<m:=by omega
   simp[execOp,ho,hv,Instr.arrayAt,run_underlying hT,this]
  ·unfold AV.aq;exact⟨rfl,_,hloc,fun _=>⟨b,sz,rfl,rfl⟩⟩
theorem vL{G:Gh}{m:HM}{k:IntKind}:∀{xs:List AV} {p:List Int} {vs:List Value},wU k xs=some p->AV.bb G m xs vs->vs=p.map (.int k)
 |[],p,vs,h,hr=>by
  simp only[wU,Option.some.injEq]at h;subst h;unfold AV.bb at hr;subst hr;rfl
 |x::xs,p,vs,h,hr=>by
  unfold wU at h;split at h
  ·rename_i h';cases h'
  ·rename_i k' n' r h';cases h';rw[ζ,ι]at h;obtain⟨rfl,q,hq,rfl⟩:=h;unfold AV.bb at hr;obtain⟨v,vs',rfl,h1,h2⟩:=hr;unfold AV.aq DV.aq at h1;rw[h1,vL hq h2];rfl
  ·cases h
theorem Fa{e:TypeId}{k k':IntKind}(d:Nat)(he:P.underlying e=some (.int k'))(xs ys:Array Value)(p q:List Int)(hx:xs.toList=p.map (.int k))(hy:ys.toList=q.map (.int k))(w:World):
  ∀is:List Nat,(∀i∈is,i<p.length/\i<q.length)->(Op.eqItems (d+1) e 1 xs ys is).run P w=.ok (is.all fun i=>p[i]?==q[i]?) w
 |[],_=>by simp[Op.eqItems]
 |i::is,h=>by
  obtain⟨h1,h2⟩:=h i (by simp);have part':∀(zs:Array Value) (l:List Int) (hl:i<l.length),zs.toList=l.map (.int k)->(part e zs (i*1)).run P w=.ok (.int k l[i]) w:=fun zs l hl hz=>by
   have:zs[i]?=some (.int k l[i]):=by rw[<-aaj,hz,aac,ν hl];rfl
   simp[part,fI he,bH,this]
  have ih:=Fa d he xs ys p q hx hy w is (fun j hj=>h j (by simp[hj]));simp only[Op.eqItems,Sem.run_bind,part' xs p h1 hx,part' ys q h2 hy,Result.andThen_ok,run_equalIn_int w d e _ _ _ _ he];rw[acQ,ν h1,ν h2];have hb:(some p[i]==some q[i])=(p[i]==q[i]):=rfl;rw[hb];cases p[i]==q[i]
  ·simp
  ·simpa using ih
theorem Ko{p q:List Int}{n:Nat}(h1:p.length=n)(h2:q.length=n):((abc n).all fun i=>p[i]?==q[i]?)=(p==q):=by
 rw[Bool.eq_iff_iff,aa1,beq_iff_eq];constructor
 ·intro h;apply List.ext_getElem?;intro i;by_cases hi:i<n
  ·simpa using h i (by simpa using hi)
  ·rw[aay (by omega),aay (by omega)]
 ·rintro rfl i _;simp
theorem bOk{m:Nat}{k:IntKind}(ho:o.op=.binOp op T x y yT)(hT:P.underlying T=some (.array m e))(he:P.underlying e=some (.int k))(hi:P.info? e=some i)
  (hc1:P.eqGuardType P.depth T=false) (hc2:uH op=true) (hsz:i.size=1) (h:aY P lk n ev (.eqa (dR op) k m x y) K):PS P o (.eqa (dR op) k m x y) lk n ev K:=by
 obtain⟨xs,ys,p,q,hx,hy,hp,hq,hlp,hlq,hK⟩:=h;have hops:op=.eql\/op=.neq:=by cases op<;>simp[uH]at hc2|-
 refine⟨_,_,_,hK,fun _=>⟨rfl,rfl⟩,(by intro h hh;cases hh),fun G m' w ρ _ lk2 hls hS hev _=>?_⟩;have h1:=fj hev hx (by simp[bu.operands]);have h2:=fj hev hy (by simp[bu.operands]);unfold AV.aq at h1 h2;obtain⟨us,hu,hus⟩:=h1;obtain⟨vs,hv,hvs⟩:=h2;have hrun:(Op.equalIn 10000 T (.agg us) (.agg vs)).run P w=.ok (p==q) w:=by rw[run_equalIn_array w 9999 us vs hT hi,show P.cellsOf e=1 by simp[Program.cellsOf,hi,hsz],Fa 9998 he us vs p q (vL hp hus) (vL hq hvs) w _ (fun i hi=>by rw[hlp,hlq];simpa using hi),Ko hlp hlq]
 refine bp.val (v:=.bool (if dR op=true then !(p==q)else(p==q))) (w':=w) ?_ (bj.val hS (by unfold AV.aq DV.aq;rfl));rcases hops with rfl|rfl
 ·simp only[execOp,ho,hu,hv,Sem.run_bind,run_eqGuard_agg w _ _ _ _ _ _ hc1,Result.andThen_ok,run_eql_struct,hrun,Sem.run_pure];rfl
 ·simp only[execOp,ho,hu,hv,Sem.run_bind,run_eqGuard_agg w _ _ _ _ _ _ hc1,Result.andThen_ok,run_neq_struct,hrun,Sem.run_pure];rfl
end
def P5(kd:Nat)(x y:Value)(p:Bool):Prop:=
 (kd=0/\∃a b,x=.bool a/\y=.bool b/\p=(a==b))\/(kd=1/\∃k a b,x=.int k a/\y=.int k b/\p=(a==b))\/(kd=2/\∃a b:List UInt8,x=.string ⟨a.toArray⟩/\y=.string ⟨b.toArray⟩/\p=(a==b))
inductive k7:List Sh->List Value->List Value->Bool->Prop
 |nil:k7 [] [] [] true
 |s {kd:Nat} {r:List Sh} {x y:Value} {xs ys:List Value} {p q:Bool}:P5 kd x y p->k7 r xs ys q->k7 (.s kd::r) (x::xs) (y::ys) (p&&q)
 |a {k:IntKind} {m:Nat} {r:List Sh} {p q:List Int} {xs ys:List Value} {b:Bool}:p.length=m->q.length=m->k7 r xs ys b->k7 (.a k m::r) (p.map (.int k)++xs) (q.map (.int k)++ys) (p==q&&b)
theorem eg{G:Gh}{m:HM}:∀(n:Nat) (as:List AV) (vs:List Value),AV.bb G m as vs->AV.bb G m (as.take n) (vs.take n)/\AV.bb G m (as.drop n) (vs.drop n)
 |0,as,vs,h=>by simp only[List.take_zero,List.drop_zero];exact⟨by unfold AV.bb;rfl,h⟩
 |n+1,[],vs,h=>by
  unfold AV.bb at h;subst h;simp only[List.take_nil,List.drop_nil];exact⟨by unfold AV.bb;rfl,by unfold AV.bb;rfl⟩
 |n+1,a::as,vs,h=>by unfold AV.bb at h;obtain⟨v,vs',rfl,h1,h2⟩:=h;obtain⟨h3,h4⟩:=eg n as vs' h2;simp only[ab4,acO];refine⟨?_,h4⟩;unfold AV.bb;exact⟨v,_,rfl,h1,h3⟩
theorem Xq{kd:Nat}{x y:DV}{p:Bool}{u:Value}(h:DV.same kd x y=some p)(hu:AV.aq G m (.D x) u)(hv:AV.aq G m (.D y) v):P5 kd u v p:=by
 unfold AV.aq at hu hv;cases x<;>cases y<;>simp only[DV.same]at h<;>try(cases h;done)
 all_goals(rw[ζ]at h;unfold DV.aq at hu hv;obtain⟨h1,h2⟩:=h;cases h2;subst hu;subst hv)
 ·exact .inl ⟨h1,_,_,rfl,rfl,rfl⟩
 ·obtain⟨h1,rfl⟩:=h1;exact .inr (.inl ⟨h1,_,_,_,rfl,rfl,rfl⟩)
 ·exact .inr (.inr ⟨h1,_,_,rfl,rfl,rfl⟩)
theorem HA{G:Gh}{m:HM}:∀{sh:List Sh} {xs ys:List AV} {b:Bool} {us vs:List Value},qh sh xs ys=some b->AV.bb G m xs us->AV.bb G m ys vs->k7 sh us vs b
 |[],xs,ys,b,us,vs,h,hu,hv=>by
  cases xs<;>cases ys<;>simp only[qh]at h<;>cases h;unfold AV.bb at hu hv;subst hu;subst hv;exact .nil
 |.s kd::r,xs,ys,b,us,vs,h,hu,hv=>by
  unfold qh at h;split at h
  ·rename_i e;cases e
  ·rename_i kd' r' x xs' y ys' e1;cases e1;split at h
   ·rename_i p q h1 h2;cases h;unfold AV.bb at hu hv;obtain⟨u,us',rfl,a1,a2⟩:=hu;obtain⟨v,vs',rfl,b1,b2⟩:=hv;exact .s (Xq h1 a1 b1) (HA h2 a2 b2)
   ·cases h
  ·rename_i e;cases e
  ·cases h
 |.a k n::r,xs,ys,b,us,vs,h,hu,hv=>by
  unfold qh at h;split at h
  ·rename_i p q b' h1 h2 h3;rw[ζ]at h;obtain⟨⟨l1,l2⟩,h⟩:=h;cases h;obtain⟨a1,a2⟩:=eg n _ _ hu;obtain⟨b1,b2⟩:=eg n _ _ hv;have e1:=vL h1 a1;have e2:=vL h2 b1;rw[<-aa2 n us,<-aa2 n vs,e1,e2];exact .a l1 l2 (HA h3 a2 b2)
  ·cases h
theorem OI{B:List Value}{m:Nat}(h:A.length=m):(A++B).take (m+k)=A++B.take k:=by subst h;rw[List.take_append,List.take_of_length_le (abJ _ _),aaP]
theorem NM{B:List Value}{m:Nat}(h:A.length=m):(A++B).drop (m+k)=B.drop k:=by subst h;rw[acI,List.drop_of_length_le (abJ _ _),aaP];rfl
theorem k7.len:∀{sh:List Sh} {us vs:List Value} {b:Bool},k7 sh us vs b->us.length=iS sh/\vs.length=iS sh
 |_,_,_,_,.nil=>⟨rfl,rfl⟩
 |_,_,_,_,.s _ h=>by
  obtain⟨h1,h2⟩:=h.len;simp only[List.length_cons,iS,Sh.len];omega
 |_,_,_,_,.a h1 h2 h=>by obtain⟨h3,h4⟩:=h.len;simp only[ε,κ,iS,Sh.len];omega
theorem k7.split:∀{s1 s2:List Sh} {us vs:List Value} {b:Bool},k7 (s1++s2) us vs b->∃b1 b2,k7 s1 (us.take (iS s1)) (vs.take (iS s1)) b1/\k7 s2 (us.drop (iS s1)) (vs.drop (iS s1)) b2/\b=(b1&&b2)
 |[],s2,us,vs,b,h=>⟨true,b,by simp only[iS,List.take_zero];exact .nil,by rw[aa8]at h;simpa only[iS,List.drop_zero]using h,by simp⟩
 |x::s1,s2,us,vs,b,h=>by
  rw[List.cons_append]at h;cases h with
  |s h1 h2=>
   obtain⟨b1,b2,a1,a2,rfl⟩:=h2.split;refine⟨_&&b1,b2,?_,?_,by rw[Bool.and_assoc]⟩
   ·simp only[iS,Sh.len,acY 1,ab4];exact .s h1 a1
   ·simp only[iS,Sh.len,acY 1,acO];exact a2
  |a h1 h2 h3=>
   rename_i k m p q xs ys b';obtain⟨b1,b2,a1,a2,rfl⟩:=h3.split;have e1:(p.map (Value.int k)).length=m:=by simp[h1]
   have e2:(q.map (Value.int k)).length=m:=by simp[h2]
   refine⟨p==q&&b1,b2,?_,?_,by rw[Bool.and_assoc]⟩
   ·simp only[iS,Sh.len];rw[OI e1,OI e2];exact .a h1 h2 a1
   ·simp only[iS,Sh.len];rw[NM e1,NM e2];exact a2
theorem IF:∀(l1 l2:List Sh),iS (l1++l2)=iS l1+iS l2
 |[],l2=>by simp[iS]
 |x::l1,l2=>by simp[iS,IF l1 l2,ab6]
def Pk(P:Program)(t:TypeId)(us:List Value)(v:Value):Prop:=∃d,P.underlying t=some d/\((bH d=true/\v=.agg us.toArray)\/(bH d=false/\us=[v]))
section
variable{P:Program}{w:World}
theorem tV{zs:Array Value}(hi:P.info? t=some i)(hl:off+P.cellsOf t<=zs.size)(hd:(∃d,P.underlying t=some d/\(bH d=false->P.cellsOf t=1))):
  ∃v,(part t zs off).run P w=.ok v w/\Pk P t ((zs.toList.drop off).take (P.cellsOf t)) v:=by
 obtain⟨d,hd,h1⟩:=hd;cases ha:bH d
 ·have h1:=h1 ha;have hz:zs[off]?=some zs[off]:=ab8 (by omega);refine⟨zs[off],by simp[part,fI hd,ha,hz],d,hd,.inr ⟨ha,?_⟩⟩;rw[h1,List.take_one,List.head?_drop,aaj,hz];rfl
 ·refine⟨.agg (zs.extract off (off+P.cellsOf t)),by simp[part,fI hd,ha,run_sizeOf w hi],d,hd,.inl ⟨ha,?_⟩⟩;congr 1;apply ach.1;rw[abB];simp[List.extract]
theorem rS{d:Nat}{e:TypeId}{i:TypeInfo}{l:List Sh}(hi:P.info? e=some i)(hl:iS l=P.cellsOf e)(hd:(∃d,P.underlying e=some d/\(bH d=false->P.cellsOf e=1)))(xs ys:Array Value)
  (ih:∀(us vs:List Value) (u v:Value) (b:Bool),k7 l us vs b->Pk P e us u->Pk P e vs v->(Op.equalIn d e u v).run P w=.ok b w):
  ∀(m j:Nat) (b:Bool),k7 (aae m l).flatten (xs.toList.drop (j*P.cellsOf e)) (ys.toList.drop (j*P.cellsOf e)) b->(Op.eqItems d e (P.cellsOf e) xs ys (List.range' j m)).run P w=.ok b w
 |0,j,b,h=>by
  simp only[List.replicate_zero,List.flatten_nil]at h;generalize xs.toList.drop (j*P.cellsOf e)=us at h;generalize ys.toList.drop (j*P.cellsOf e)=vs at h;cases h;simp[Op.eqItems]
 |m+1,j,b,h=>by
  rw[List.replicate_succ,acx]at h;have hlen:=h.len;simp only[aat,aby]at hlen;obtain⟨b1,b2,h1,h2,rfl⟩:=h.split;rw[hl]at h1 h2;rw[abe,abe,<-Nat.succ_mul]at h2;rw[IF,hl]at hlen;rcases aa0 (P.cellsOf e)with hz|hz
  ·obtain⟨d0,hd0,h10⟩:=hd;have ha:bH d0=true:=by
    cases ha:bH d0
    ·have:=h10 ha;omega
    ·rfl
   have hp:∀zs:Array Value,(part e zs (j*P.cellsOf e)).run P w=.ok (.agg (zs.extract (j*P.cellsOf e) (j*P.cellsOf e+P.cellsOf e))) w:=fun zs=>by simp[part,fI hd0,ha,run_sizeOf w hi]
   have hk:∀zs:Array Value,Pk P e ((zs.toList.drop (j*P.cellsOf e)).take (P.cellsOf e)) (.agg (zs.extract (j*P.cellsOf e) (j*P.cellsOf e+P.cellsOf e))):=fun zs=>⟨d0,hd0,.inl ⟨ha,by
    congr 1;apply ach.1;rw[abB];simp[List.extract]⟩⟩
   simp only[List.range'_succ,Op.eqItems,Sem.run_bind,hp,Result.andThen_ok,ih _ _ _ _ _ h1 (hk xs) (hk ys)];have hr:=rS hi hl ⟨d0,hd0,h10⟩ xs ys ih m (j+1) b2 h2;cases b1
   ·simp
   ·simpa using hr
  ·obtain⟨u,p1,p2⟩:=tV (w:=w) (zs:=xs) (off:=j*P.cellsOf e) hi (by omega) hd;obtain⟨v,q1,q2⟩:=tV (w:=w) (zs:=ys) (off:=j*P.cellsOf e) hi (by omega) hd;simp only[List.range'_succ,Op.eqItems,Sem.run_bind,p1,q1,Result.andThen_ok,ih _ _ _ _ _ h1 p2 q2];have hr:=rS hi hl hd xs ys ih m (j+1) b2 h2;cases b1
   ·simp
   ·simpa using hr
theorem wR{d:Nat}{f:TypeId->Option (List Sh)}(xs ys:Array Value):
  ∀(fs:List Field) (off:Nat) (sh:List Sh) (b:Bool),qX P f fs off=some sh->k7 sh (xs.toList.drop off) (ys.toList.drop off) b->
  (∀x∈fs,∀l i,f x.type=some l->P.info? x.type=some i->iS l=P.cellsOf x.type->(∃d,P.underlying x.type=some d/\(bH d=false->P.cellsOf x.type=1))/\∀(us vs:List Value) (u v:Value) (b:Bool),k7 l us vs b->Pk P x.type us u->Pk P x.type vs v->(Op.equalIn d x.type u v).run P w=.ok b w)->
  (Op.eqFields d xs ys fs).run P w=.ok b w
 |[],off,sh,b,hs,h,_=>by
  unfold qX at hs;cases hs;generalize xs.toList.drop off=us at h;generalize ys.toList.drop off=vs at h;cases h;simp[Op.eqFields]
 |x::fs,off,sh,b,hs,h,ih=>by
  unfold qX at hs;split at hs
  ·cases hs
  ·rename_i hno;split at hs
   ·rename_i l i l2 h1 h2 h3;split at hs
    case isFalse=>cases hs
    rename_i hl;cases hs;have hname:x.name≠ "_":=fun e=>hno (.inl e);have hoff:x.offset=off:=Classical.byContradiction fun e=>hno (.inr e);have hlen:=h.len;simp only[aat,aby]at hlen;obtain⟨b1,b2,g1,g2,rfl⟩:=h.split;rw[hl]at g1 g2;rw[abe,abe]at g2;obtain⟨hd,ih1⟩:=ih x (by simp) l i h1 h2 hl;have hr:=wR xs ys fs (off+P.cellsOf x.type) l2 b2 h3 g2 fun y hy=>ih y (by simp[hy]);rw[IF,hl]at hlen;have key:∃u v,(part x.type xs x.offset).run P w=.ok u w/\(part x.type ys x.offset).run P w=.ok v w/\(Op.equalIn d x.type u v).run P w=.ok b1 w:=by
     rw[hoff];rcases aa0 (P.cellsOf x.type)with hz|hz
     ·obtain⟨d0,hd0,h10⟩:=hd;have ha:bH d0=true:=by
       cases ha:bH d0
       ·have:=h10 ha;omega
       ·rfl
      have hp:∀zs:Array Value,(part x.type zs off).run P w=.ok (.agg (zs.extract off (off+P.cellsOf x.type))) w:=fun zs=>by simp[part,fI hd0,ha,run_sizeOf w h2]
      have hk:∀zs:Array Value,Pk P x.type ((zs.toList.drop off).take (P.cellsOf x.type)) (.agg (zs.extract off (off+P.cellsOf x.type))):=fun zs=>⟨d0,hd0,.inl ⟨ha,by
       congr 1;apply ach.1;rw[abB];simp[List.extract]⟩⟩
      exact⟨_,_,hp xs,hp ys,ih1 _ _ _ _ _ g1 (hk xs) (hk ys)⟩
     ·obtain⟨u,p1,p2⟩:=tV (w:=w) (zs:=xs) (off:=off) h2 (by omega) hd;obtain⟨v,q1,q2⟩:=tV (w:=w) (zs:=ys) (off:=off) h2 (by omega) hd;exact⟨u,v,p1,q1,ih1 _ _ _ _ _ g1 p2 q2⟩
    obtain⟨u,v,k1,k2,k3⟩:=key;simp only[Op.eqFields,ne_eq,hname,not_false_eq_true,if_true,Sem.run_bind,k1,k2,Result.andThen_ok,k3];cases b1
    ·simp
    ·simpa using hr
   ·cases hs
theorem Np:∀{n:Nat} {t:TypeId} {l:List Sh},zE P n t=some l->iS l=P.cellsOf t->∃d,P.underlying t=some d/\(bH d=false->P.cellsOf t=1)
 |0,t,l,h,_=>by unfold zE at h;cases h
 |n+1,t,l,h,hl=>by
  unfold zE at h;split at h
  ·rename_i hd;cases h;exact⟨_,hd,fun _=>hl.symm⟩
  ·rename_i hd;cases h;exact⟨_,hd,fun _=>hl.symm⟩
  ·rename_i hd;cases h;exact⟨_,hd,fun _=>hl.symm⟩
  ·rename_i hd;exact⟨_,hd,fun e=>(by cases e)⟩
  ·rename_i hd;exact⟨_,hd,fun e=>(by cases e)⟩
  ·cases h
theorem Ef(hd:P.underlying t=some d)(ha:bH d=true)(h:Pk P t us v):v=.agg us.toArray:=by
 obtain⟨d',h1,h2⟩:=h;rw[hd]at h1;cases h1;rcases h2 with⟨_,h2⟩|⟨h2,_⟩
 ·exact h2
 ·rw[ha]at h2;cases h2
theorem Ad(hd:P.underlying t=some d)(ha:bH d=false)(h:Pk P t us v):us=[v]:=by
 obtain⟨d',h1,h2⟩:=h;rw[hd]at h1;cases h1;rcases h2 with⟨h2,_⟩|⟨_,h2⟩
 ·rw[ha]at h2;cases h2
 ·exact h2
theorem Dn:∀(n:Nat) (t:TypeId) (sh:List Sh) (d:Nat) (us vs:List Value) (u v:Value) (b:Bool),zE P n t=some sh->k7 sh us vs b->Pk P t us u->Pk P t vs v->n+1<=d->(Op.equalIn d t u v).run P w=.ok b w
 |0,t,sh,d,us,vs,u,v,b,h,_,_,_,_=>by unfold zE at h;cases h
 |n+1,t,sh,0,us,vs,u,v,b,h,_,_,_,hn=>by omega
 |n+1,t,sh,d+1,us,vs,u,v,b,h,he,hu,hv,hn=>by
  unfold zE at h;split at h
  ·rename_i hd;cases h;obtain rfl:=Ad hd rfl hu;obtain rfl:=Ad hd rfl hv;cases he with
   |s h1 h2=>
    cases h2;rcases h1 with⟨_,a,b,rfl,rfl,rfl⟩|⟨e,_⟩|⟨e,_⟩
    ·rw[run_equalIn_bool' w d t _ _ hd];simp
    ·cases e
    ·cases e
  ·rename_i hd;cases h;obtain rfl:=Ad hd rfl hu;obtain rfl:=Ad hd rfl hv;cases he with
   |s h1 h2=>
    cases h2;rcases h1 with⟨e,_⟩|⟨_,k,a,b,rfl,rfl,rfl⟩|⟨e,_⟩
    ·cases e
    ·rw[run_equalIn_int w d t _ _ _ _ hd];simp
    ·cases e
  ·rename_i hd;cases h;obtain rfl:=Ad hd rfl hu;obtain rfl:=Ad hd rfl hv;cases he with
   |s h1 h2=>
    cases h2;rcases h1 with⟨e,_⟩|⟨e,_⟩|⟨_,a,b,rfl,rfl,rfl⟩
    ·cases e
    ·cases e
    ·rw[run_equalIn_string w d t _ _ hd];simp[ByteArray.toList_eq]
  ·rename_i m e hd;obtain rfl:=Ef hd rfl hu;obtain rfl:=Ef hd rfl hv;split at h
   ·rename_i k i he' hi;rw[ζ]at h;obtain⟨hsz,h⟩:=h;cases h;cases he with
    |a h1 h2 h3=>
     cases h3;rename_i p q;obtain⟨d',rfl⟩:∃k,d=k+1:=⟨d-1,by omega⟩;rw[run_equalIn_array w (d'+1) _ _ hd hi,show P.cellsOf e=1 by simp[Program.cellsOf,hi,hsz],Fa (k:=k) d' he' _ _ p q (by simp) (by simp) w _ (fun i hi=>by rw[h1,h2];simpa using hi),Ko h1 h2,Bool.and_true]
   ·rename_i d0 i hnot hd0 hi;rw[η]at h;obtain⟨l,hl0,h⟩:=h;rw[ζ]at h;obtain⟨hl,h⟩:=h;cases h;rw[run_equalIn_array w d _ _ hd hi,List.range_eq_range'];exact rS hi hl (Np hl0 hl) _ _ (fun us vs u v b h1 h2 h3=>Dn n e l d us vs u v b hl0 h1 h2 h3 (by omega)) m 0 b (by simpa using he)
   ·cases h
  ·rename_i fs hd;rw[acq]at h;obtain⟨hst,h⟩:=h;obtain rfl:=Ef hd rfl hu;obtain rfl:=Ef hd rfl hv;have hT':P.underlying t=some (.struct (P.fieldsOf t)):=by simp[Program.fieldsOf,hd]
   have hfs:P.fieldsOf t=fs:=by simp[Program.fieldsOf,hd]
   rw[run_equalIn_struct w d t _ _ hT' (by simpa using hst),hfs];exact wR _ _ fs.toList 0 sh b h (by simpa using he) fun x _ l i hl0 hi hl=>⟨Np hl0 hl,fun us vs u v b h1 h2 h3=>Dn n x.type l d us vs u v b hl0 h1 h2 h3 (by omega)⟩
  ·cases h
end
section
variable{P:Program}{o:Oper}{lk:bJ}{n:Nat}{ev:Operand->AV}{K:AV->List bn->List Hd->Prop}
theorem MG{sh:List Sh}(ho:o.op=.binOp op T x y yT)(hT:(∃m e,P.underlying T=some (.array m e))\/∃fs,P.underlying T=some (.struct fs))
  (hc1:P.eqGuardType P.depth T=false) (hc2:uH op=true) (hsh:zE P 100 T=some sh) (h:aY P lk n ev (.eqg (dR op) sh x y) K):PS P o (.eqg (dR op) sh x y) lk n ev K:=by
 obtain⟨xs,ys,b,hx,hy,hb,hK⟩:=h;have hops:op=.eql\/op=.neq:=by cases op<;>simp[uH]at hc2|-
 refine⟨_,_,_,hK,fun _=>⟨rfl,rfl⟩,(by intro h hh;cases hh),fun G m' w ρ _ lk2 hls hS hev _=>?_⟩;have h1:=fj hev hx (by simp[bu.operands]);have h2:=fj hev hy (by simp[bu.operands]);unfold AV.aq at h1 h2;obtain⟨us,hu,hus⟩:=h1;obtain⟨vs,hv,hvs⟩:=h2;obtain⟨d,hd,ha⟩:∃d,P.underlying T=some d/\bH d=true:=by
  rcases hT with⟨m,e,h⟩|⟨fs,h⟩
  ·exact⟨_,h,rfl⟩
  ·exact⟨_,h,rfl⟩
 have hrun:(Op.equalIn 10000 T (.agg us) (.agg vs)).run P w=.ok b w:=
  Dn 100 T sh 10000 us.toList vs.toList _ _ b hsh (HA hb hus hvs) ⟨d,hd,.inl ⟨ha,by simp⟩⟩ ⟨d,hd,.inl ⟨ha,by simp⟩⟩ (by omega)
 refine bp.val (v:=.bool (if dR op=true then !b else b)) (w':=w) ?_ (bj.val hS (by unfold AV.aq DV.aq;rfl));rcases hops with rfl|rfl
 ·simp only[execOp,ho,hu,hv,Sem.run_bind,run_eqGuard_agg w _ _ _ _ _ _ hc1,Result.andThen_ok,run_eql_struct,hrun,Sem.run_pure];rfl
 ·simp only[execOp,ho,hu,hv,Sem.run_bind,run_eqGuard_agg w _ _ _ _ _ _ hc1,Result.andThen_ok,run_neq_struct,hrun,Sem.run_pure];rfl
theorem bj.data{lk:bJ}{n:Nat}(hS:cf G m lk w)(vs:List Value)(h1:w'.os=w.os)(h2:TD w w')(h3:w'.output=w.output)(hsz:w.heap.size<=w'.heap.size)
  (hold:∀j,j<w.heap.size->w'.heap[j]?=w.heap[j]?) (hnew:∀j v,vs[j]?=some v->w'.cell? ⟨w.heap.size,j,none⟩=some v) {a:AV}
  (ha:∀G',Gh.le G G'->(∀j v,vs[j]?=some v->G' w.heap.size j=some v)->AV.aq G' m a v):bj G m lk n a [] [] w v w':=by
 let G':Gh:=fun b o=>if b=w.heap.size then vs[o]?else G b o
 have hle:Gh.le G G':=fun b o x hx=>by
  by_cases e:b=w.heap.size
  ·rw[vW hS (Nat.le_of_eq e.symm) o]at hx;cases hx
  ·show(if b=w.heap.size then vs[o]?else G b o)=some x;rw[if_neg e];exact hx
 have hne:∀b,b≠w.heap.size->∀o,G' b o=G b o:=fun b e o=>if_neg e;refine⟨G',m,⟨fun h b sz hm=>?_,?_,hS.da,fun b o x hx=>?_,?_,hS.gl.mono hle,fun h b sz fp hm=>?_⟩,ha G' hle (fun j v hj=>by show(if w.heap.size=w.heap.size then vs[j]?else _)=_;rw[if_pos rfl];exact hj),⟨h1,h2,h3,hsz,fun b hb _=>hold b hb,fun b hb _ o=>hne b (by omega) o,hle⟩,fun _ _=>rfl,fun j _ _ hj=>by simp at hj⟩
 ·obtain⟨bl,hl,hb⟩:=hS.fh h b sz hm;have hlt:=hS.lt hm;rw[iL,eD];exact⟨bl,hl,hb.mono hle (HM.le.refl m) (hne b (by omega)) (hold b hlt)⟩
 ·rw[iL,eD];exact hS.nil
 ·by_cases e:b=w.heap.size
  ·subst e;have hx:(if w.heap.size=w.heap.size then vs[o]?else G w.heap.size o)=some x:=hx;rw[if_pos rfl]at hx;exact hnew o x hx
  ·rw[hne b e o]at hx;have hc:=hS.gh b o x hx;have hlt:b<w.heap.size:=World.block_lt_of_cell? w _ hc;unfold World.cell? at hc|-;rw[hold b hlt];exact hc
 ·rw[iL,eD];exact hS.dead
 ·obtain⟨bl,hl,hb⟩:=hS.di h b sz fp hm;rw[iL,eD];exact⟨bl,hl,hb.mono hle (HM.le.refl m) (fun c hc=>hne c (by have:=hb.lt c hc;omega)) (fun c hc=>hold c (hb.lt c hc)) (.all hold)⟩
theorem LL{G:Gh}{f:Nat->Option Value}:∀(t:List UInt8) (o:Nat),(∀j c,t[j]?=some c->f (o+j)=some (.int .u8 (c.toNat:Nat)))->DV.rows G f 1 o (t.map fun c=>[DV.I .u8 (c.toNat:Nat)])
 |[],_,_=>by unfold DV.rows;trivial
 |c::t,o,h=>by
  rw[aaM];unfold DV.rows;refine⟨rfl,?_,LL t (o+1) fun j d hj=>?_⟩
  ·unfold DV.cells;refine⟨⟨_,h 0 c rfl,by unfold DV.aq;rfl⟩,by unfold DV.cells;trivial⟩
  ·have:=h (j+1) d hj;rwa[show o+1+j=o+(j+1) by omega]
theorem Ti{dst:TypeId}(ho:o.op=.convert src dst x)(hs:P.underlying src=some .string)(hd:P.underlying dst=some (.slice e))(he:P.underlying e=some (.int .u8))(h:aY P lk n ev (.kg x) K):PS P o (.kg x) lk n ev K:=by
 obtain⟨t,hx,hK⟩:=h;refine⟨_,_,_,hK,(by intro hh;cases hh),(by intro h hh;cases hh),fun G m w ρ _ lk2 _ hS hev _=>?_⟩;have hr:=fj hev hx (by simp[bu.operands]);unfold AV.aq DV.aq at hr;refine bp.val (v:=.slice (some ⟨w.heap.size,0,none⟩) (⟨t.toArray⟩:ByteArray).size (grownCap w (⟨t.toArray⟩:ByteArray).size 0 e)) (w':=Lib.bytesWorld w e ⟨t.toArray⟩) ?_ (bj.data (w':=Lib.bytesWorld w e ⟨t.toArray⟩) hS (t.map fun c=>.int .u8 (c.toNat:Nat)) rfl ⟨rfl,Nat.le_succ _⟩ rfl (by rw[Lib.bytesWorld_size];omega) (fun j hj=>Lib.bytesWorld_at_old w e _ j hj) (fun j v hj=>?_) fun G' _ hG'=>?_)
 ·simp only[execOp,ho,hr,Sem.run_bind,Lib.run_convert_string_bytes w src dst e _ hs hd he,Result.andThen_ok,Sem.run_pure]
 ·rw[aac,ι]at hj;obtain⟨c,hc,rfl⟩:=hj;have hlt:=(υ.1 hc).1;rw[Lib.bytesWorld_cell w e _ j (by simpa[ByteArray.size]using hlt)];simp only[List.getD,hc];rfl
 ·unfold AV.aq DV.aq;have h1:(⟨t.toArray⟩:ByteArray).size=t.length:=by simp[ByteArray.size]
  have h2:(t.map fun c=>[DV.I .u8 (c.toNat:Nat)]).length=t.length:=κ _;have h3:=grownCap_ge w (⟨t.toArray⟩:ByteArray).size 0 e;refine⟨some ⟨w.heap.size,0,none⟩,grownCap w (⟨t.toArray⟩:ByteArray).size 0 e,?_,?_,(fun h=>by cases h),fun _=>⟨w.heap.size,0,1,rfl,LL t 0 fun j c hj=>?_⟩⟩
  ·rw[h1,h2]
  ·rw[h2,<-h1];exact h3
  ·rw[aan];exact hG' j _ (by rw[aac,hj];rfl)
theorem bMg{T:Nat}{k0:Nat}(ho:o.op=.buildSlice T k ps)(hr:aA P o=some (.bslice k0 xs))(h:aY P lk n ev (.bsF k0 xs) K):PS P o (.bsF k0 xs) lk n ev K:=by
 simp only[aA,ho]at hr;split at hr
 case h_2=>cases hr
 rename_i e hT;simp only[η]at hr;obtain⟨i,hi,hr⟩:=hr;split at hr
 case isFalse=>cases hr
 rename_i hc;cases hr;simp only[μ,beq_iff_eq,decide_eq_true_eq]at hc;obtain⟨⟨⟨hc1,hc2⟩,hc3⟩,hc4⟩:=hc;obtain⟨z,hz⟩:=aa5.1 hc4;have hk:k=ps.size:=by have:=congrArg List.length hc1;simpa using this.symm
 rcases h with⟨hnil,hK⟩|⟨hne,es,hes,hK⟩
 ·have hps:ps=#[]:=by
   have:ps.toList=[]:=by simpa using hnil
   rw[<-aaL (xs:=ps),this]
  subst hps;have hk0:k=0:=by simpa using hk
  subst hk0;refine⟨_,_,_,hK,fun _=>⟨rfl,rfl⟩,(by intro h hh;cases hh),fun G m w ρ _ lk2 _ hS hev _=>?_⟩;refine bp.val (v:=.slice (some ⟨w.heap.size,0,none⟩) 0 0) (w':=w.alloc (.cells #[] e)) ?_ (bj.AK hS _ ?_)
  ·simp[execOp,ho,Instr.buildSlice,run_underlying hT,cO hi,Instr.fill,newRow,Array.range_zero']
  ·unfold AV.aq;refine⟨?_,_,rfl⟩;unfold DV.aq;exact⟨_,0,rfl,by simp,fun _=>rfl,fun h=>absurd rfl h⟩
 refine⟨_,_,_,hK,fun _=>⟨rfl,rfl⟩,(by intro h hh;cases hh),fun G m w ρ _ lk2 _ hS hev _=>?_⟩;have hzc:∀x∈ps.toList.map (·.2),AV.aq G m (ev x) (ρ x):=fun x hx=>hev x (by simpa[bu.operands]using hx);have hkpos:0<k:=by
  rw[hk];rcases aa0 ps.size with h0|h0
  ·exfalso;apply hne;have:ps=#[]:=by simpa using h0
   subst this;rfl
  ·exact h0
 let css:List (List Value):=(ps.toList.map (·.2)).map fun x=>(ρ x).cells.toList;have hout3:=vV (lk:=fun _=>none) (ρ:=ρ) hS (fun h mt k es hh=>by cases hh) hes hzc (fun h hh hsome=>by cases hsome);have hsize:∀x∈ps.toList.map (·.2),(ρ x).cells.size=i.size:=hout3.1;have hzs:(acD (k*i.size)).map (z.cells[· %z.cells.size]!)=((acD (k*i.size)).map (z.cells[· %z.cells.size]!)):=rfl;let base:Array Value:=(acD (k*i.size)).map (z.cells[· %z.cells.size]!);have hbase:base.toList.length=k*i.size:=by simp[base]
 let rs:List (Nat×List Value):=(css.zipIdx 0).map fun p=>(p.2*i.size,p.1);have hcssl:css.length=k:=by simp[css,hk]
 have hparts:∀(j i':Nat) (v:Value),(ps.map fun(i,x)=>(i,ρ x)).toList[j]?=some (i',v)->i'=j/\j<k/\css[j]?=some v.cells.toList/\v.cells.size=i.size:=fun j i' v hj=>by
  rw[abm,aac]at hj;cases hx:ps.toList[j]?with
  |none=>rw[hx]at hj;cases hj
  |some p=>
   rw[hx]at hj;obtain⟨i2,x⟩:=p;simp only[aaZ,Option.some.injEq,Prod.mk.injEq]at hj;obtain⟨rfl,rfl⟩:=hj;have hlt:=(υ.1 hx).1;have h1:(abc k)[j]?=some i2:=by rw[<-hc1,aac,hx];rfl
   have hlt':j<k:=by rw[hk];simpa using hlt
   rw[adk hlt']at h1;cases h1;refine⟨rfl,hlt',by simp[css,hx],hsize x ?_⟩;exact aaS.2 ⟨_,aar hx,rfl⟩
 obtain⟨out,ho1,ho2⟩:=yP (fun j=>some (j*i.size,i.size)) (ps.map fun(i,x)=>(i,ρ x)).toList base rs (by simp[rs,hcssl,hk]) (fun j i' v hj=>by
  obtain⟨rfl,h1,h2,h3⟩:=hparts j i' v hj;refine⟨i'*i.size,?_,by rw[h3],?_⟩
  ·simp[rs,List.getElem?_zipIdx,h2]
  ·rw[h3];have:base.size=k*i.size:=by simpa using hbase
   rw[this,<-Nat.succ_mul];exact aaF _ h1)
 have hout:out.toList=css.flatten:=by
  rw[ho2];have:=Ib (k:=i.size) css 0 [] base.toList (fun c hc=>by
   simp only[css,aaS]at hc;obtain⟨x,hx,rfl⟩:=hc;simpa using hsize x (aaS.2 hx)) (by simp) (by rw[hbase,hcssl])
  simpa[rs]using this
 refine bp.val (v:=.slice (some ⟨w.heap.size,0,none⟩) k k) (w':=w.alloc (.cells out e)) ?_ ?_
 ·have hnz:¬(k*i.size=0):=by have:=Nat.mul_pos hkpos hc3;omega
  have hle:¬(16777216<k*i.size):=by omega
  have ho1':Instr.fill (fun j=>some (j*i.size,i.size)) ((acD (k*i.size)).map (z.cells[· %z.cells.size]!)) (ps.map fun(i,x)=>(i,ρ x)).toList=some out:=ho1;simp only[execOp,ho,Instr.buildSlice,Sem.run_bind,run_underlying hT,cO hi,Result.andThen_ok];simp only[show(2:Nat)^24=16777216 from rfl,hle,hnz,if_false,Sem.run_bind,lN hi hz,Result.andThen_ok,Sem.run_pure,ho1'];simp[newRow]
 ·
  have hosz:out.size=k*i.size:=by
   have h1:out.toList.length=(css.flatten).length:=by rw[hout]
   have h2:(css.flatten).length=css.length*i.size:=by
    have:∀(l:List (List Value)),(∀c∈l,c.length=i.size)->l.flatten.length=l.length*i.size:=fun l=>by
     induction l with
     |nil=>simp
     |cons c l ih=>intro hl;simp[ih (fun d hd=>hl d (by simp[hd])),hl c (by simp),aaW];omega
    exact this css (fun c hc=>by
     simp only[css,aaS]at hc;obtain⟨x,hx,rfl⟩:=hc;simpa using hsize x (aaS.2 hx))
   rw[h2,hcssl]at h1;simpa using h1
  refine bj.data (w':=w.alloc (.cells out e)) hS out.toList rfl (.same rfl rfl) rfl (by rw[World.size_alloc];omega) (fun j hj=>heap_alloc_old w _ hj) (fun j v hj=>?_) fun G' hle hG'=>?_
  ·have:=heap_alloc_new w (.cells out e (0,0));unfold World.cell?;rw[this];simpa using hj
  ·have hl:es.length=k:=by rw[hout3.2.1];simp[hk]
   unfold AV.aq DV.aq;refine⟨⟨some ⟨w.heap.size,0,none⟩,k,by rw[hl],by omega,(fun h=>by cases h),fun _=>⟨w.heap.size,0,i.size,rfl,?_⟩⟩,some ⟨w.heap.size,0,none⟩,by rw[hl]⟩;refine(hout3.2.2 (fun o=>G' w.heap.size o) 0 (fun j hj=>?_)).mono hle (fun _ _ h=>h);rw[aan];have hj':j<out.toList.length:=by rw[hout];exact hj
   show G' w.heap.size j=(css.flatten)[j]?;rw[<-hout,ν hj'];exact hG' j _ (ν hj')
theorem bPa(ho:o.op=.makeInterface T x)(hT:P.underlying T=some (.struct fs))(h:aY P lk n ev (.mkI T x) K):PS P o (.mkI T x) lk n ev K:=by
 obtain⟨hx,hK⟩:=h;refine⟨_,_,_,hK,fun _=>⟨rfl,rfl⟩,(by intro h hh;cases hh),fun G m w ρ _ lk2 _ hS hev _=>?_⟩;have hr:=fj hev hx (by simp[bu.operands]);unfold AV.aq at hr;obtain⟨vs,hv,hvs⟩:=hr;unfold AV.bb at hvs;have:vs=#[]:=by simpa using hvs
 subst this;refine bp.val (v:=.iface T (.agg #[])) (w':=w) ?_ (bj.val hS (by unfold AV.aq DV.aq;rfl));simp[execOp,ho,hv,Instr.makeInterface,run_underlying hT]
theorem bG1{ag:Option Nat}(ho:o.op=.load T x)(hr:aA P o=some (.load ag x))(h:aY P lk n ev (.loadD ag x) K):PS P o (.loadD ag x) lk n ev K:=by
 have hp:aY P (fun _=>none) n ev (.load ag x) (fun a nbs fz=>nbs=[]/\fz=[]/\K a nbs fz):=by show rO _ ag (fun a=>([]:List bn)=[]/\([]:List Hd)=[]/\K a [] []) (ev x);simp only[true_and];exact h
 obtain⟨a,nbs,fz,⟨rfl,rfl,hK⟩,_,_,hD⟩:=Fs ho hr hp;exact⟨a,[],[],hK,fun _=>⟨rfl,rfl⟩,(by intro h hh;cases hh),fun G m w ρ hρ lk2 _ hS hev hn=>hD G m w ρ hρ lk2 (fun _ y b hb=>by cases hb) hS hev hn⟩
theorem Rx{mx:Option Operand}(ho:o.op=.slice T x lo hi mx)(hT:P.underlying T=some (.slice e))(hr:aA P o=some (.sll k x lo hi mx))(h:aY P lk n ev (.sllD k x lo hi mx) K):PS P o (.sllD k x lo hi mx) lk n ev K:=by
 have hp:aY P (fun _=>none) n ev (.sll k x lo hi mx) (fun a nbs fz=>nbs=[]/\fz=[]/\K a nbs fz):=by
  have h:(match ev x with
   |.D (.L es)=>mI k ev lo hi mx (fun a=>K a [] []) (.D (.L es))
   |.fl es=>mI k ev lo hi mx (fun a=>K a [] []) (.fl es)
   |_=>False):=h
  show AV.live (fun _=>none) (ev x)=true/\mI k ev lo hi mx (fun a=>([]:List bn)=[]/\([]:List Hd)=[]/\K a [] []) (ev x);simp only[true_and];split at h
  ·rename_i es hx;rw[hx];exact⟨rfl,h⟩
  ·rename_i es hx;rw[hx];exact⟨rfl,h⟩
  ·exact h.elim
 obtain⟨a,nbs,fz,⟨rfl,rfl,hK⟩,_,_,hD⟩:=Ki ho hT hr hp;exact⟨a,[],[],hK,fun _=>⟨rfl,rfl⟩,(by intro h hh;cases hh),fun G m w ρ hρ lk2 _ hS hev hn=>hD G m w ρ hρ lk2 (fun _ y b hb=>by cases hb) hS hev hn⟩
theorem bBw{i:Operand}(ho:o.op=.indexAddr T x i)(hT:P.underlying T=some (.slice e))(hr:aA P o=some (.iaddr k x i))(h:aY P lk n ev (.iaddrD k x i) K):PS P o (.iaddrD k x i) lk n ev K:=by
 have hp:aY P (fun _=>none) n ev (.iaddr k x i) (fun a nbs fz=>nbs=[]/\fz=[]/\K a nbs fz):=by
  obtain⟨kd,j,hj,h0,h'⟩:=h;split at h'
  ·rename_i es hx;obtain⟨e',he,hl,hK⟩:=h';refine⟨by rw[hx];rfl,kd,j,hj,h0,?_⟩;rw[hx];exact⟨e',he,hl,rfl,rfl,hK⟩
  ·rename_i es hx;obtain⟨e',he,hl,hK⟩:=h';refine⟨by rw[hx];rfl,kd,j,hj,h0,?_⟩;rw[hx];exact⟨e',he,hl,rfl,rfl,hK⟩
  ·exact h'.elim
 obtain⟨a,nbs,fz,⟨rfl,rfl,hK⟩,_,_,hD⟩:=LG ho hT hr hp;exact⟨a,[],[],hK,fun _=>⟨rfl,rfl⟩,(by intro h hh;cases hh),fun G m w ρ hρ lk2 _ hS hev hn=>hD G m w ρ hρ lk2 (fun _ y b hb=>by cases hb) hS hev hn⟩
theorem QX{ms:Array (String×TypeId)}(ho:o.op=.binOp op T x (.const .nilIface) yT)(hT:P.underlying T=some (.interface ms))(hc:uH op=true)(h:aY P lk n ev (.isn (dR op) x) K):PS P o (.isn (dR op) x) lk n ev K:=by
 obtain⟨v,hx,h⟩:=h;have hT':P.underlying T=some (.interface (P.methodsAt T)):=by simp[Program.methodsAt,hT]
 have hops:op=.eql\/op=.neq:=by cases op<;>simp[uH]at hc|-
 split at h
 ·refine⟨_,_,_,h,fun _=>⟨rfl,rfl⟩,(by intro h hh;cases hh),fun G m w ρ hρ lk2 _ hS hev _=>?_⟩;have hr:=fj hev hx (by simp[bu.operands]);unfold AV.aq DV.aq at hr;have he:(Op.equalIn 10000 T .nilIface .nilIface).run P w=.ok true w:=run_equalIn_nil_nil w 9999 T hT';refine bp.val (v:=.bool (!dR op)) (w':=w) ?_ (bj.val hS (by unfold AV.aq DV.aq;rfl));rcases hops with rfl|rfl
  ·simp[execOp,ho,hr,hρ,eqGuard,binOp,Op.equal,Op.maxDepth,he,dR]
  ·simp[execOp,ho,hr,hρ,eqGuard,binOp,Op.equal,Op.maxDepth,he,dR]
 ·rename_i u x';refine⟨_,_,_,h,fun _=>⟨rfl,rfl⟩,(by intro h hh;cases hh),fun G m w ρ hρ lk2 _ hS hev _=>?_⟩;have hr:=fj hev hx (by simp[bu.operands]);unfold AV.aq DV.aq at hr;have he:(Op.equalIn 10000 T (.iface u x') .nilIface).run P w=.ok false w:=run_equalIn_held_nil w 9999 T u x' hT';refine bp.val (v:=.bool (dR op)) (w':=w) ?_ (bj.val hS (by unfold AV.aq DV.aq;rfl));rcases hops with rfl|rfl
  ·simp[execOp,ho,hr,hρ,eqGuard,binOp,Op.equal,Op.maxDepth,he,dR]
  ·simp[execOp,ho,hr,hρ,eqGuard,binOp,Op.equal,Op.maxDepth,he,dR]
 ·exact h.elim
theorem bM5{xT:TypeId}(ho:o.op=.typeAssert x xT T true)(hT:P.underlying T=some (.struct fs))(h:aY P lk n ev (.tas T x) K):PS P o (.tas T x) lk n ev K:=by
 obtain⟨hx,hK⟩:=h;refine⟨_,_,_,hK,fun _=>⟨rfl,rfl⟩,(by intro h hh;cases hh),fun G m w ρ _ lk2 _ hS hev _=>?_⟩;have hr:=fj hev hx (by simp[bu.operands]);unfold AV.aq DV.aq at hr;refine bp.val (v:=.tuple #[.agg #[],.bool true]) (w':=w) ?_ (bj.val hS ?_)
 ·simp[execOp,ho,hr,Instr.typeAssert,run_underlying hT]
 ·unfold AV.aq;refine⟨_,rfl,?_⟩;unfold AV.bb;refine⟨_,_,rfl,?_,?_⟩
  ·unfold AV.aq;exact⟨_,rfl,by unfold AV.bb;rfl⟩
  ·unfold AV.bb;exact⟨_,_,rfl,by unfold AV.aq DV.aq;rfl,by unfold AV.bb;rfl⟩
end
theorem wG(k:IntKind):∀(m:Nat) (ns:List Int),ns.length=m->abr Value.int (aae m k) ns=ns.map (Value.int k)
 |0,ns,h=>by rw[aas.1 h];rfl
 |m+1,[],h=>by cases h
 |m+1,n::ns,h=>by show Value.int k n::abr Value.int (aae m k) ns=Value.int k n::ns.map (Value.int k);rw[wG k m ns (by simpa using h)]
theorem Og{P:Program}:∀{fs:List Field} {off:Nat} {ks:List IntKind},zj P fs off=some ks->∃sh,qX P (zE P 1) fs off=some sh/\∀ns ns':List Int,ns.length=ks.length->ns'.length=ks.length->k7 sh (abr Value.int ks ns) (abr Value.int ks ns') (ns==ns')
 |[],off,ks,h=>by
  cases h;refine⟨[],rfl,fun ns ns' h h'=>?_⟩;rw[aas.1 h,aas.1 h'];exact .nil
 |x::fs,off,ks,h=>by
  unfold zj at h;split at h
  ·cases h
  ·rename_i hno;split at h
   ·rename_i k i l h1 h2 h3;rw[ζ]at h;obtain⟨hsz,h⟩:=h;cases h;obtain⟨sh,e1,e2⟩:=Og h3;have hc:P.cellsOf x.type=1:=by simp[Program.cellsOf,h2,hsz]
    refine⟨.s 1::sh,?_,fun ns ns' hn hn'=>?_⟩
    ·unfold qX;rw[if_neg hno];have:zE P 1 x.type=some [.s 1]:=by unfold zE;rw[h1]
     rw[this,h2,hc,e1];rfl
    ·cases ns with
     |nil=>cases hn
     |cons n ns=>cases ns' with
      |nil=>cases hn'
      |cons n' ns'=>
       have:=e2 ns ns' (by simpa using hn) (by simpa using hn');show k7 (.s 1::sh) (Value.int k n::abr Value.int l ns) (Value.int k n'::abr Value.int l ns') ((n==n')&&(ns==ns'));exact .s (.inr (.inl ⟨rfl,k,n,n',rfl,rfl,rfl⟩)) this
   ·cases h
theorem PC(h:s9 P T=some ks):(∃d,P.underlying T=some d/\bH d=true)/\∃sh,zE P 2 T=some sh/\∀ns ns':List Int,ns.length=ks.length->ns'.length=ks.length->k7 sh (abr Value.int ks ns) (abr Value.int ks ns') (ns==ns'):=by
 unfold s9 at h;split at h
 ·rename_i m e hu;split at h
  ·rename_i k i h1 h2;rw[ζ]at h;obtain⟨hsz,h⟩:=h;cases h;refine⟨⟨_,hu,rfl⟩,[.a k m],?_,fun ns ns' hn hn'=>?_⟩
   ·unfold zE;rw[hu];simp only;rw[h1,h2];simp only;rw[if_pos hsz]
   ·rw[aaX]at hn hn';rw[wG k m ns hn,wG k m ns' hn'];have:=k7.a (k:=k) (r:=[]) (xs:=[]) (ys:=[]) (b:=true) hn hn' .nil;simpa using this
  ·cases h
 ·rename_i fs hu;rw[acq]at h;obtain⟨hst,h⟩:=h;obtain⟨sh,e1,e2⟩:=Og h;refine⟨⟨_,hu,rfl⟩,sh,?_,e2⟩;unfold zE;rw[hu];simp only;rw[if_neg hst];exact e1
 ·cases h
section
variable{P:Program}{w:World}{kt:TypeId}{kd:KD}
theorem MK{cs:Array Value}{e:Bool}:∀{fs:List Field} {off:Nat} {ks:List IntKind} {ns:List Int},zj P fs off=some ks->ns.length=ks.length->cs.toList.drop off=abr Value.int ks ns->
  (forIn fs PUnit.unit fun f (_:PUnit)=>(if f.name≠ "_" then(part f.type cs f.offset>>=fun a=>Instr.checkKey e 9999 f.type a>>=fun _=>pure (ForInStep.yield PUnit.unit))else pure (ForInStep.yield PUnit.unit):Sem (ForInStep PUnit))).run P w=.ok PUnit.unit w
 |[],off,ks,ns,h,_,_=>by simp
 |x::fs,off,ks,ns,h,hn,hc=>by
  unfold zj at h;split at h
  ·cases h
  ·rename_i hno;split at h
   ·rename_i k i l h1 h2 h3;rw[ζ]at h;obtain⟨hsz,h⟩:=h;cases h;have hname:x.name≠ "_":=fun e=>hno (.inl e);have hoff:x.offset=off:=Classical.byContradiction fun e=>hno (.inr e);cases ns with
    |nil=>cases hn
    |cons n ns=>
     have hc0:cs[off]?=some (.int k n):=by have:=congrArg List.head? hc;rw[List.head?_drop,aaj]at this;exact this
     have hc1:cs.toList.drop (off+1)=abr Value.int l ns:=by have:=congrArg (List.drop 1) hc;rw[abe]at this;exact this
     have p1:(part x.type cs x.offset).run P w=.ok (.int k n) w:=by simp[part,fI h1,bH,hoff,hc0]
     have p2:(Instr.checkKey e 9999 x.type (.int k n)).run P w=.ok () w:=MapKept.run_checkKey h1 (show MapKept.IsKey (.int k) (.int k n)from rfl) e 9998;simp only[List.forIn_cons,Sem.run_bind,hname,ne_eq,not_false_eq_true,if_true,Result.andThen_ok,p1,p2,Sem.run_pure];exact MK h3 (by simpa using hn) hc1
   ·cases h
theorem wJ{e:Bool}(hd:sq P kt kd)(hk:mV kd v):(Instr.checkKey e 10000 kt v).run P w=.ok () w:=by
 cases kd with
 |i k=>
  have hk':MapKept.IsKey (.int k) v:=by cases v<;>first|exact hk|exact hk.elim
  exact MapKept.run_checkKey hd hk' e 9999
 |s=>
  have hk':MapKept.IsKey .string v:=by cases v<;>first|exact hk|exact hk.elim
  exact MapKept.run_checkKey hd hk' e 9999
 |a ks=>
  cases v<;>first|exact hk.elim|skip
  rename_i cs;obtain⟨ns,hn,hc⟩:=hk;have hd:s9 P kt=some ks:=hd;unfold s9 at hd;rw[show(10000:Nat)=9999+1 from rfl,Instr.checkKey];split at hd
  ·rename_i m et hu;split at hd
   ·rename_i k i h1 h2;rw[ζ]at hd;obtain⟨hsz,hd⟩:=hd;cases hd;rw[aaX]at hn;rw[wG k m ns hn]at hc;simp only[Sem.run_bind,run_underlying hu,Result.andThen_ok];simp only[Std.Legacy.Range.forIn_eq_forIn_range',Std.Legacy.Range.size,Nat.sub_zero,Nat.add_one_sub_one,Nat.div_one];have each:∀j∈List.range' 0 m,∃n,cs[j]?=some (.int k n):=fun j hj=>by
     have hj:j<ns.length:=by rw[hn];have:=List.mem_range'.1 hj;omega
     refine⟨ns[j],?_⟩;rw[<-aaj,hc,aac,ν hj];rfl
    have hcl:P.cellsOf et=1:=by simp[Program.cellsOf,h2,hsz]
    generalize List.range' 0 m=is at each
    induction is with
    |nil=>simp
    |cons j is ih=>
     obtain⟨n,hj⟩:=each j (by simp);have p1:(part et cs (j*P.cellsOf et)).run P w=.ok (.int k n) w:=by simp[part,fI h1,bH,hcl,hj]
     have p2:(Instr.checkKey e 9999 et (.int k n)).run P w=.ok () w:=MapKept.run_checkKey h1 (show MapKept.IsKey (.int k) (.int k n)from rfl) e 9998;simp only[List.forIn_cons,Sem.run_bind,run_sizeOf w h2,Result.andThen_ok,p1,p2,Sem.run_pure];exact ih (fun y hy=>each y (by simp[hy]))
   ·cases hd
  ·rename_i fs hu;rw[acq]at hd;simp only[Sem.run_bind,run_underlying hu,Result.andThen_ok];rw[<-Array.forIn_toList];have:=MK (w:=w) (cs:=cs) (e:=e) hd.2 hn (by simpa using hc);rw[this];rfl
  ·cases hd
theorem UB(hd:s9 P kt=some ks){u:Value}(hu:mV (.a ks) u)(hv:mV (.a ks) v):∃r:Bool,(Op.equal kt u v).run P w=.ok r w/\(r=true↔u=v):=by
 cases u<;>first|exact hu.elim|skip
 cases v<;>first|exact hv.elim|skip
 rename_i cs ds;obtain⟨ns,e1,e2⟩:=hu;obtain⟨ns',f1,f2⟩:=hv;obtain⟨⟨d,hd1,hd2⟩,sh,h1,h2⟩:=PC hd;have pk:∀(us:List Value) (xs:Array Value),xs.toList=us->Pk P kt us (.agg xs):=fun us xs h=>⟨d,hd1,.inl ⟨hd2,by rw[<-h]⟩⟩;refine⟨ns==ns',Dn 2 kt sh 10000 _ _ _ _ _ h1 (h2 ns ns' e1 f1) (pk _ _ e2) (pk _ _ f2) (by omega),?_⟩;rw[beq_iff_eq];have inj:∀(ks:List IntKind) (a b:List Int),a.length=ks.length->b.length=ks.length->abr Value.int ks a=abr Value.int ks b->a=b:=fun ks=>by
  induction ks with
  |nil=>intro a b h h' _;rw[aas.1 h,aas.1 h']
  |cons k ks ih=>
   intro a b h h' e;cases a with
   |nil=>cases h
   |cons x a=>cases b with
    |nil=>cases h'
    |cons y b=>
     simp only[List.zipWith_cons_cons,List.cons.injEq,Value.int.injEq,true_and]at e;rw[e.1,ih a b (by simpa using h) (by simpa using h') e.2]
 constructor
 ·rintro rfl;congr 1;apply ach.1;rw[e2,f2]
 ·intro e;cases e;exact inj ks ns ns' e1 f1 (e2.symm.trans f2)
theorem Mx{ks:List IntKind}(hd:s9 P kt=some ks){x:Value}(hx:mV (.a ks) x):
  ∀(es:List MapEntry) (i:Nat),(∀e∈es,mV (.a ks) e.key)->
   ((Instr.findAsking kt x es i).run P w=.ok none w/\∀e∈es,e.key≠x)\/
   ∃j e,(Instr.findAsking kt x es i).run P w=.ok (some (i+j,e.val)) w/\es[j]?=some e/\e.key=x
 |[],i,_=>Or.inl ⟨by simp[Instr.findAsking],by simp⟩
 |e::es,i,hall=>by
  obtain⟨r,hr,hiff⟩:=UB (w:=w) hd hx (hall e (by simp));cases r
  ·have hne:e.key≠x:=fun h=>by have:=hiff.2 h.symm;cases this
   rcases Mx hd hx es (i+1) (fun y hy=>hall y (by simp[hy]))with⟨h1,h2⟩|⟨j,e',h1,h2,h3⟩
   ·left;refine⟨by simp[Instr.findAsking,hr,h1],fun y hy=>?_⟩;rcases ω.1 hy with rfl|hy
    ·exact hne
    ·exact h2 y hy
   ·right;exact⟨j+1,e',by simp[Instr.findAsking,hr,h1,ab6,acY 1 j],by simpa using h2,h3⟩
  ·right;exact⟨0,e,by simp[Instr.findAsking,hr],rfl,(hiff.1 rfl).symm⟩
theorem UI(hd:sq P kt kd){x:Value}(hx:mV kd x)(w:World)(es:List MapEntry)(hall:∀e∈es,mV kd e.key):
  ((Instr.findKey kt x es).run P w=.ok none w/\∀e∈es,e.key≠x)\/∃j e,(Instr.findKey kt x es).run P w=.ok (some (j,e.val)) w/\es[j]?=some e/\e.key=x:=by
 have one:∀d:TypeDesc,P.underlying kt=some d->MapKept.IsKey d x->(∀e∈es,MapKept.IsKey d e.key)->((Instr.findKey kt x es).run P w=.ok none w/\∀e∈es,e.key≠x)\/∃j e,(Instr.findKey kt x es).run P w=.ok (some (j,e.val)) w/\es[j]?=some e/\e.key=x:=fun d hd h1 h2=>by
  rcases MapKept.findNow_spec h1 es 0 h2 with⟨q1,q2⟩|⟨j,e,q1,q2,q3⟩
  ·exact .inl ⟨MapKept.run_findKey hd q1,q2⟩
  ·rw[aan]at q1;exact .inr ⟨j,e,MapKept.run_findKey hd q1,q2,q3⟩
 have isk:∀{v:Value},mV kd v->match kd with
   |.i k=>MapKept.IsKey (.int k) v
   |.s=>MapKept.IsKey .string v
   |.a _=>True:=fun{v} h=>by cases kd<;>first|trivial|(cases v<;>first|exact h|exact h.elim)
 cases kd with
 |i k=>exact one _ hd (isk hx) fun e he=>isk (hall e he)
 |s=>exact one _ hd (isk hx) fun e he=>isk (hall e he)
 |a ks=>
  have hd:s9 P kt=some ks:=hd;have heq:(Instr.findKey kt x es).run P w=(Instr.findAsking kt x es).run P w:=by
   obtain⟨⟨d,hu,ha⟩,_⟩:=PC hd;cases es with
   |nil=>simp[Instr.findKey,run_underlying hu,Instr.findNow,Instr.findAsking]
   |cons e es=>cases d<;>first|(cases ha;done)|simp[Instr.findKey,run_underlying hu,Instr.findNow,Instr.sameNow]
  rw[heq];rcases Mx (w:=w) hd hx es 0 hall with⟨h1,h2⟩|⟨j,e,h1,h2,h3⟩
  ·exact .inl ⟨h1,h2⟩
  ·exact .inr ⟨j,e,by simpa using h1,h2,h3⟩
theorem RH{k:Value}(hk:mV kd k):(Instr.keyThatStays k k).run P w=.ok k w:=by
 have hs:Instr.sameBits 10000 k k=true:=by
  cases kd with
  |i q=>
   have hk':MapKept.IsKey (.int q) k:=by cases k<;>first|exact hk|exact hk.elim
   exact MapKept.sameBits_self hk' _
  |s=>
   have hk':MapKept.IsKey .string k:=by cases k<;>first|exact hk|exact hk.elim
   exact MapKept.sameBits_self hk' _
  |a ks=>
   cases k<;>first|exact hk.elim|skip
   rename_i xs;obtain⟨ns,_,hc⟩:=hk;show Instr.sameBits (9999+1) (.agg xs) (.agg xs)=true;simp only[Instr.sameBits,beq_self_eq_true,Bool.true_and,aa1];intro p hp;rw[hc]at hp;have:∀(ks:List IntKind) (ns:List Int) (p:Value×Value),p∈(abr Value.int ks ns).zip (abr Value.int ks ns)->Instr.sameBits 9999 p.1 p.2=true:=fun ks=>by
    induction ks with
    |nil=>intro ns p hp;simp at hp
    |cons k ks ih=>
     intro ns p hp;cases ns with
     |nil=>simp at hp
     |cons n ns=>
      simp only[List.zipWith_cons_cons,List.zip_cons_cons,ω]at hp;rcases hp with rfl|hp
      ·simp[Instr.sameBits]
      ·exact ih ns p hp
   exact this ks ns p hp
 simp[Instr.keyThatStays,hs]
theorem VC{es:Array MapEntry}(h:∀x∈es.toList,mV kd x.key)(i:Nat)(f:MapEntry->MapEntry)(hk:∀e,es[i]?=some e->(f e).key=e.key):∀x∈(es.modify i f).toList,mV kd x.key:=by intro x hx;have:x.key∈(es.modify i f).toList.map (·.key):=aaS.2 ⟨x,hx,rfl⟩;rw[MapKept.modify_keys i f hk]at this;obtain⟨y,hy,e⟩:=aaS.1 this;rw[<-e];exact h y hy
end
theorem PT{G:Gh}{m m':HM}:∀{xs ys:List AV} {us vs:List Value} {r:Bool},AV.bb G m xs us->AV.bb G m' ys vs->o8 xs ys=some r->(r=true↔us=vs)
 |xs,ys,us,vs,r,hu,hv,h=>by
  unfold o8 at h;split at h
  ·cases h;unfold AV.bb at hu hv;subst hu;subst hv;simp
  ·rename_i k n xs k' n' ys;rw[ζ]at h;obtain⟨rfl,h⟩:=h;split at h
   ·rename_i b hb;cases h;unfold AV.bb at hu hv;obtain⟨u,us',rfl,a1,a2⟩:=hu;obtain⟨v,vs',rfl,b1,b2⟩:=hv;have ih:=PT a2 b2 hb;unfold AV.aq DV.aq at a1 b1;subst a1;subst b1;simp[ih]
   ·cases h
  ·cases h
theorem Pu{m':HM}{a b:AV}{x y:Value}{r:Bool}(ha:AV.aq G m a x)(hb:AV.aq G m' b y)(h:a.Bm b=some r):r=true↔x=y:=by
 unfold AV.Bm at h;split at h
 ·rename_i k n k' n';unfold AV.aq DV.aq at ha hb;subst ha;subst hb;rw[ζ]at h;obtain⟨rfl,h⟩:=h;cases h;simp
 ·rename_i s t;unfold AV.aq DV.aq at ha hb;subst ha;subst hb;cases h;simp
 ·unfold AV.aq at ha hb;obtain⟨us,rfl,ha⟩:=ha;obtain⟨vs,rfl,hb⟩:=hb;have:=PT ha hb h;rw[this];constructor
  ·intro e;exact congrArg Value.agg (ach.1 e)
  ·intro e;cases e;rfl
 ·cases h
theorem LZ{G:Gh}{m:HM}:∀{ks:List IntKind} {cs:List AV} {vs:List Value},AV.bb G m cs vs->ov ks cs=true->∃ns:List Int,ns.length=ks.length/\vs=abr Value.int ks ns
 |ks,cs,vs,hr,h=>by
  unfold ov at h;split at h
  ·unfold AV.bb at hr;subst hr;exact⟨[],rfl,rfl⟩
  ·rename_i k ks k' n cs;rw[μ]at h;obtain⟨h1,h2⟩:=h;unfold AV.bb at hr;obtain⟨v,vs',rfl,a1,a2⟩:=hr;obtain⟨ns,e1,rfl⟩:=LZ a2 h2;unfold AV.aq DV.aq at a1;subst a1;obtain rfl:=of_decide_eq_true h1;exact⟨n::ns,congrArg (· +1) e1,rfl⟩
  ·cases h
theorem Pm{a:AV}{x:Value}(ha:AV.aq G m a x)(h:a.r6 kd=true):mV kd x:=by
 unfold AV.r6 at h;split at h
 ·unfold AV.aq DV.aq at ha;subst ha;exact(of_decide_eq_true h:_=_)
 ·unfold AV.aq DV.aq at ha;subst ha;trivial
 ·unfold AV.aq at ha;obtain⟨vs,rfl,ha⟩:=ha;obtain⟨ns,e1,e2⟩:=LZ ha h;exact⟨ns,e1,e2⟩
 ·cases h
theorem Ee{G:Gh}{m:HM}{key:AV}{kv:Value}(hk:AV.aq G m key kv){w:World}:∀{es:List (AV×MV)} {xs:List MapEntry} {f:List Nat} {r:Option (Nat×MV)},dk G es xs f w->mR key es=some r->
  match r with
  |none=>∀x∈xs,x.key≠kv
  |some (j,mv)=>∃x k2 f1 f2 f3,xs[j]?=some x/\es[j]?=some (k2,mv)/\x.key=kv/\AV.aq G (fun _=>none) k2 x.key/\MV.aq G mv x.val f2 w/\f=f1++f2++f3
 |[],xs,f,r,h,hf=>by
  unfold mR at hf;cases hf;obtain⟨rfl,rfl⟩:=h;intro x hx;cases hx
 |e::es,xs,f,r,h,hf=>by
  obtain⟨x,xs',f1,fp',rfl,rfl,h1,h2,h3⟩:=h;unfold mR at hf;split at hf
  ·rename_i hq;cases hf;exact⟨x,e.1,[],f1,fp',rfl,rfl,((Pu hk h1 hq).1 rfl).symm,h1,h2,rfl⟩
  ·rename_i hq;have hne:x.key≠kv:=fun e=>by have:=(Pu hk h1 hq).2 e.symm;cases this
   split at hf
   ·rename_i j v hj;cases hf;obtain⟨y,k2,g1,g2,g3,q1,q2,q3,q4,q5,q6⟩:=Ee hk h3 hj;exact⟨y,k2,f1++g1,g2,g3,q1,q2,q3,q4,q5,by rw[q6];simp⟩
   ·rename_i hj;cases hf;have:=Ee hk h3 hj;intro y hy;rcases ω.1 hy with rfl|hy
    ·exact hne
    ·exact this y hy
   ·cases hf
  ·cases hf
theorem wP{k0:TypeId}{arr:Array MapEntry}{clk:Nat}{kv:Value}(hT:sq P k0 kd)(hk:mV kd kv)(hs:MapKept.Stamped arr clk)(hks:∀x∈arr.toList,mV kd x.key){r:Option (Nat×MapEntry)}
  (h:match r with
  |none=>∀x∈arr.toList,x.key≠kv
  |some (j,x)=>arr.toList[j]?=some x/\x.key=kv) (w:World):(Instr.findKey k0 kv arr.toList).run P w=.ok (r.map fun p=>(p.1,p.2.val)) w:=by
 rcases UI hT hk w arr.toList hks with⟨h1,h2⟩|⟨j,e,h1,h2,h3⟩
 ·rw[h1];split at h
  ·rfl
  ·rename_i j x;exact absurd h.2 (h2 x (aar h.1))
 ·rw[h1];split at h
  ·exact absurd h3 (h e (aar h2))
  ·rename_i j' x;have hn:=hs.2.2;have e1:(arr.toList.map (·.key))[j]?=some kv:=by rw[aac,h2];simp[h3]
   have e2:(arr.toList.map (·.key))[j']?=some kv:=by rw[aac,h.1];simp[h.2]
   have hlt:=(υ.1 e1).1;have:=(acz hlt hn).1 (e1.trans e2.symm);subst this;rw[h2]at h;have:=Option.some.inj h.1;subst this;rfl
theorem Y6{f:List Nat}(h:fa G false k es v f w):DV.aq G (.L es) v:=by
 rcases h with⟨a,rfl,rfl,_⟩|⟨b,sz,cap,rfl,rfl,h3,h4,h5⟩
 ·unfold DV.aq;exact⟨a,0,rfl,me _,fun _=>rfl,fun h=>absurd rfl h⟩
 ·unfold bg at h5;obtain⟨vs,T,_,_,_,h6,_⟩:=h5;unfold DV.aq;exact⟨_,cap,rfl,h3,(fun h=>by cases h),fun _=>⟨b,0,k,rfl,h6⟩⟩
theorem Vk{mv:MV}{f:List Nat}(h:MV.aq G mv v f w):AV.aq G m mv.av v:=by
 cases mv with
 |v a=>exact AV.aq.mono (Gh.le.refl G) (fun _ _ h=>by cases h) _ _ h.2
 |o k rs=>show AV.aq G m (.D (.L rs)) v;unfold AV.aq;exact Y6 h
 |ow k rs=>show AV.aq G m .any v;unfold AV.aq;trivial
theorem Oj{lk:bJ}(hS:cf G m lk w){es:List (AV×MV)}{i:Option (Hd×List AV×List AV)}(hr:AV.aq G m (.mref h) v)(hl:lk h=some (.mp kd es i)):
  ∃b sz fp,m h=some (.atx b sz fp)/\v=.map (some b)/\c9 G m (.mp kd es i) b sz fp w:=by
 unfold AV.aq at hr;obtain⟨_,loc,hloc,hp⟩:=hr;have hnd:loc≠.dead:=fun e=>by subst e;rw[hS.dead _ hloc]at hl;cases hl
 obtain⟨b,sz,fp,rfl,hv⟩:=hp hnd;obtain⟨bl,hl',hb⟩:=hS.di _ _ _ _ hloc;rw[hl]at hl';cases hl';have hz:sz=0:=hb.1;subst hz;exact⟨b,0,fp,hloc,hv,hb⟩
theorem UC{lk lk2:bJ}(hls:ct lk lk2){es:List (AV×MV)}{i:Option (Hd×List AV×List AV)}(hl:lk h=some (.mp kd es i)):lk2 h=some (.mp kd es i):=by obtain⟨b',h1,h2⟩:=hls _ _ hl;rcases h2 with rfl|rfl<;>exact h1
section
variable{P:Program}{o:Oper}{lk:bJ}{n:Nat}{ev:Operand->AV}{K:AV->List bn->List Hd->Prop}
theorem XK{e:TypeId}(ho:o.op=.makeMap T none)(h:aY P lk n ev (.mkm kd) K):PS P o (.mkm kd) lk n ev K:=by
 refine⟨_,_,_,h,(by intro hh;cases hh),(by intro h hh;cases hh),fun G m w ρ _ lk2 _ hS hev hn=>?_⟩;refine bp.val (v:=.map (some w.heap.size)) (w':=w.alloc (.map #[] 0)) ?_ (bj.yc hS (by simpa using hn 0 (by simp)) _ _ (.atx w.heap.size 0 []) rfl (fun m' _=>⟨fun _ _ e=>(by cases e),fun b sz fp e=>?_⟩) fun m' _ hm'=>?_)
 ·simp[execOp,ho,Instr.makeMap]
 ·cases e;exact⟨rfl,List.nodup_nil,#[],0,heap_alloc_new w _,MapKept.stamped_empty 0,(fun x hx=>by simp at hx),⟨rfl,rfl⟩,fun _ _ e=>by cases e⟩
 ·unfold AV.aq;exact⟨rfl,_,hm',fun _=>⟨_,_,_,rfl,rfl⟩⟩
theorem Rk{k0:TypeId}{ok:Bool}{kk:Nat}(ho:o.op=.lookup T x y ok)(hT:P.underlying T=some (.map k0 e))(hk0:sq P k0 kd)(hi:P.info? e=some i)(hz:i.zero=some z)
  (h:aY P lk n ev (.mget kd (qG z) kk ok x y) K):PS P o (.mget kd (qG z) kk ok x y) lk n ev K:=by
 obtain⟨hd,es,it,r,hx,hl,hy,hf,hK⟩:=h;have key:∀(G:Gh) (m:HM) (w:World) (ρ:Operand->Value) (lk2:bJ),ct lk lk2->cf G m lk2 w->AV.aq G m (ev x) (ρ x)->AV.aq G m (ev y) (ρ y)->
   match r with
   |some (_,mv)=>∃u f,MV.aq G mv u f w/\(Instr.lookup T (ρ x) (ρ y) ok).run P w=.ok (if ok then .tuple #[u,.bool true]else u) w
   |none=>(Instr.lookup T (ρ x) (ρ y) ok).run P w=.ok (if ok then .tuple #[z,.bool false]else z) w:=fun G m w ρ lk2 hls hS hrx hry=>by
  rw[hx]at hrx;obtain⟨b,sz,fp,hm,hv,hb⟩:=Oj hS hrx (UC hls hl);obtain⟨_,_,arr,clk,h1,h2,h3,h4,_⟩:=hb;have hky:=Pm hry hy;have hfo:=Ee hry h4 hf
  match r,hfo with
  |none,hfo=>
   have hfn:=wP hk0 (r:=none) hky h2 h3 hfo;simp only[Instr.lookup,Sem.run_bind,run_underlying hT,Result.andThen_ok,hv,MapKept.run_getObj_map h1,Sem.run_pure,wJ hk0 hky,hfn,Option.map_none,lN hi hz]
  |some (j,mv),⟨u,k2,f1,f2,f3,q1,q2,q3,q4,q5,_⟩=>
   have hfn:=wP hk0 (r:=some (j,u)) hky h2 h3 ⟨q1,q3⟩;refine⟨u.val,f2,q5,?_⟩;simp only[Instr.lookup,Sem.run_bind,run_underlying hT,Result.andThen_ok,hv,MapKept.run_getObj_map h1,Sem.run_pure,wJ hk0 hky,hfn,aaZ]
 match r,hK with
 |some (j,mv),hK=>
  refine⟨_,_,_,hK,(by intro hh;cases hh),(by intro h hh;cases hh),fun G m w ρ _ lk2 hls hS hev _=>?_⟩;obtain⟨u,f,hu,hrun⟩:=key G m w ρ lk2 (hls rfl) hS (hev x (by simp[bu.operands])) (hev y (by simp[bu.operands]));have hu':AV.aq G m mv.av u:=Vk hu;refine bp.val (v:=if ok then .tuple #[u,.bool true]else u) (w':=w) (by simp[execOp,ho,hrun]) (bj.val hS ?_);cases ok with
  |true=>show AV.aq G m (.cn [mv.av,.D (.B true)]) (.tuple #[u,.bool true]);unfold AV.aq;exact⟨_,rfl,by unfold AV.bb AV.bb AV.bb;exact⟨_,_,rfl,hu',_,_,rfl,by unfold AV.aq DV.aq;rfl,rfl⟩⟩
  |false=>exact hu'
 |none,hK=>
  refine⟨_,_,_,hK,(by intro hh;cases hh),(by intro h hh;cases hh),fun G m w ρ _ lk2 hls hS hev _=>?_⟩;have hrun:=key G m w ρ lk2 (hls rfl) hS (hev x (by simp[bu.operands])) (hev y (by simp[bu.operands]));have hu':AV.aq G m (qG z) z:=Vf G m z;refine bp.val (v:=if ok then .tuple #[z,.bool false]else z) (w':=w) (by simp[execOp,ho,hrun]) (bj.val hS ?_);cases ok with
  |true=>show AV.aq G m (.cn [qG z,.D (.B false)]) (.tuple #[z,.bool false]);unfold AV.aq;exact⟨_,rfl,by unfold AV.bb AV.bb AV.bb;exact⟨_,_,rfl,hu',_,_,rfl,by unfold AV.aq DV.aq;rfl,rfl⟩⟩
  |false=>exact hu'
end
section
variable{P:Program}{o:Oper}{lk:bJ}{n:Nat}{ev:Operand->AV}{K:AV->List bn->List Hd->Prop}
theorem W3{dst:TypeId}{k0 k:IntKind}(ho:o.op=.convert src dst x)(hs:P.underlying src=some (.int k0))(hd:P.underlying dst=some (.int k))(h:aY P lk n ev (.cvI k x) K):PS P o (.cvI k x) lk n ev K:=by obtain⟨k',j,hx,hK⟩:=h;refine⟨_,_,_,hK,fun _=>⟨rfl,rfl⟩,(by intro h hh;cases hh),fun G m w ρ _ lk2 hls hS hev _=>?_⟩;have hr:=mU (fj hev hx (by simp[bu.operands]));refine bp.val (v:=.int k (k.wrap j)) (w':=w) ?_ (bj.val hS (by unfold AV.aq DV.aq;rfl));simp[execOp,ho,hr,convert,run_underlying hs,run_underlying hd,Conv.intToInt]
theorem Li{lk2:bJ}(hS:cf G m lk2 w)(hls:ct lk lk2){a:AV}(hr:AV.aq G m a v)(hl:AV.live lk a=true)(hk:a.k6 false=some k):
  ∃p cap,v=.slice p k cap/\(p=none->k=0):=by
 unfold AV.k6 at hk;split at hk
 ·cases hk;obtain⟨p,cap,hv,hcap,hn,_⟩:=um hr;exact⟨p,cap,hv,fun e=>by have:=hn e;omega⟩
 ·cases hk;unfold AV.aq at hr;obtain⟨p,cap,hv,hcap,hn,_⟩:=um (m:=m) (by unfold AV.aq;exact hr.1);exact⟨p,cap,hv,fun e=>by have:=hn e;omega⟩
 ·cases hk;obtain⟨loc,_,hsl⟩:=Cr hS hls hr hl;rcases hsl with⟨p,hv,h0⟩|⟨b,sz,cap,_,hv,_⟩
  ·exact⟨p,0,by rw[hv,h0],fun _=>h0⟩
  ·exact⟨_,cap,hv,fun e=>by cases e⟩
 ·cases hk;obtain⟨loc,_,hsl⟩:=yM hS hls hr hl;obtain⟨b,sz,_,hv,_⟩:=hsl;exact⟨_,_,hv,fun e=>by cases e⟩
 ·simp_all
 ·cases hk
theorem aE6(w:World)(d:Nat)(T:TypeId)(p:Option Addr)(k cap:Nat)(hd:P.underlying T=some (.slice e)):(Op.equalIn (d+1) T (.slice p k cap) (.slice none 0 0)).run P w=.ok p.isNone w:=by unfold Op.equalIn;simp only[Sem.run_bind,run_underlying hd,Result.andThen_ok];cases p<;>simp
theorem ZG(w:World)(d:Nat)(T:TypeId)(p:Option Addr)(hd:P.underlying T=some (.pointer e)):(Op.equalIn (d+1) T (.pointer p) (.pointer none)).run P w=.ok p.isNone w:=by unfold Op.equalIn;simp only[Sem.run_bind,run_underlying hd,Result.andThen_ok];cases p<;>simp
theorem QC(ho:o.op=.binOp op T x y yT)(hd:P.underlying T=some (.pointer e))(hr:aA P o=some ro)(h:aY P lk n ev ro K):PS P o ro lk n ev K:=by
 simp only[aA,ho,hd]at hr;split at hr
 case h_2=>cases hr
 have hops:op=.eql\/op=.neq:=by cases op<;>simp[uH]at hr|-
 have hro:ro=.isp (dR op) x:=by rcases hops with rfl|rfl<;>simpa[uH]using hr.symm
 subst hro;obtain⟨hl,h⟩:=h;have hrun:∀(ρ:Operand->Value) (_:∀v,ρ (.const v)=v) (w:World) (p:Option Addr),ρ x=.pointer p->(execOp ρ o).run P w=.ok (.value (.bool (if dR op=true then !p.isNone else p.isNone))) w:=fun ρ hρ w p hv=>by
  have hg:∀o',(eqGuard o' T x (.const (.pointer none)) (.pointer p) (.pointer none)).run P w=.ok () w:=fun o'=>by unfold eqGuard;split<;>simp
  have he:(Op.equal T (.pointer p) (.pointer none)).run P w=.ok p.isNone w:=by exact ZG w 9999 T p hd
  have hb:∀o',o'=.eql\/o'=.neq->(binOp o' T (.pointer p) (.pointer none)).run P w=.ok (.bool (if dR o'=true then !p.isNone else p.isNone)) w:=fun o' h'=>by rcases h' with rfl|rfl<;>simp[binOp,he,dR]
  rcases hops with rfl|rfl<;>simp[execOp,ho,hv,hρ,hg,hb _ (.inl rfl),hb _ (.inr rfl),dR]
 generalize hx:ev x=ax at h hl;split at h
 ·refine⟨_,_,_,h,(by intro hh;cases hh),(by intro h hh;cases hh),fun G m w ρ hρ lk2 hls hS hev _=>?_⟩;have hr:=fj hev hx (by simp[bu.operands]);obtain⟨b,sz,hloc,hp⟩:=yH hS (hls rfl) hr hl;refine bp.val (hrun ρ hρ w _ hp) (bj.val hS ?_);unfold AV.aq DV.aq;cases dR op<;>rfl
 ·refine⟨_,_,_,h,(by intro hh;cases hh),(by intro h hh;cases hh),fun G m w ρ hρ lk2 hls hS hev _=>?_⟩;have hr:=fj hev hx (by simp[bu.operands]);unfold AV.aq DV.aq at hr;refine bp.val (hrun ρ hρ w _ hr) (bj.val hS ?_);unfold AV.aq DV.aq;cases dR op<;>rfl
 ·exact h.elim
theorem Q0(ho:o.op=.binOp op T x y yT)(hd:P.underlying T=some (.slice e))(hr:aA P o=some ro)(h:aY P lk n ev ro K):PS P o ro lk n ev K:=by
 simp only[aA,ho,hd]at hr;split at hr
 case h_2=>cases hr
 have hops:op=.eql\/op=.neq:=by cases op<;>simp[uH]at hr|-
 have hro:ro=.isnil (dR op) x:=by rcases hops with rfl|rfl<;>simpa[uH]using hr.symm
 subst hro;obtain⟨hl,k,hk,h⟩:=h;have hrun:∀(ρ:Operand->Value) (_:∀v,ρ (.const v)=v) (w:World) (p:Option Addr) (cap:Nat),ρ x=.slice p k cap->(execOp ρ o).run P w=.ok (.value (.bool (if dR op=true then !p.isNone else p.isNone))) w:=fun ρ hρ w p cap hv=>by
  have hg:∀o',(eqGuard o' T x (.const (.slice none 0 0)) (.slice p k cap) (.slice none 0 0)).run P w=.ok () w:=fun o'=>by unfold eqGuard;split<;>simp
  have he:(Op.equal T (.slice p k cap) (.slice none 0 0)).run P w=.ok p.isNone w:=by exact aE6 w 9999 T p k cap hd
  have hb:∀o',o'=.eql\/o'=.neq->(binOp o' T (.slice p k cap) (.slice none 0 0)).run P w=.ok (.bool (if dR o'=true then !p.isNone else p.isNone)) w:=fun o' h'=>by rcases h' with rfl|rfl<;>simp[binOp,he,dR]
  rcases hops with rfl|rfl<;>simp[execOp,ho,hv,hρ,hg,hb _ (.inl rfl),hb _ (.inr rfl),dR]
 split at h
 ·refine⟨_,_,_,h,(by intro hh;cases hh),(by intro h hh;cases hh),fun G m w ρ hρ lk2 hls hS hev _=>?_⟩;obtain⟨p,cap,hv,_⟩:=Li hS (hls rfl) (hev x (by simp[bu.operands])) hl hk;exact bp.val (hrun ρ hρ w p cap hv) (bj.val hS (by unfold AV.aq;exact⟨_,rfl⟩))
 ·rename_i hk0;refine⟨_,_,_,h,(by intro hh;cases hh),(by intro h hh;cases hh),fun G m w ρ hρ lk2 hls hS hev _=>?_⟩;obtain⟨p,cap,hv,hn⟩:=Li hS (hls rfl) (hev x (by simp[bu.operands])) hl hk;refine bp.val (hrun ρ hρ w p cap hv) (bj.val hS ?_);have:p.isNone=false:=by cases p with
   |none=>exact absurd (hn rfl) hk0
   |some a=>rfl
  unfold AV.aq DV.aq;rw[this];cases dR op<;>rfl
theorem PN{G:Gh}{f:Nat->Option Value}:∀{ys:List (List DV)} {t:List UInt8} {vs:List Value} {o:Nat},qL ys=some t->DV.rows G f 1 o ys->vs.length=ys.length->(∀i,i<vs.length->f (o+i)=vs[i]?)->
  ∃ns:List Int,vs=ns.map (Value.int .u8)/\ns.map (fun n=>UInt8.ofNat n.toNat)=t
 |[],t,vs,o,hb,_,hl,_=>by
  simp only[qL,Option.some.injEq]at hb;exact⟨[],by simpa using hl,hb⟩
 |y::ys,t,[],o,hb,_,hl,_=>by simp at hl
 |y::ys,t,v::vs,o,hb,hrow,hl,hf=>by
  unfold qL at hb;split at hb
  ·rename_i heq;cases heq
  ·rename_i n r heq;cases heq;rw[ι]at hb;obtain⟨t',hb,rfl⟩:=hb;unfold DV.rows at hrow;obtain⟨_,hc,hrow⟩:=hrow;unfold DV.cells at hc;obtain⟨⟨u,h1,h2⟩,_⟩:=hc;unfold DV.aq at h2;have h3:=hf 0 (by simp);rw[abt,h1]at h3;simp only[abA,Option.some.injEq]at h3;obtain⟨ns,k1,k2⟩:=PN hb hrow (by simpa using hl) (fun i hi=>by
    have:=hf (i+1) (by simpa using hi);rw[show o+1+i=o+(i+1) by omega,this];simp)
   exact⟨n::ns,by rw[aaM,<-k1,<-h3,h2],by rw[aaM,k2]⟩
  ·cases hb
theorem Lt:∀{ys:List (List DV)} {t:List UInt8},qL ys=some t->js 1 ys
 |[],_,_=>fun e he=>by cases he
 |y::ys,t,h=>by
  unfold qL at h;split at h
  ·rename_i heq;cases heq
  ·rename_i n r heq;cases heq;rw[ι]at h;obtain⟨t',h,_⟩:=h;intro e he;rcases ω.1 he with rfl|he
   ·rfl
   ·exact Lt h e he
  ·cases h
theorem Vp{dst:TypeId}(ho:o.op=.convert src dst x)(hs:P.underlying src=some (.slice e))(he:P.underlying e=some (.int .u8))(hd:P.underlying dst=some .string)(h:aY P lk n ev (.cvS x) K):PS P o (.cvS x) lk n ev K:=by
 obtain⟨ys,t,hx,ht,hns,hK⟩:=h;refine⟨_,_,_,hK,(by intro hh;cases hh),(by intro h hh;cases hh),fun G m w ρ _ lk2 hls hS hev _=>?_⟩;have hr:=hev x (by simp[bu.operands]);obtain⟨c1,vs,c2,c3,c4⟩:=fE (P:=P) hS (hls rfl).row hr hx (Lt ht);have hsl:∃p len cap,ρ x=.slice p len cap:=by
  unfold AV.content at hx;split at hx
  ·rename_i heq;rw[heq]at hr;obtain⟨a,cap,hv,_⟩:=um hr;exact⟨a,_,cap,hv⟩
  ·rename_i heq;rw[heq]at hr;unfold AV.aq at hr;obtain⟨_,a,hv⟩:=hr;exact⟨a,_,_,hv⟩
  ·rename_i hd' k off len heq;rw[heq]at hr;split at hx
   case h_2=>cases hx
   rename_i mt k2 es hl;obtain⟨mt',hl'⟩:=(hls rfl).row _ _ _ _ hl;unfold AV.aq at hr;obtain⟨_,loc,hloc,hsl⟩:=hr;have hnd:loc≠.dead:=fun e=>by subst e;rw[hS.dead _ hloc]at hl';cases hl'
   rcases hsl hnd with⟨p,hv,rfl⟩|⟨b,sz,cap,rfl,hv,hcap,hsz⟩
   ·exact⟨_,_,_,hv⟩
   ·exact⟨_,_,_,hv⟩
  ·rename_i hd' k off len cap0 heq;rw[heq]at hr;split at hx
   case h_2=>cases hx
   rename_i mt k2 es hl;obtain⟨mt',hl'⟩:=(hls rfl).row _ _ _ _ hl;unfold AV.aq at hr;obtain⟨_,loc,hloc,hsl⟩:=hr;have hnd:loc≠.dead:=fun e=>by subst e;rw[hS.dead _ hloc]at hl';cases hl'
   obtain⟨b,sz,rfl,hv,hcap,hsz⟩:=hsl hnd;exact⟨_,_,_,hv⟩
  ·rename_i heq;rw[heq]at hns;cases hns
  ·cases hx
 obtain⟨p,len,cap,hv⟩:=hsl;have hlen:len=ys.length:=by have:=c1 w;rw[hv]at this;simpa[Builtin.lenOf]using this
 obtain⟨ns,k1,k2⟩:=PN (G:=G) (f:=fun i=>vs[i]?) (o:=0) ht (c4 G _ 0 (Gh.le.refl G) (fun i _=>by simp)) (by simpa using c2) (fun i _=>by simp);refine bp.val (v:=.string ⟨t.toArray⟩) (w':=w) ?_ (bj.val hS (by unfold AV.aq DV.aq;rfl));have hconv:(convert src dst (.slice p len cap)).run P w=.ok (.string ⟨t.toArray⟩) w:=by
  cases p with
  |none=>
   rw[run_convert_bytes_nil w src e hs he len cap dst hd];have:vs=[]:=by have:=c3 w rfl;rw[hv]at this;simp[Builtin.firstCells]at this;simpa using this.symm
   subst this;have hns':ns=[]:=by simpa using k1.symm
   subst hns';rw[<-k2];rfl
  |some a=>
   rw[run_convert_bytes_string w src dst e _ len cap hs he hd,run_bytesToString w a len cap ns ?_,foldl_push_bytes,k2]
   ·simp[ByteArray.empty,ByteArray.emptyWithCapacity];rfl
   ·have:=c3 w rfl;rw[hv]at this;simpa[Builtin.firstCells,hlen,k1]using this
 simp[execOp,ho,hv,hconv]
end
theorem YC(G:Gh)(v:Value):DV.aq G (iP v) v:=by
 unfold iP;split
 ·simp[DV.aq]
 ·simp[DV.aq]
 ·simp[DV.aq]
 ·simp only[DV.aq];exact⟨none,0,rfl,me _,fun _=>rfl,fun h=>absurd rfl h⟩
 ·simp[DV.aq]
theorem O3(G:Gh)(f:Nat->Option Value):∀(zs:List Value) (o:Nat),(∀j,j<zs.length->f (o+j)=zs[j]?)->DV.cells G f o (zs.map iP)
 |[],_,_=>by simp[DV.cells]
 |z::zs,o,h=>by simp only[aaM];unfold DV.cells;refine⟨⟨z,by simpa using h 0 (by simp),YC G z⟩,O3 G f zs (o+1) (fun j hj=>?_)⟩;have:=h (j+1) (by simp;omega);simpa[show o+1+j=o+(j+1) by omega]using this
theorem Em(G:Gh)(f:Nat->Option Value)(zs:List Value):∀(n o:Nat),(∀j,j<n*zs.length->f (o+j)=zs[j%zs.length]?)->DV.rows G f zs.length o (aae n (zs.map iP))
 |0,_,_=>by simp[DV.rows]
 |n+1,o,h=>by
  have hl:(n+1)*zs.length=zs.length+n*zs.length:=by rw[aaW];omega
  simp only[List.replicate_succ];unfold DV.rows;refine⟨by simp,O3 G f zs o (fun j hj=>?_),Em G f zs n (o+zs.length) (fun j hj=>?_)⟩
  ·rw[h j (by omega),Nat.mod_eq_of_lt hj]
  ·rw[ab6,h (zs.length+j) (by omega),Nat.add_mod_left]
theorem Zq{lk:bJ}{ev:Operand->AV}{K:AV->List bn->List Hd->Prop}(ho:o.op=.makeSlice T x y)(ht:P.underlying T=some (.slice e))(hi:P.info? e=some i)(hz:i.zero=some z)(hz':z.cells.size=i.size)
  (h:aY P lk n ev (.mks i.size i.bytes (z.cells.toList.map iP) x y) K):PS P o (.mks i.size i.bytes (z.cells.toList.map iP) x y) lk n ev K:=by
 obtain⟨k1,k2,l,c,hx,hy,h0,hlc,h63,hb,hK⟩:=h;refine⟨_,_,_,hK,(by intro hh;cases hh),(by intro h hh;cases hh),fun G m w ρ _ lk2 _ hS hev hn=>?_⟩;have hvx:=mU (hx▸hev x (by simp[bu.operands]));have hvy:=mU (hy▸hev y (by simp[bu.operands]));have hlc':l.toNat<=c.toNat:=by omega
 have hsz:(madeCells z.cells (c.toNat*i.size)).size=c.toNat*i.size:=size_madeCells _ _;refine bp.val (v:=.slice (some ⟨w.heap.size,0,none⟩) l.toNat c.toNat) (w':=w.alloc (.cells (madeCells z.cells (c.toNat*i.size)) e)) ?_ (bj.new hS (by simpa using hn 0 (by simp)) _ _ _ (fun m' hm'=>?_) fun m' _ hm'=>?_)
 ·have:=run_make (P:=P) w T e i z ht hi hz k1 k2 l c h0 hlc hb h63;simp only[execOp,ho,hvx,hvy,Sem.run_bind,this];simp
 ·unfold bg;have hm:l.toNat*i.size<=c.toNat*i.size:=aaF _ hlc';refine⟨_,e,heap_alloc_new _ _,rfl,by rw[hsz,aaX];exact hm,?_,fun o=>vW hS (me _) o⟩;have hzl:z.cells.toList.length=i.size:=by simpa using hz'
  have:=Em G (fun o=>(madeCells z.cells (c.toNat*i.size))[o]?) z.cells.toList l.toNat 0 (fun j hj=>?_)
  ·rwa[hzl]at this
  ·rw[hzl]at hj;have hpos:0<i.size:=Nat.pos_of_ne_zero (fun e=>by rw[e]at hj;simp at hj);have hmm:j%z.cells.size<z.cells.size:=ace _ (by rw[hz'];exact hpos);rw[aan];simp only[madeCells,adw,aby,aaj];rw[ac9,if_pos (aa6 hj (aaF _ hlc'))];simp only[aaZ];rw[acZ,aaA,ab8 hmm];rfl
 ·unfold AV.aq;refine⟨rfl,_,hm',fun _=>.inr ⟨_,_,c.toNat,rfl,by simp,hlc',by rw[hsz];simp⟩⟩
theorem bH3{lk:bJ}{ev:Operand->AV}{K:AV->List bn->List Hd->Prop}(ho:o.op=.call c)(hc:c.callee=.builtin .cap)(ha:c.args.toList=[x])(ht:c.argTypes.toList=[t])
  (hd:P.underlying t=some (.slice e)) (h:aY P lk n ev (.capK x) K):PS P o (.capK x) lk n ev K:=by
 obtain⟨hl,cap,hx,hK⟩:=h;refine⟨_,_,_,hK,(by intro hh;cases hh),(by intro h hh;cases hh),fun G m w ρ _ lk2 hls hS hev _=>?_⟩;have ha':c.args=#[x]:=by rw[<-aaL (xs:=c.args),ha]
 have ht':c.argTypes=#[t]:=by rw[<-aaL (xs:=c.argTypes),ht]
 refine bp.val (v:=.int .i64 cap) (w':=w) ?_ (bj.val hS (by unfold AV.aq DV.aq;rfl));simp only[execOp,ho,resolve,hc,ha',ht',invoke,builtin];rcases hx with⟨h,k,off,len,hx⟩|⟨es,hx,rfl⟩
 ·have hr:=hx▸hev x (by simp[bu.operands]);obtain⟨loc,_,b,sz,_,hv,_⟩:=yM hS (hls rfl) hr (hx▸hl);simp[Builtin.cap_,run_underlying hd,hv,goInt]
 ·have hr:=hx▸hev x (by simp[bu.operands]);unfold AV.aq at hr;obtain⟨_,a,hv⟩:=hr;simp[Builtin.cap_,run_underlying hd,hv,goInt]
theorem aGt{k:IntKind}(ht:P.underlying t=some (.slice e))(hu:P.underlying u=some (.int kn))(hi:P.info? e=some i)(hz:i.zero=some z)(hz':z.cells.size=i.size)
 {s:Value} {a:Option Addr} {m:Nat} (hs:s=.slice a sLen sCap)
  (holds:(Builtin.firstCells i.size sLen s).run P w.drew=.ok olds w.drew)
  (hg:sCap<sLen+m) (hb:(sLen+m)*i.bytes<=140737488355328) (h63:((sLen+m:Nat):Int)<=9223372036854775807):
  ∃ rest:Array Value,(Builtin.append_ #[t,u] ty #[s,.int k (m:Int)]).run P w=.ok (.slice (some ⟨w.heap.size,0,none⟩) (sLen + m) (grownCap w (sLen + m) sCap e))
    (w.drew.alloc (.cells (olds++Builtin.zeroCells z.cells m++rest) e))/\rest.size=(grownCap w (sLen+m) sCap e-(sLen+m))*z.cells.size:=by
 refine⟨Builtin.zeroCells z.cells (grownCap w (sLen+m) sCap e-(sLen+m)),?_,size_zeroCells _ _⟩;have hfit:=growslice_fits (bytes:=i.bytes) hg hb;have hn:¬(sLen+m<=sCap):=by omega
 have hw:IntKind.i64.wrap (m:Int)=m:=by rw[IntKind.wrap_i64];omega
 have hneg:¬((m:Int)<0):=by omega
 have h48:m*i.bytes<=281474976710656:=aaG (aaF _ (Nat.le_add_left m sLen)) (by omega);have h48i:¬(281474976710656<(m:Int)*(i.bytes:Int)):=by rw[<-Int.natCast_mul];omega
 have h63':¬(9223372036854775807<(sLen:Int)+(m:Int)):=by omega
 have h48':¬(281474976710656<Builtin.nextslicecap (sLen+m) sCap*i.bytes):=by omega
 subst hs;by_cases hm:m*i.size=0
 ·have hz0:Builtin.zeroCells z.cells m=#[]:=by unfold Builtin.zeroCells;rw[hz',hm];simp
  simp[Builtin.append_,sizeOf,typeInfo,zeroValue,run_underlying ht,run_underlying hu,hi,hz,asInt,asIntOf,hw,hneg,h48i,hm,Question.forced,newRow,grownCap];rw[if_neg hn,if_neg h63',if_neg h48',holds];simp[hz0]
 ·simp[Builtin.append_,sizeOf,typeInfo,zeroValue,run_underlying ht,run_underlying hu,hi,hz,asInt,asIntOf,hw,hneg,h48i,hm,Question.forced,newRow,grownCap];rw[if_neg hn,if_neg h63',if_neg h48',holds];simp
theorem Wi{lk:bJ}{ev:Operand->AV}{K:AV->List bn->List Hd->Prop}(ho:o.op=.call c)(hc:c.callee=.builtin .append)(ha:c.args.toList=[x,y])(hta:c.argTypes.toList=[t,u])
  (ht:P.underlying t=some (.slice e)) (hu:P.underlying u=some (.int kn)) (hi:P.info? e=some i) (hz:i.zero=some z) (hz':z.cells.size=i.size) (hbytes:0<i.bytes) (hsize:0<i.size)
  (h:aY P lk n ev (.appZ i.size i.bytes (z.cells.toList.map iP) x y) K):PS P o (.appZ i.size i.bytes (z.cells.toList.map iP) x y) lk n ev K:=by
 obtain⟨hl,len,cap,kd,j,es,hx0,hy,h0,hle,hu1,hg,hb,hK⟩:=h;have ha':c.args=#[x,y]:=by rw[<-aaL (xs:=c.args),ha]
 have ht':c.argTypes=#[t,u]:=by rw[<-aaL (xs:=c.argTypes),hta]
 have hexec:∀(ρ:Operand->Value) (v:Value) (w w':World),(Builtin.append_ #[t,u] o.type #[ρ x,ρ y]).run P w=.ok v w'->(execOp ρ o).run P w=.ok (.value v) w':=fun ρ v w w' h=>by simp only[execOp,ho,resolve,hc,ha',ht',invoke,builtin,Sem.run_bind,Sem.run_pure,Result.andThen_ok];simp[h]
 refine⟨_,_,_,hK,(by intro hh;cases hh),(by intro h hh;cases hh),fun G m w ρ _ lk2 hls hS hev hn=>?_⟩;have hvy:=mU (hy▸hev y (by simp[bu.operands]));have hut:js i.size (es.take len):=fun e he=>hu1 e (abZ he);have hrx:=hev x (by simp[bu.operands]);obtain⟨ad,hv⟩:∃ad,ρ x=.slice ad len cap:=by
  rcases hx0 with⟨hd,mt,hx,hlk⟩|⟨hx,rfl,rfl,rfl⟩
  ·obtain⟨loc,hloc,b,sz,rfl,hv,hcap,hsz⟩:=yM hS (hls rfl) (hx▸hrx) (hx▸hl);exact⟨_,hv⟩
  ·rw[hx]at hrx;unfold AV.aq at hrx;exact hrx.2
 have hct:AV.content lk (ev x)=some (es.take len):=by
  rcases hx0 with⟨hd,mt,hx,hlk⟩|⟨hx,rfl,rfl,rfl⟩
  ·rw[hx];simp only[AV.content,hlk];simp[hle]
  ·rw[hx];rfl
 obtain⟨_,os,o2,o3,o4⟩:=fE (P:=P) hS (hls rfl).row hrx hct hut;have hlen:(es.take len).length=len:=by simp;omega
 rw[hlen]at o2;have hfits:len+j.toNat<=9223372036854775807:=by have:=acV (len+j.toNat) hbytes;omega
 have hjj:j=((j.toNat:Nat):Int):=by omega
 obtain⟨rest,hrun,hrest⟩:=aGt (ty:=o.type) (k:=kd) ht hu hi hz hz' hv (by have:=o3 w.drew rfl;rwa[hlen]at this) hg hb (by omega);rw[<-hjj,<-hvy]at hrun;refine bp.val (hexec ρ _ w _ hrun) ?_;refine bj.oz ?_;have hge:=grownCap_ge w (len+j.toNat) cap e;have hzs:(Builtin.zeroCells z.cells j.toNat).size=j.toNat*i.size:=by rw[size_zeroCells,hz']
 have hszz:(os.toArray++Builtin.zeroCells z.cells j.toNat++rest).size=grownCap w (len+j.toNat) cap e*i.size:=by simp only[Array.size_append,acy,o2,hzs,hrest,hz'];rw[<-aaW,<-aaW];congr 1;omega
 have hS1:=hS.drew;refine bj.new hS1 (by simpa using hn 0 (by simp)) _ _ _ (fun m' hm'=>?_) (fun m' hm' hmn=>?_)
 ·unfold bg;refine⟨_,e,heap_alloc_new _ _,rfl,?_,?_,fun o=>vW hS1 (me _) o⟩
  ·rw[hszz,ε,hlen,aaX];exact aaF _ hge
  ·refine DV.cu (o4 G _ 0 (Gh.le.refl G) (fun q hq=>?_)) ?_
   ·rw[aan,<-aaj];simp only[abj];rw[π,aak (by simpa using hq)]
   ·have hzl:z.cells.toList.length=i.size:=by simpa using hz'
    have:=Em G (fun o=>(os.toArray++Builtin.zeroCells z.cells j.toNat++rest)[o]?) z.cells.toList j.toNat (0+(es.take len).length*i.size) (fun q hq=>?_)
    ·rwa[hzl]at this
    ·rw[hzl]at hq;have hpos:0<i.size:=hsize;have hmm:q%z.cells.size<z.cells.size:=ace _ (by rw[hz'];exact hpos);show(os.toArray++Builtin.zeroCells z.cells j.toNat++rest)[0+(es.take len).length*i.size+q]?=_;rw[hlen,aan,Array.append_assoc,Array.getElem?_append_right (by simp[o2]),Array.getElem?_append_left (by simp[o2,hzs];omega)];simp only[acy,o2,aaP];unfold Builtin.zeroCells;simp only[adw,aby,aaj];rw[ac9,if_pos (by rw[hz'];exact hq)];simp only[aaZ];rw[acZ,aaA,ab8 hmm];rfl
 ·unfold AV.aq;refine⟨rfl,_,hmn,fun _=>.inr ⟨_,_,grownCap w (len+j.toNat) cap e,rfl,?_,hge,?_⟩⟩
  ·simp
  ·rw[hszz];simp
theorem sZ{lk:bJ}{ev:Operand->AV}{K:AV->List bn->List Hd->Prop}(hr:aA P o=some ro)(h:aY P lk n ev ro K):PS P o ro lk n ev K:=by
 cases ho:o.op
 case move x=>simp only[aA,ho,Option.some.injEq]at hr;subst hr;exact M0 (.inl ho) h
 case assign x=>simp only[aA,ho,Option.some.injEq]at hr;subst hr;exact M0 (.inr ho) h
 case pick c a b=>simp only[aA,ho,Option.some.injEq]at hr;subst hr;exact W8 ho h
 case makeMap T r=>
  cases r with
  |some _=>simp only[aA,ho]at hr;cases hr
  |none=>
   simp only[aA,ho,ι]at hr;obtain⟨⟨kd,e⟩,_,rfl⟩:=hr;exact XK (e:=e) ho h
 case lookup T x y ok=>
  simp only[aA,ho,η,ι]at hr;obtain⟨⟨kd,e⟩,hT,i,hi,z,hz,rfl⟩:=hr;obtain⟨k0,h1,h2⟩:=qT hT;exact Rk ho h1 h2 hi hz h
 case mapUpdate T x y z=>
  simp only[aA,ho,ζ,ι]at hr;obtain⟨_,_,_,rfl⟩:=hr;exact h.elim
 case insert T x y z=>
  simp only[aA,ho,ζ,ι]at hr;obtain⟨_,_,_,rfl⟩:=hr;exact h.elim
 case range T x=>
  simp only[aA,ho,ι]at hr;obtain⟨_,_,rfl⟩:=hr;exact h.elim
 case next x b=>
  cases b with
  |true=>simp only[aA,ho]at hr;cases hr
  |false=>simp only[aA,ho,Option.some.injEq]at hr;subst hr;exact h.elim
 case entry x=>simp only[aA,ho,Option.some.injEq]at hr;subst hr;exact h.elim
 case alloc T=>exact bOp ho hr h
 case box T x=>
  simp only[aA,ho]at hr;split at hr
  ·cases hr;exact Y9 ho h
  ·cases hr;exact Wz ho h
 case load T x=>exact Fs ho hr h
 case store T a x=>
  simp only[aA,ho,ζ,ι]at hr;obtain⟨_,i,_,rfl⟩:=hr;exact h.elim
 case binOp op T x y yT=>
  cases hd:P.underlying T with
  |none=>simp only[aA,ho,hd]at hr;cases hr
  |some d=>
   cases d
   case struct fs=>
    simp only[aA,ho,hd]at hr;rw[ζ]at hr;obtain⟨hc,hr⟩:=hr;simp only[μ,aaY]at hc;split at hr
    ·rename_i kds hk;cases hr;exact bNp ho hd hc.1.1 hc.1.2 hc.2 hk h
    ·rw[ι]at hr;obtain⟨sh,hs,rfl⟩:=hr;exact MG ho (.inr ⟨fs,hd⟩) hc.1.1 hc.2 hs h
   case array m e=>
    simp only[aA,ho,hd]at hr;split at hr
    ·rename_i k i he hi;rw[ζ]at hr;obtain⟨hc,hr⟩:=hr;cases hr;simp only[μ,aaY,beq_iff_eq]at hc;exact bOk ho hd he hi hc.1.1 hc.1.2 hc.2 h
    ·rw[ζ]at hr;obtain⟨hc,hr⟩:=hr;simp only[μ,aaY]at hc;rw[ι]at hr;obtain⟨sh,hs,rfl⟩:=hr;exact MG ho (.inl ⟨_,_,hd⟩) hc.1 hc.2 hs h
   case bool=>exact WM ho hd hr h
   case interface ms=>
    simp only[aA,ho,hd]at hr;split at hr
    ·rw[ζ]at hr;obtain⟨hc,hr⟩:=hr;cases hr;exact QX ho hd hc h
    ·cases hr
   case int k=>simp only[aA,ho,hd,Option.some.injEq]at hr;subst hr;exact NR ho h
   case string=>simp only[aA,ho,hd,Option.some.injEq]at hr;subst hr;exact NR ho h
   case slice e=>exact Q0 ho hd hr h
   case pointer e=>exact QC ho hd hr h
   all_goals(simp only[aA,ho,hd]at hr;cases hr)
 case unOp op T x=>simp only[aA,ho,Option.some.injEq]at hr;subst hr;exact Yz ho h
 case fieldAddr T x k=>exact ML ho hr h
 case field T x k=>exact VM ho hr h
 case indexAddr T x i=>
  cases hd:P.underlying T with
  |none=>simp only[aA,ho,hd]at hr;cases hr
  |some d=>
   cases d
   case slice e=>exact LG ho hd hr h
   case array m e=>
    simp only[aA,ho,hd,ζ,ι]at hr;obtain⟨hm,inf,hi,rfl⟩:=hr;exact XJ ho hd hm hi rfl h
   all_goals(simp only[aA,ho,hd]at hr;cases hr)
 case sliceToArrayPointer T x=>
  simp only[aA,ho]at hr;split at hr
  ·rename_i m e hd;cases hr;exact Qu ho hd h
  ·cases hr
 case nilCheck x=>simp only[aA,ho,Option.some.injEq]at hr;subst hr;exact Oz ho h
 case index T x i=>
  cases hd:P.underlying T with
  |none=>simp only[aA,ho,hd]at hr;cases hr
  |some d=>
   cases d
   case string=>simp only[aA,ho,hd,Option.some.injEq]at hr;subst hr;exact Uk ho hd h
   case array m e=>
    simp only[aA,ho,hd]at hr;split at hr
    case h_2=>cases hr
    rename_i d inf he hi;cases hr;exact SB ho hd he hi rfl h
   all_goals(simp only[aA,ho,hd]at hr;cases hr)
 case slice T x lo hi mx=>
  cases hd:P.underlying T with
  |none=>simp only[aA,ho,hd]at hr;cases hr
  |some d=>
   cases d
   case string=>
    simp only[aA,ho,hd]at hr;split at hr
    case isFalse=>cases hr
    rename_i hm;cases hr;have:mx=none:=by simpa using hm
    subst this;exact Qt ho hd h
   case slice e=>exact Ki ho hd hr h
   case array m e=>
    simp only[aA,ho,hd,ζ,η]at hr;obtain⟨hm,inf,hi,h1,hr⟩:=hr;cases hr;have:mx=none:=by simpa using hm
    subst this;exact YR ho hd hi h1 h
   all_goals(simp only[aA,ho,hd]at hr;cases hr)
 case convert src dst x=>
  simp only[aA,ho]at hr;split at hr
  ·rename_i k0 k hs hd;cases hr;exact W3 ho hs hd h
  ·rename_i e hs hd;split at hr
   ·rename_i he;cases hr;exact Vp ho hs he hd h
   ·cases hr
  ·rename_i e hs hd;split at hr
   ·rename_i he;cases hr;exact Ti ho hs hd he h
   ·cases hr
  ·cases hr
 case makeInterface T x=>
  simp only[aA,ho]at hr;split at hr
  ·rename_i fs hT;rw[ζ]at hr;obtain⟨_,hr⟩:=hr;cases hr;exact bPa ho hT h
  ·cases hr
 case typeAssert x xT T ok=>
  simp only[aA,ho]at hr;split at hr
  ·rename_i fs hT;rw[ζ]at hr;obtain⟨⟨hok,_⟩,hr⟩:=hr;subst hok;cases hr;exact bM5 ho hT h
  ·cases hr
 case panic x=>simp only[aA,ho,Option.some.injEq]at hr;subst hr;exact h.elim
 case makeSlice T x y=>
  cases hd:P.underlying T with
  |none=>simp only[aA,ho,hd]at hr;cases hr
  |some d=>
   cases d
   case slice e=>
    simp only[aA,ho,hd,η,ζ]at hr;obtain⟨i,hi,z,hz,hz',hr⟩:=hr;cases hr;exact Zq ho hd hi hz (by simpa using hz') h
   all_goals(simp only[aA,ho,hd]at hr;cases hr)
 case extract x i=>simp only[aA,ho,Option.some.injEq]at hr;subst hr;exact XT ho h
 case makeFunc fn first caps=>
  cases fn
  case func f=>exact SI ho hr h
  all_goals(simp only[aA,ho]at hr;cases hr)
 case build T ps=>
  cases hd:P.underlying T with
  |none=>simp only[aA,ho,hd]at hr;cases hr
  |some d=>
   cases hi:P.info? T with
   |none=>simp only[aA,ho,hd,hi]at hr;cases d<;>cases hr
   |some i=>
    cases d
    case struct fs=>exact Yf ho hd hi hr h
    case array m e=>
     simp only[aA,ho,hd,hi,η,ι]at hr;obtain⟨fi,hfi,z,hz,rfl⟩:=hr;exact Qx ho hd hi hz hfi h
    all_goals(simp only[aA,ho,hd,hi]at hr;cases hr)
 case buildSlice T k ps=>exact SO ho hr h
 case call c=>
  cases hc:c.callee
  case value f=>simp only[aA,ho,hc,Option.some.injEq]at hr;subst hr;exact Ry ho hc h
  case invoke r nm=>simp only[aA,ho,hc]at hr;cases hr
  case builtin b=>
   cases b
   case len=>
    simp only[aA,ho,hc]at hr;split at hr
    case h_2=>cases hr
    rename_i x t ha ht;split at hr
    ·rename_i hd;cases hr;exact Mw ho hc ha ht (by simp[hd]) h
    ·rename_i e hd;cases hr;exact Mw ho hc ha ht (by simp[hd]) h
    ·rename_i k0 e hd;cases hr;exact h.elim
    ·cases hr
   case delete=>
    exfalso;simp only[aA,ho,hc]at hr;split at hr
    ·simp only[ζ,ι]at hr;obtain⟨_,_,_,rfl⟩:=hr;exact h.elim
    ·cases hr
   case min=>
    simp only[aA,ho,hc]at hr;split at hr
    case h_2=>cases hr
    rename_i x y ha;cases hr;exact M9 ho (by rw[hc];rfl) ha h
   case max=>
    simp only[aA,ho,hc]at hr;split at hr
    case h_2=>cases hr
    rename_i x y ha;cases hr;exact M9 ho (by rw[hc];rfl) ha h
   case cap=>
    simp only[aA,ho,hc]at hr;split at hr
    case h_2=>cases hr
    rename_i x t ha ht;split at hr
    ·rename_i e hd;cases hr;exact bH3 ho hc ha ht hd h
    ·cases hr
   case clear=>
    exfalso;simp only[aA,ho,hc]at hr;split at hr
    ·split at hr
     ·simp only[η,ζ]at hr;obtain⟨_,_,_,_,_,hr⟩:=hr;cases hr;exact h.elim
     ·cases hr
    ·cases hr
   case copy=>
    exfalso;simp only[aA,ho,hc]at hr;split at hr
    ·split at hr
     ·simp only[ι]at hr;obtain⟨_,_,hr⟩:=hr;cases hr;exact h.elim
     ·cases hr
    ·cases hr
   case append=>
    simp only[aA,ho,hc]at hr;split at hr
    case h_2=>cases hr
    rename_i x y t u ha ht;split at hr
    case h_1=>
     rename_i e kn hd1 hd2;simp only[η,ζ,μ,decide_eq_true_eq,beq_iff_eq]at hr;obtain⟨i,hi,z,hz,⟨⟨h1,h2⟩,h3⟩,hr⟩:=hr;cases hr;exact Wi ho hc ha ht hd1 hd2 hi hz h3 h2 h1 h
    case h_3=>cases hr
    rename_i e d _ hd1 hd2;simp only[η]at hr;obtain⟨i,hi,hr⟩:=hr;rw[ζ]at hr;obtain⟨hcond,hr⟩:=hr;cases hr;simp only[μ,decide_eq_true_eq]at hcond;obtain⟨⟨⟨h1,h2⟩,h3⟩,h4⟩:=hcond;refine Hn ho hc ha ht hd1 hd2 ?_ hi h4 h3 h;cases d
    case string=>exact .inl rfl
    case slice=>exact .inr ⟨_,rfl⟩
    all_goals(simp at h1)
   all_goals(simp only[aA,ho,hc]at hr;cases hr)
 all_goals(simp only[aA,ho]at hr;cases hr)
def FR(r:Option Nat):Fence:={Fence.wide with round:=r}
theorem oC(r:Option Nat)(f:FuncId):(FR r).fn f:=trivial
theorem UL(r:Option Nat):(FR r).round=r:=rfl
theorem Ns{f:FuncId}(h:Calls P f args w R):CallsIn (FR r) n P f args w R:=
 (callsIn_wide (n:=n)).2 h
theorem DE{f:FuncId}(h:CallsIn (FR r) n P f args w R):Calls P f args w R:=
 (callsIn_wide (n:=n)).1 h
theorem bp.uo{R:Value->World->Prop}(h:bp P o ρ w R):∀c,o.op≠.defer c:=fun c ho=>by
 unfold bp at h;simp only[execOp,ho,Sem.run_bind]at h;cases hr:(resolve ρ c o.type).run P w with
 |ok d w'=>rw[hr]at h;simp[Result.andThen]at h
 |halt x w'=>rw[hr]at h;simp[Result.andThen]at h
theorem oN{R:Value->World->Prop}{next:Act->World->Prop}{Q:Exit->Act->World->Prop}(h:bp P o a.eval w R)
  (hn:∀v w',R v w'->next (a.put o.dst v) w'):o.wpIn (FR r) n P a w next Q:=by
 have hnd:=h.uo;unfold bp at h;unfold Oper.wpIn;refine⟨fun f _=>oC r f,?_⟩;rw[Oper.semAt_eq _ _ _ hnd];split at h
 ·rename_i v w' e;rw[e];exact hn _ _ h
 ·rename_i w' e;rw[e];exact hn _ _ h
 ·rename_i f args w' e;rw[e];refine⟨fun hd=>by simp[FR,Fence.wide]at hd,Ns (h.mono ?_)⟩;rintro e w'' ⟨v,rfl,hr⟩;exact hn _ _ hr
 ·exact h.elim
section
variable{F:Fence}{n:Nat}{P:Program}{Q:Exit->Act->World->Prop}{a:Act}{w:World}
theorem Rm{b:Frame}{k:List Item}{c:Code}:step P (lone (b.atR a (.code (.scope c)::k)) cs w)=.next (lone (b.atR a (.code c::.inScope c::k)) cs w):=
 step_lone_go (by simp[stepG,stepG.exec,Frame.atR])
theorem QB{b:Frame}{k:List Item}{c:Code}:step P (lone (b.atR a (.inScope c::k)) cs w)=.next (lone (b.atR a k) cs w):=
 step_lone_go (by simp[stepG,stepG.exec,Frame.atR])
theorem Wl{c:Code}(h:c.wpIn F n P (Exit.noGoto Q) a w):(Code.scope c).wpIn F n P Q a w:=by
 intro b k cs hro hb hr;obtain⟨e,a₁,w₁,hq,harr⟩:=h b (.inScope c::k) cs hro hb hr;have h1:StepsIn (Machine.fenced P F) P (lone (b.atR a (.code (.scope c)::k)) cs w) (lone (b.atR a (.code c::.inScope c::k)) cs w):=.one (fenced_calm hb hr rfl) Rm;cases e with
 |normal=>exact⟨.normal,a₁,w₁,hq,(h1.trans harr).trans (.one (fenced_calm hb hr rfl) QB)⟩
 |exit id=>
  refine⟨.exit id,a₁,w₁,hq,fun k' hk=>h1.trans (harr.1 k' (by simp[exitTo,hk])),fun hr' hk=>?_⟩;obtain⟨k₁,g1,g2⟩:=harr.2 hr' (by simp[exitTo,hk]);exact⟨k₁,g1,h1.trans g2⟩
 |goto l=>exact hq.elim
 |ret=>exact⟨_,a₁,w₁,hq,.of_steps h1 harr⟩
 |panic ch=>exact⟨_,a₁,w₁,hq,.of_steps h1 harr⟩
 |outgrown=>exact⟨_,a₁,w₁,hq,.of_steps h1 harr⟩
end
def gb{α:Type}(f:Nat->α)(i:Nat)(v:α):Nat->α:=fun j=>if j=i then v else f j
structure an where
 env:Nat->AV
 bs:Nat->Option bn
 own:Nat->Option bn
 nx:Nat
variable{s:an}{K:an->Prop}
def an.lk(s:an):bJ
 |.B i=>s.bs i
 |.O i=>s.own i
def an.ev(s:an):Operand->AV:=Sf s.env
def dE(env:Nat->AV)(dst:Option Nat)(a:AV):Nat->AV:=
 match dst with
 |some d=>gb env d a
 |none=>env
def sP(own:Nat->Option bn)(n:Nat):List bn->Nat->Option bn
 |[]=>own
 |b::bs=>sP (gb own n (some b)) (n+1) bs
def DQ(bs:Nat->Option bn)(fz:List Hd):Nat->Option bn:=match fz with
 |[]=>bs
 |fz=>fun i=>if Hd.B i∈fz then(bs i).map bn.jo else bs i
def u7(own:Nat->Option bn)(fz:List Hd):Nat->Option bn:=match fz with
 |[]=>own
 |fz=>fun i=>if Hd.O i∈fz then(own i).map bn.jo else own i
def an.put(s:an)(dst:Option Nat)(a:AV)(nbs:List bn)(fz:List Hd):an:=
 {env:=dE s.env dst a,bs:=DQ s.bs fz,own:=sP (u7 s.own fz) s.nx nbs,nx:=s.nx+nbs.length}
def an.ba(s:an)(h:Hd)(b:Option bn):an:=
 match h with
 |.B i=>{s with bs:=gb s.bs i b}
 |.O i=>{s with own:=gb s.own i b}
def AV.un:AV:=.D (.C undef)
def pU(s:an)(sz:Nat)(xv:AV)(K:an->Prop):AV->Prop
 |.ptr h off=>∃cs ys,s.lk h=some (.box cs)/\xv.cells?=some ys/\ys.length=sz/\off+sz<=cs.length/\K (s.ba h (some (.box (cs.take off++ys++cs.drop (off+sz)))))
 | .eptr h k ix off=>((k ≠ 1\/sz=1)/\∃ es e ys ds,s.lk h=some (.row true k es)/\es[ix]?=some e/\xv.cells?=some ys/\AV.data ys=some ds/\ds.length=sz/\off + sz <= e.length /\
   K (s.ba h (some (.row true k (es.set ix (e.take off++ds++e.drop (off+sz)))))))\/
  k=1/\off=0/\sz≠1/\∃es ys ds,s.lk h=some (.row true 1 es)/\xv.cells?=some ys/\AV.data ys=some ds/\ds.length=sz/\ix+sz<=es.length/\
   K (s.ba h (some (.row true 1 (es.take ix++(ds.map fun d=>[d])++es.drop (ix+sz)))))
 |_=>False
def DV.one:DV->Bool
 |.C v=>v.oneCell'
 |_=>true
def qn(es:List (List DV)):Bool:=es.all fun e=>e.all DV.one
def sY(s:an)(k bytes:Nat)(y:Operand)(dst:Option Nat)(K:an->Prop):AV->Prop
 | .sl h k' off len=>k'=k/\off=0/\∃ mt es ys,s.lk h=some (.row mt k es)/\len=es.length/\AV.content s.lk (s.ev y)=some ys/\js k es/\js k ys/\qn ys=true/\(len + ys.length) * bytes <= 140737488355328 /\
   K ((s.ba h none).put dst (.sl (.O s.nx) k 0 (len+ys.length)) [.row mt k (es++ys)] [])
 |.fl []=>dst.isSome=true/\∃ys,AV.content s.lk (s.ev y)=some ys/\js k ys/\ys.length*bytes<=140737488355328/\K (s.put dst (.sl (.O s.nx) k 0 ys.length) [.row true k ys] (ja s.lk (AV.rows (s.ev y))))
 | .fl (e :: es)=>∃ ys,AV.content s.lk (s.ev y)=some ys/\js k (e :: es)/\js k ys/\((e :: es).length + ys.length) * bytes <= 140737488355328 /\
   (if ys=[]then K (s.put dst (.fl (e::es)) [] [])else K (s.put dst (.sl (.O s.nx) k 0 ((e::es).length+ys.length)) [.row true k (e::es++ys)] (ja s.lk (AV.rows (s.ev y)))))
 |_=>False
def zy(s:an)(k:Nat)(zs:List DV)(dst:Option Nat)(K:an->Prop):AV->Prop
 |.sl h k' off len=>k'=k/\∃es,s.lk h=some (.row true k es)/\off+len<=es.length/\K ((s.ba h (some (.row true k (es.take off++aae len zs++es.drop (off+len))))).put dst .any [] [])
 |_=>False
def ze(s:an)(k:Nat)(y:Operand)(dst:Option Nat)(K:an->Prop):AV->Prop
 | .sl h k' off len=>k'=k/\∃ es ys,s.lk h=some (.row true k es)/\off + len <= es.length/\AV.content s.lk (s.ev y)=some ys/\js k ys/\qn (ys.take (min ys.length len))=true /\
   K ((s.ba h (some (.row true k (es.take off++ys.take (min ys.length len)++es.drop (off+min ys.length len))))).put dst (.D (.I .i64 (min ys.length len:Nat))) [] [])
 | .slk h k' off len _=>k'=k/\∃ es ys,s.lk h=some (.row true k es)/\off + len <= es.length/\AV.content s.lk (s.ev y)=some ys/\js k ys/\qn (ys.take (min ys.length len))=true /\
   K ((s.ba h (some (.row true k (es.take off++ys.take (min ys.length len)++es.drop (off+min ys.length len))))).put dst (.D (.I .i64 (min ys.length len:Nat))) [] [])
 |_=>False
def pz(h:Hd):List Hd->Nat->Option Nat
 |[],_=>none
 |x::xs,i=>if x=h then some i else pz h xs (i+1)
theorem CL{h:Hd}:∀{l:List Hd} {n i:Nat},pz h l n=some i->n<=i/\l[i-n]?=some h
 |[],_,_,q=>by cases q
 |x::xs,n,i,q=>by
  unfold pz at q;split at q
  ·rename_i e;cases q;simp[e]
  ·obtain⟨h1,h2⟩:=CL q;refine⟨by omega,?_⟩;rw[show i-n=(i-(n+1))+1 by omega];simpa using h2
theorem J1{h:Hd}:∀{l:List Hd} {n:Nat},pz h l n=none->h∉l
 |[],_,_=>by simp
 |x::xs,n,q=>by
  unfold pz at q;split at q
  ·cases q
  ·rename_i e;have:=J1 q;simp only[ω,not_or];exact⟨fun q=>e q.symm,this⟩
def np(hs:List Hd)(h:Hd):Option Hd:=(pz h hs 0).map .B
def uN(lk:bJ)(hs:List Hd):List (Option bn):=hs.map fun h=>(lk h).map (bn.conv lk (np hs))
def bn.rows:bn->List Hd
 |.box cs=>AV.cm cs
 |_=>[]
def bn.qe:bn->Bool
 |.it=>true
 |_=>false
def wB(lk:bJ):List Hd->List Hd
 |[]=>[]
 |h::hs=>(match lk h with|some b=>bn.rows b|none=>[])++wB lk hs
theorem Lz{lk:bJ}{x h:Hd}{b:bn}:∀{hs:List Hd},h∈hs->lk h=some b->x∈bn.rows b->x∈wB lk hs
 |[],hm,_,_=>by cases hm
 |y::ys,hm,hl,hx=>by
  unfold wB;rcases ω.1 hm with rfl|hm
  ·exact abp _ (by rw[hl];exact hx)
  ·exact abi _ (Lz hm hl hx)
def pe(lk:bJ)(hs:List Hd)(args:List AV):List Hd:=(ja lk (AV.cm args++wB lk hs)).filter fun h=>decide (h∉hs)
def cT(s:an)(ψ:Hd->Hd):List Hd->List (Option bn)->an
 |h::hs,b::bs=>cT (s.ba h (b.map (bn.cg ψ))) ψ hs bs
 |_,_=>s
def hH(s:an)(hs:List Hd)(args:List AV)(dst:Option Nat)(r:AV)(bs':List (Option bn))(nbs:List bn):an:=
 (cT (s.put none .un [] (pe s.lk hs args)) (bU hs s.nx) hs bs').put dst (AV.cg (bU hs s.nx) r) (nbs.map (bn.cg (bU hs s.nx))) []
def sn(nx:Nat):List Hd->Bool
 |[]=>true
 |.O j::r=>decide (j<nx)&&sn nx r
 |.B _::r=>sn nx r
theorem Ij{nx j:Nat}:∀{hs:List Hd},sn nx hs=true->.O j∈hs->j<nx
 |[],_,h=>by cases h
 |.O k::r,q,h=>by
  simp only[sn,μ,decide_eq_true_eq]at q;rcases ω.1 h with e|h
  ·cases e;exact q.1
  ·exact Ij q.2 h
 |.B k::r,q,h=>by
  rcases ω.1 h with e|h
  ·cases e
  ·exact Ij (hs:=r) q h
theorem Kk{h:Hd}:∀{l:List Hd} {n i:Nat},l.Nodup->l[i]?=some h->pz h l n=some (n+i)
 |[],_,_,_,q=>by simp at q
 |x::xs,n,0,_,q=>by
  simp only[abA,Option.some.injEq]at q;unfold pz;rw[if_pos q];rfl
 |x::xs,n,i+1,hn,q=>by simp only[List.getElem?_cons_succ]at q;unfold pz;rw[if_neg (fun e:x=h=>(abk.1 hn).1 (by rw[e];exact aar q)),Kk (abk.1 hn).2 q];congr 1;omega
def Bp(P:Program)(s:an)(dst:Option Nat)(K:an->Prop)(args:List AV):AV->Prop
 | .clo fn caps=>∃ hs r bs' nbs,hs.Nodup/\sn s.nx hs=true/\(∀ h ∈ hs,(s.lk h).isSome=true)/\(∀ h ∈ hs,(s.lk h).any bn.qe=false)/\bs'.length=hs.length /\
   de P fn (AV.bq s.lk (np hs) (args++caps)) (uN s.lk hs) r bs' nbs/\K (hH s hs (args++caps) dst r bs' nbs)
 |_=>False
mutual
def AV.lp:AV->Bool
 |.D _=>true
 |.fl _=>true
 |.agg cs=>AV.jq cs
 |_=>false
def AV.jq:List AV->Bool
 |[]=>true
 |a::as=>AV.lp a&&AV.jq as
end
def FE(s:an)(z:AV)(K:MV->an->Prop):Prop:=
 (z.lp=true/\K (.v z) s)\/∃h k mt es,z=.sl h k 0 es.length/\s.lk h=some (.row mt k es)/\(K (.o k es) (s.ba h none)\/mt=true/\K (.ow k es) (s.ba h none))
def BM(es:List (AV×MV))(r:Option (Nat×MV))(key:AV)(mv:MV):List (AV×MV):=match r with
 |some (j,_)=>es.set j (key,mv)
 |none=>es++[(key,mv)]
def vh(s:an)(kd:KD)(y z:Operand)(K:an->Prop):AV->Prop
 |.mref h=>(s.ev y).r6 kd=true/\FE s (s.ev z) fun mv s1=>∃es it r,s.lk h=some (.mp kd es it)/\mR (s.ev y) es=some r/\K (s1.ba h (some (.mp kd (BM es r (s.ev y) mv) none)))
 |_=>False
def JX(key:AV):List AV->Option (List AV)
 |[]=>some []
 |x::r=>match key.Bm x,JX key r with
  |some true,some l=>some l
  |some false,some l=>some (x::l)
  |_,_=>none
def VP(key:AV):Option (Hd×List AV×List AV)->Option (Option (Hd×List AV×List AV))
 |none=>some none
 |some (h,_,rem)=>match JX key rem with
  |some r=>some (some (h,[],r))
  |none=>none
def bS3(s:an)(kd:KD)(y:Operand)(K:an->Prop):AV->Prop
 |.mref h=>(s.ev y).r6 kd=true/\∃es it r it',s.lk h=some (.mp kd es it)/\mR (s.ev y) es=some r/\VP (s.ev y) it=some it'/\K (s.ba h (some (.mp kd (match r with|some (j,_)=>es.eraseIdx j|none=>es) it')))
 |_=>False
def bTb(s:an)(kd:KD)(dst:Option Nat)(K:an->Prop):AV->Prop
 |.mref h=>∃es it,s.lk h=some (.mp kd es it)/\K ((s.ba h (some (.mp kd es (some (.O s.nx,[],es.map (·.1)))))).put dst (.itr h (.O s.nx)) [.it] [])
 |_=>False
def bPp(s:an)(kd:KD)(z:AV)(k:Nat)(ok:Bool)(y:Operand)(dst:Option Nat)(K:an->Prop):AV->Prop
 |.mref h=>(s.ev y).r6 kd=true/\ok=false/\∃es it r,s.lk h=some (.mp kd es it)/\mR (s.ev y) es=some r/\
  match r with
  |some (j,.o k' rs)=>k'=k/\∃k2,es[j]?=some (k2,.o k rs)/\K ((s.ba h (some (.mp kd (es.set j (k2,.v (.D (.L rs)))) it))).put dst (.sl (.O s.nx) k 0 rs.length) [.row false k rs] [])
  |some (j,.ow k' rs)=>k'=k/\∃k2,es[j]?=some (k2,.ow k rs)/\K ((s.ba h (some (.mp kd (es.set j (k2,.v .any)) it))).put dst (.sl (.O s.nx) k 0 rs.length) [.row true k rs] [])
  |some _=>False
  |none=>z=.D (.L [])/\∃mt,K ((s.ba h (some (.mp kd es it))).put dst (.sl (.O s.nx) k 0 0) [.row mt k []] [])
 |_=>False
def bS2(s:an)(dst:Option Nat)(K:an->Prop):AV->Prop
 |.itr h hi=>(s.lk hi).isSome=true/\∃kd es cur rem j k2 k rs,s.lk h=some (.mp kd es (some (hi,[cur],rem)))/\cur.r6 kd=true/\mR cur es=some (some (j,.ow k rs))/\es[j]?=some (k2,.ow k rs)/\
  K ((s.ba h (some (.mp kd (es.set j (k2,.v .any)) (some (hi,[],rem))))).put dst (.cn [cur,.sl (.O s.nx) k 0 rs.length]) [.row true k rs] [])
 |_=>False
def pE(P:Program)(s:an)(ro:RO)(K:an->Prop):Prop:=
 match ro.op with
 |.store sz a x=>pU s sz (s.ev x) K (s.ev a)\/pU (s.put none .un [] (ja s.lk (AV.rows (s.ev x)))) sz (AV.conv s.lk (fun _=>none) (s.ev x)) K (s.ev a)
 |.appE k bytes x y=>sY s k bytes y ro.dst K (s.ev x)
 |.callE f args=>Bp P s ro.dst K (args.map s.ev) (s.ev f)
 |.clr k zs x=>zy s k zs ro.dst K (s.ev x)
 |.cpy k x y=>ze s k y ro.dst K (s.ev x)
 |.mtake kd z k ok x y=>False
 |.mput kd x y z=>vh s kd y z K (s.ev x)
 |.mdel kd x y=>False
 |.rng kd x=>False
 |.entT x=>False
 |op=>aY P s.lk s.nx s.ev op fun a nbs fz=>K (s.put ro.dst a nbs fz)
def lH(P:Program):List RO->an->(an->Prop)->Prop
 |[],s,K=>K s
 |ro::r,s,K=>
  match ro.guard with
  |none=>pE P s ro fun s'=>lH P r s' K
  |some (t,want)=>
   match s.env t with
   |.D (.B c)=>(c=want->pE P s ro fun s'=>lH P r s' K)/\(¬c=want->lH P r (s.put ro.dst .un [] []) K)
   |.D (.C (.tuple _))=>lH P r (s.put ro.dst .un [] []) K
   |_=>False
def _root_.Go.Obj.qi:Obj->Bool
 |.cells _ _ _=>true
 |.map _ _=>true
 |.mapIter _ _ _ _=>true
 |_=>false
def gu(w w':World):Prop:=∀(b:Nat) (o:Obj),w.heap[b]?=some o->o.qi=false->w'.heap[b]?=some o
theorem gu.refl(w:World):gu w w:=fun _ _ h _=>h
theorem Fr.keep(h:Fr oh og G G' w w')(hc:∀b,oh b->∃o,w.heap[b]?=some o/\o.qi=true):gu w w':=fun b o hb hn=>by
 by_cases ho:oh b
 ·obtain⟨o',e,e2⟩:=hc b ho;rw[e]at hb;cases hb;rw[e2]at hn;cases hn
 ·rw[h.heap b (aad.1 hb).1 ho];exact hb
theorem bg.data(hb:bg G m bl b sz w):∃o,w.heap[b]?=some o/\o.qi=true:=by
 cases bl with
 |box cs=>obtain⟨vs,T,h1,_⟩:=hb;exact⟨_,h1,rfl⟩
 |row mt k es=>cases mt<;>(obtain⟨vs,T,h1,_⟩:=hb;exact⟨_,h1,rfl⟩)
 |_=>exact hb.elim
theorem c9.data{fp:List Nat}(hb:c9 G m bl b sz fp w):∀c∈b::fp,∃o,w.heap[c]?=some o/\o.qi=true:=by
 have key:(∃o,w.heap[b]?=some o/\o.qi=true)/\∀c∈fp,∃o,w.heap[c]?=some o/\o.qi=true:=by
  cases bl with
  |nst k es=>obtain⟨_,vs,T,h1,_,_,h4,_⟩:=hb;exact⟨⟨_,h1,rfl⟩,fun c hc=>let⟨_,_,h5⟩:=h4.lt c hc;⟨_,h5,rfl⟩⟩
  |sb T us es=>obtain⟨_,_,v,h1,h4,_⟩:=hb;exact⟨⟨_,h1,rfl⟩,fun c hc=>let⟨_,_,h5⟩:=h4.lt c hc;⟨_,h5,rfl⟩⟩
  |mp kd es i=>obtain⟨_,_,arr,clk,h1,_,_,h4,_⟩:=hb;exact⟨⟨_,h1,rfl⟩,fun c hc=>let⟨_,_,h5⟩:=h4.lt c hc;⟨_,h5,rfl⟩⟩
  |it=>obtain⟨_,rfl,_,_,_,_,h1⟩:=hb;exact⟨⟨_,h1,rfl⟩,fun c hc=>by cases hc⟩
  |_=>exact hb.elim
 intro c hc;rcases ω.1 hc with rfl|hc
 ·exact key.1
 ·exact key.2 c hc
theorem cf.data{G:Gh}{m:HM}{lk:bJ}{w:World}(h:cf G m lk w){b:Nat}(ho:Own m b):∃o,w.heap[b]?=some o/\o.qi=true:=by
 obtain⟨x,l,hx,hl⟩:=ho;cases l with
 |dead=>cases hl
 |none=>cases hl
 |at_ b' sz=>
  obtain⟨bl,_,hb⟩:=h.fh x b' sz hx;rw[aai.1 hl];exact hb.data
 |atx b' sz fp=>
  obtain⟨bl,_,hb⟩:=h.di x b' sz fp hx;exact hb.data b hl
def AV.m5:AV->Bool
 |.fl _=>true
 |.sl _ _ _ _=>true
 |.slk _ _ _ _ _=>true
 |_=>false
structure ez where
 w0:World
 G0:Gh
 m0:HM
 N:Nat
 cv:Nat->Value:=fun _=>undef
 J:AV->World->Prop:=fun _ _=>True
 iy:∀x w w',J x w->gu w w'->J x w':=by exact fun _ _ _ _ _=>trivial
 qw:∀x w,J x w->J .any w:=by exact fun _ _ _=>trivial
 IS:∀x w y,AV.m5 x=true->J x w->J y w:=by exact fun _ _ _ _ _=>trivial
 yd:∀x w ψ,J x w->J (AV.cg ψ x) w:=by exact fun _ _ _ _=>trivial
 qy:∀x w lk φ,J x w->J (AV.conv lk φ x) w:=by exact fun _ _ _ _ _=>trivial
 sk:Nat:=0
 nd:Bool:=false
 dt:List Deferred:=[]
 pq:∀x w r o,J x w->w0.heap.size+sk<=r->J x (w.putObj r o):=by exact fun _ _ _ _ _ _=>trivial
 GG:∀x w,J x w->w0.heap.size<=w.heap.size->w0.heap.size+sk<=w.heap.size:=by exact fun _ _ _ h=>h
def ez.val(E:ez)(a:Act)(t:Nat):Value:=if t<E.N then a.tmps.getD t undef else E.cv (t-E.N)
theorem ez.e7{E:ez}{t:Nat}(h:t<E.N):E.val a t=a.tmps.getD t undef:=if_pos h
theorem ez.nv{E:ez}{t:Nat}(h:E.N<=t):E.val a t=E.cv (t-E.N):=if_neg (by omega)
def Marks(B:Nat)(nd:Bool)(ds:List Deferred)(w:World):Prop:=(∀d∈ds,∃r,d={target:=.collected r,args:=#[]}/\B<=r/\w.heap[r]?=some (.deferred (some [])))/\ds.Nodup/\(nd=true->ds=[])
theorem Marks.nil:Marks B nd [] w:=⟨fun _ h=>(by cases h),List.nodup_nil,fun _=>rfl⟩
theorem Marks.keep(h:Marks B nd ds w)(hk:gu w w'):Marks B nd ds w':=
 ⟨fun d hd=>let⟨r,h1,h2,h3⟩:=h.1 d hd;⟨r,h1,h2,hk r _ h3 rfl⟩,h.2⟩
def je(dt:List Deferred)(B:Nat)(nd:Bool)(ds:List Deferred)(w:World):Prop:=∃ms,ds=ms++dt/\Marks B nd ms w
theorem dG:je [] B nd ds w↔Marks B nd ds w:=
 ⟨fun⟨ms,h,h'⟩=>by rw[aag]at h;rw[h];exact h',fun h=>⟨ds,by simp,h⟩⟩
theorem je.keep{dt:List Deferred}{B:Nat}{nd:Bool}{ds:List Deferred}{w w':World}(h:je dt B nd ds w)(hk:gu w w'):je dt B nd ds w':=
 let⟨ms,h1,h2⟩:=h;⟨ms,h1,h2.keep hk⟩
structure ir (E:ez) (G:Gh) (m:HM) (s:an) (a:Act) (w:World):Prop where
 ew:cf G m s.lk w
 env:∀t,AV.aq G m (s.env t) (E.val a t)
 size:a.tmps.size=E.N
 defers:je E.dt (E.w0.heap.size+E.sk) E.nd a.defers w
 ki:E.J (s.env E.N) w
 fresh:∀i,s.nx<=i->m (.O i)=none
 frame:Fr (Own E.m0) (Own E.m0) E.G0 G E.w0 w
 base:∀i,dw (E.m0 (.B i)) (m (.B i))
 own:∀h l b,m h=some l->b∈l.ga->E.w0.heap.size<=b\/Own E.m0 b
 qq:True
 iv:∀i,s.nx<=i->s.own i=none
def df(E:ez)(s:an)(a:Act)(w:World):Prop:=∃G m,ir E G m s a w
theorem Fr.step{oh' og':Nat->Prop}{G0:Gh}{w0:World}(h:Fr oh og G0 G w0 w)(h':Fr oh' og' G G' w w')(h1:∀b,b<w0.heap.size->oh' b->oh b)(h2:∀b,b<w0.heap.size->og' b->og b):
    Fr oh og G0 G' w0 w':=
  ⟨h'.os.trans h.os,h.tape.trans h'.tape,h'.output.trans h.output,aaG h.size h'.size,
   fun b hb ho=>(h'.heap b (aa6 hb h.size) (fun q=>ho (h1 b hb q))).trans (h.heap b hb ho),
   fun b hb ho o=>(h'.gh b (aa6 hb h.size) (fun q=>ho (h2 b hb q)) o).trans (h.gh b hb ho o),h.le.trans h'.le⟩
theorem ir.gq{E:ez}(h:ir E G m s a w)(hb:b<E.w0.heap.size)(ho:Own m b):Own E.m0 b:=by
 obtain⟨x,l,hx,hl⟩:=ho;rcases h.own x l b hx hl with h1|h1
 ·omega
 ·exact h1
theorem sS:∀(bs:List bn) (own:Nat->Option bn) (n i:Nat),sP own n bs i=if n<=i/\i<n+bs.length then bs[i-n]?else own i
 |[],own,n,i=>by simp only[sP,List.length_nil,abt];rw[if_neg (by omega)]
 |b::bs,own,n,i=>by
  unfold sP;rw[sS bs _ (n+1) i];by_cases h1:n+1<=i/\i<n+1+bs.length
  ·rw[if_pos h1,if_pos (by simp;omega),show i-n=(i-(n+1))+1 by omega];rfl
  ·rw[if_neg h1];unfold gb;by_cases h2:i=n
   ·subst h2;simp
   ·rw[if_neg h2,if_neg (by simp;omega)]
theorem jZ(s:an)(dst:Option Nat)(a:AV)(nbs:List bn)(fz:List Hd):(s.put dst a nbs fz).lk=ij (fo s.lk fz) s.nx nbs:=by
 funext h;cases h with
 |B i=>
  show DQ s.bs fz i=_;unfold DQ ij fo;cases fz with
  |nil=>simp;rfl
  |cons x fz=>rfl
 |O i=>
  show sP (u7 s.own fz) s.nx nbs i=_;rw[sS];unfold ij fo;simp only;split
  ·rfl
  ·unfold u7;cases fz with
   |nil=>simp;rfl
   |cons x fz=>rfl
theorem VI(t:Nat)(hd:∀d,dst=some d->d<a.tmps.size):(a.put dst v).tmps.getD t undef=if dst=some t then v else a.tmps.getD t undef:=by
 cases dst with
 |none=>simp[Act.put]
 |some d=>
  have:=hd d rfl;by_cases e:d=t
  ·subst e;simp[Act.put,this]
  ·simp[Act.put,Array.getElem?_setIfInBounds_ne e,e]
theorem BN{E:ez}(t:Nat)(hs:a.tmps.size=E.N)(hd:∀d,dst=some d->d<E.N):E.val (a.put dst v) t=if dst=some t then v else E.val a t:=by
 by_cases ht:t<E.N
 ·rw[ez.e7 ht,ez.e7 ht,VI t (by rw[hs];exact hd)]
 ·rw[ez.nv (by omega),ez.nv (by omega),if_neg (fun e=>ht (hd t e))]
theorem Qr{N:Nat}{x:AV}(hd:∀d,dst=some d->d<N):(s.put dst x nbs fz).env N=s.env N:=by
 show dE s.env dst x N=_;cases dst with
 |none=>rfl
 |some d=>show gb s.env d x N=_;unfold gb;rw[if_neg (by have:=hd d rfl;omega)]
theorem uW:(a.put dst v).tmps.size=a.tmps.size:=by cases dst<;>simp[Act.put]
theorem rA:(a.put dst v).defers=a.defers:=by cases dst<;>rfl
theorem qI(h:∀i,s.nx<=i->s.own i=none){a:AV}(i:Nat)(hi:(s.put dst a nbs fz).nx<=i):(s.put dst a nbs fz).own i=none:=by
 have hi':s.nx+nbs.length<=i:=hi;show sP (u7 s.own fz) s.nx nbs i=none;rw[sS,if_neg (by omega)];unfold u7;cases fz with
 |nil=>exact h i (by omega)
 |cons x fz=>simp only;split<;>simp[h i (by omega)]
def _root_.Go.Operand.mg(N:Nat):Operand->Bool
 |.tmp t=>decide (t<N)
 |_=>true
theorem ir.step{E:ez}{G:Gh}{m:HM}{s:an}{a:Act}{w:World}(h:ir E G m s a w){x:AV}{nbs:List bn}{fz:List Hd}{v:Value}{w':World}{dst:Option Nat}(hd:∀d,dst=some d->d<E.N)
  (hp:bj G m s.lk s.nx x nbs fz w v w'):df E (s.put dst x nbs fz) (a.put dst v) w':=by
 obtain⟨G',m',hS,hr,hF,hold,hnew⟩:=hp;have hm:HM.le m m':=fun hh loc hx=>.inl (.inl (by
  rw[hold hh (fun j hj e=>by subst e;rw[h.fresh _ (by omega)]at hx;cases hx)];exact hx))
 have hk:gu w w':=hF.keep (fun b q=>q.elim);refine⟨G',m',?_,?_,by rw[uW];exact h.size,by rw[rA];exact h.defers.keep hk,by rw[Qr hd];exact E.iy _ _ _ h.ki hk,?_,?_,?_,?_,h.qq,fun i hi=>qI h.iv i hi⟩
 ·rw[jZ];exact hS
 ·intro t;rw[BN t h.size hd];show AV.aq G' m' (dE s.env dst x t) _;cases dst with
  |none=>simp only[dE];simpa using AV.aq.mono hF.le hm _ _ (h.env t)
  |some d=>
   simp only[dE,gb];by_cases e:t=d
   ·subst e;simpa using hr
   ·rw[if_neg e,if_neg (fun h=>e (Option.some.inj h).symm)];exact AV.aq.mono hF.le hm _ _ (h.env t)
 ·intro i hi;have hi':s.nx+nbs.length<=i:=hi;rw[hold (.O i) (fun j hj e=>by cases e;omega)];exact h.fresh i (by omega)
 ·exact h.frame.step hF (fun b _ q=>q.elim) (fun b hb q=>h.gq hb q)
 ·intro i;rw[hold (.B i) (fun j hj e=>by cases e)];exact h.base i
 ·intro x l b hi hl;by_cases hc:∃j,j<nbs.length/\x=.O (s.nx+j)
  ·obtain⟨j,hj,rfl⟩:=hc;exact .inl (aaG h.frame.size (hnew j l b hj hi hl))
  ·rw[hold x (fun j hj e=>hc ⟨j,hj,e⟩)]at hi;exact h.own x l b hi hl
theorem ir.skip{E:ez}(h:ir E G m s a w)(hd:∀d,dst=some d->d<E.N):df E (s.put dst .un [] []) (a.put dst undef) w:=
 h.step hd (bj.val h.ew (by unfold AV.un AV.aq DV.aq;rfl))
theorem ir.oc{E:ez}(h:ir E G m s a w)(x:Operand)(hx:x.mg E.N=true):AV.aq G m (s.ev x) (a.eval x):=by
 cases x with
 |tmp t=>
  have:=h.env t;rw[ez.e7 (by simpa[Operand.mg]using hx)]at this;exact this
 |const v=>exact tP G m v
 |global g=>
  show AV.aq G m (match sw g with|some ds=>.rop ds|none=>.any) (.pointer (some ⟨g,0,none⟩));cases hg:sw g with
  |none=>unfold AV.aq;trivial
  |some ds=>unfold AV.aq;exact⟨g,0,rfl,h.ew.gl g ds hg⟩
 |func f=>
  show AV.aq G m (.clo f []) _;unfold AV.aq;exact⟨#[],rfl,by simp[AV.bb]⟩
theorem aQ(s:an)(h:Hd)(b:Option bn)(x:Hd):(s.ba h b).lk x=if x=h then b else s.lk x:=by
 cases h with
 |B i=>
  cases x with
  |B j=>
   show gb s.bs i b j=_;unfold gb;by_cases e:j=i
   ·subst e;simp
   ·rw[if_neg e,if_neg (fun h=>e (by cases h;rfl))];rfl
  |O j=>show s.own j=_;rw[if_neg (fun h=>by cases h)];rfl
 |O i=>
  cases x with
  |O j=>
   show gb s.own i b j=_;unfold gb;by_cases e:j=i
   ·subst e;simp
   ·rw[if_neg e,if_neg (fun h=>e (by cases h;rfl))];rfl
  |B j=>show s.bs j=_;rw[if_neg (fun h=>by cases h)];rfl
theorem eO(s:an)(h:Hd)(b:Option bn):(s.ba h b).env=s.env:=by cases h<;>rfl
theorem cC(s:an)(h:Hd)(b:Option bn):(s.ba h b).nx=s.nx:=by cases h<;>rfl
theorem Fr.setRow{oh og:Nat->Prop}{G:Gh}{w:World}{g:Nat}(hg:oh g)(cs:Array Value):Fr oh og G G w (w.setRow g cs):=
 ⟨rfl,.same rfl rfl,rfl,by simp,fun b _ hb=>setRow_other w g b cs (fun e=>hb (e▸hg)),fun _ _ _ _=>rfl,Gh.le.refl G⟩
theorem cf.write(hS:cf G m s.lk w)(hm:m hd=some (.at_ b sz)){vs':Array Value}
  (hb:w.heap[b]?=some (.cells vs T (0,0))) (hno:∀o,G b o=none) (hbl:∀w':World,w'.heap[b]?=some (.cells vs' T (0,0))->bg G m bl b sz w'):
  cf G m (s.ba hd (some bl)).lk (w.setRow b vs')/\Fr (Own m) (fun _=>False) G G w (w.setRow b vs'):=by
 have hnew:=setRow_heap w b vs vs' T (0,0) hb;have hki:dz m w (w.setRow b vs'):=fun _ b' _ _ _ _ _ _ _ hb'=>setRow_other w b b' vs' (fun e=>by rw[e,hb]at hb';cases hb');refine⟨⟨?_,?_,hS.da,?_,?_,hS.gl,fun x b' sz' fp hx=>?_⟩,Fr.setRow (.at_ hm) vs'⟩
 rotate_right
 ·have e:x≠hd:=fun e=>by subst e;rw[hm]at hx;cases hx
  obtain⟨bl',hl,hb'⟩:=hS.di x b' sz' fp hx;rw[aQ,if_neg e];exact⟨bl',hl,hb'.mono (Gh.le.refl G) (HM.le.refl m) (fun _ _ _=>rfl) (fun c hc=>setRow_other w b c vs' (fun eb=>e (hS.da x hd _ _ c hx hm hc (aai.2 eb)))) hki⟩
 ·intro x b' sz' hx;rw[aQ];by_cases e:x=hd
  ·subst e;rw[if_pos rfl];have:Loc.at_ b' sz'=Loc.at_ b sz:=by rw[hm]at hx;exact(Option.some.inj hx).symm
   cases this;exact⟨bl,rfl,hbl _ hnew⟩
  ·rw[if_neg e];obtain⟨bl',hl,hb'⟩:=hS.fh x b' sz' hx;have hne:b'≠b:=fun eb=>e (hS.inj x hd b sz' sz (eb▸hx) hm);exact⟨bl',hl,hb'.mono (Gh.le.refl G) (HM.le.refl m) (fun _=>rfl) (setRow_other w b b' vs' hne)⟩
 ·intro x hx;rw[aQ,if_neg (fun e=>by subst e;rw[hm]at hx;cases hx)];exact hS.nil x hx
 ·intro b' o v hv;have hne:b'≠b:=fun e=>by subst e;rw[hno o]at hv;cases hv
  rw[cell_setRow_other w b vs' _ hne];exact hS.gh b' o v hv
 ·intro x hx;rw[aQ,if_neg (fun e=>by subst e;rw[hm]at hx;cases hx)];exact hS.dead x hx
section
variable{P:Program}{o:Oper}
theorem Hb{a:Operand}(ho:o.op=.store T a x)(hi:P.info? T=some i){T':TypeId}
  (ha:ρ a=.pointer (some ⟨b,off,none⟩)) (hsz:(ρ x).cells.size=i.size) (hone:∀u∈(ρ x).cells,u.oneCell'=true) (hb:w.heap[b]?=some (.cells vs T' (0,0))) (hle:off+i.size<=vs.size):
  (execOp ρ o).run P w=.ok .skip (w.setRow b (vs.toList.take off++(ρ x).cells.toList++vs.toList.drop (off+i.size)).toArray):=by have:=run_storeCells_at P b off T' (ρ x).cells.toList 0 vs w hb (by simpa[hsz]using hle) (fun v hv=>hone v (by simpa using hv));simp only[abt]at this;simp only[execOp,ho,Instr.storeAt,Instr.sureAddr,ha,storeVar,Sem.run_bind,Sem.run_pure,Result.andThen_ok,cO hi,hsz,ne_eq,not_true_eq_false,if_false,this];simp[hsz]
theorem Pe:∀{ys:List AV} {ds:List DV},AV.data ys=some ds->ds.length=ys.length
 |[],ds,h=>by unfold AV.data at h;cases h;rfl
 |y::ys,ds,h=>by
  cases y<;>unfold AV.data at h<;>first|cases h|skip
  simp only[ι]at h;obtain⟨ds',hds',rfl⟩:=h;simp[Pe hds']
theorem aV4{a:Operand}{xv:AV}{ix:Nat}{ys:List AV}{ds:List DV}(ho:o.op=.store T a x)(hi:P.info? T=some i)
  (hl:s.lk hd=some (.row true 1 es)) (hc:xv.cells?=some ys) (hds:AV.data ys=some ds) (hlen:ds.length=i.size) (hle:ix+i.size<=es.length)
  (hK:K (s.ba hd (some (.row true 1 (es.take ix++(ds.map fun d=>[d])++es.drop (ix+i.size)))))):∃hd' bl,K (s.ba hd' (some bl))/\(∃b0,s.lk hd'=some b0)/\
   ∀(G:Gh) (m:HM) (w:World) (ρ:Operand->Value),cf G m s.lk w->AV.aq G m (.eptr hd 1 ix 0) (ρ a)->AV.aq G m xv (ρ x)->
    ∃w',(execOp ρ o).run P w=.ok .skip w'/\cf G m (s.ba hd' (some bl)).lk w'/\Fr (Own m) (fun _=>False) G G w w':=by
 refine⟨_,_,hK,⟨_,hl⟩,fun G m w ρ hS ha hx=>?_⟩;unfold AV.aq at ha;obtain⟨_,loc,hloc,hp⟩:=ha;have hnd:loc≠.dead:=fun e=>by subst e;rw[hS.dead _ hloc]at hl;cases hl
 obtain⟨b,sz,rfl,hp'⟩:=hp hnd;rw[aaN,abt]at hp';obtain⟨bl,hl',hb⟩:=hS.fh _ _ _ hloc;rw[hl]at hl';cases hl';unfold bg at hb;obtain⟨vs,T',h1,h2,h3,h4,h5⟩:=hb;rw[aaN]at h3;obtain⟨hrx,hone⟩:=AV.fq hc hx;have hxl:=AV.cd hrx;have hdl:=Pe hds;have hxs:(ρ x).cells.size=i.size:=by rw[<-hlen,hdl,hxl];simp
 refine⟨_,Hb ho hi hp' hxs hone h1 (by omega),?_⟩;refine hS.write hloc h1 h5 (fun w' hw'=>?_);have htk:(es.take ix).length=ix:=by simp;omega
 unfold bg;refine⟨_,T',hw',?_,?_,?_,h5⟩
 ·simp[hxs];omega
 ·simp[hlen];omega
 ·let vs':List Value:=vs.toList.take ix++(ρ x).cells.toList++vs.toList.drop (ix+i.size);have ht:(vs.toList.take ix).length=ix:=by simp;omega
  have hsame:∀p,(p<ix\/ix+i.size<=p)->vs'[p]?=vs[p]?:=fun p hp=>by
   show(vs.toList.take ix++(ρ x).cells.toList++vs.toList.drop (ix+i.size))[p]?=_;rcases hp with hp|hp
   ·rw[π,aak (by omega),aaH hp,aaj]
   ·rw[aal (by simp[hxs];omega),abg];simp only[ε,ht,aby,hxs];rw[aaj];congr 1;omega
  have hnewc:∀p,p<i.size->vs'[ix+p]?=(ρ x).cells.toList[p]?:=fun p hp=>by show(vs.toList.take ix++(ρ x).cells.toList++vs.toList.drop (ix+i.size))[ix+p]?=_;rw[π,aal (by omega),ht,aaP,aak (by simp[hxs];exact hp)]
  show DV.rows G (fun o=>vs'.toArray[o]?) 1 0 _;have hfun:(fun(o:Nat)=>vs'.toArray[o]?)=fun(o:Nat)=>vs'[o]?:=by funext o;simp
  rw[hfun];refine DV.cu (DV.cu (DV.dc (fun p hp=>?_) (DV.en ix h4)) ?_) ?_
  ·rw[htk]at hp;rw[aan];exact hsame p (.inl (by omega))
  ·rw[htk,aan,aaN];exact G7 (AV.jd hrx hds _ _ (fun p hp=>by rw[hnewc p (by simpa[hxs]using hp)]))
  ·have hl2:(es.take ix++ds.map fun d=>[d]).length=ix+i.size:=by simp[hlen];omega
   rw[hl2,aan,aaN];have:=DV.ei (ix+i.size) h4;rw[aan,aaN]at this;exact DV.dc (fun p hp=>hsame _ (.inr (by omega))) this
theorem Pj{a:Operand}{aa xv:AV}(ho:o.op=.store T a x)(hi:P.info? T=some i)
  (h:pU s i.size xv K aa):∃hd bl,K (s.ba hd (some bl))/\(∃b0,s.lk hd=some b0)/\
   ∀(G:Gh) (m:HM) (w:World) (ρ:Operand->Value),cf G m s.lk w->AV.aq G m aa (ρ a)->AV.aq G m xv (ρ x)->
    ∃w',(execOp ρ o).run P w=.ok .skip w'/\cf G m (s.ba hd (some bl)).lk w'/\Fr (Own m) (fun _=>False) G G w w':=by
 unfold pU at h;split at h
 ·rename_i hd off;obtain⟨cs,ys,hl,hc,hlen,hle,hK⟩:=h;refine⟨_,_,hK,⟨_,hl⟩,fun G m w ρ hS ha hx=>?_⟩;unfold AV.aq at ha;obtain⟨_,loc,hloc,hp⟩:=ha;have hnd:loc≠.dead:=fun e=>by subst e;rw[hS.dead _ hloc]at hl;cases hl
  obtain⟨b,sz,rfl,hp'⟩:=hp hnd;obtain⟨bl,hl',hb⟩:=hS.fh _ _ _ hloc;rw[hl]at hl';cases hl';unfold bg at hb;obtain⟨vs,T',h1,h2,h3,h4⟩:=hb;obtain⟨hrx,hone⟩:=AV.fq hc hx;have hvl:=AV.cd h3;have hxl:=AV.cd hrx;have hxs:(ρ x).cells.size=i.size:=by rw[<-hlen,hxl];simp
  refine⟨_,Hb ho hi hp' hxs hone h1 (by simp at hvl;omega),?_⟩;refine hS.write hloc h1 h4 (fun w' hw'=>?_);unfold bg;refine⟨_,T',hw',?_,?_,h4⟩
  ·simp at hvl|-;omega
  ·show AV.bb G m _ (vs.toList.take off++(ρ x).cells.toList++vs.toList.drop (off+i.size));exact AV.cw (AV.cw (AV.eg off h3) hrx) (AV.gv _ h3)
 ·rename_i hd k ix off;rcases h with⟨_,es,e,ys,ds,hl,he,hc,hds,hlen,hle,hK⟩|⟨rfl,rfl,hs1,es,ys,ds,hl,hc,hds,hlen,hle,hK⟩
  rotate_left
  ·obtain⟨z1,z2,z3,z4,z5⟩:=aV4 ho hi hl hc hds hlen hle hK;exact⟨z1,z2,z3,z4,fun G m w ρ q1 q2 q3=>z5 G m w ρ q1 q2 q3⟩
  refine⟨_,_,hK,⟨_,hl⟩,fun G m w ρ hS ha hx=>?_⟩;unfold AV.aq at ha;obtain⟨_,loc,hloc,hp⟩:=ha;have hnd:loc≠.dead:=fun e=>by subst e;rw[hS.dead _ hloc]at hl;cases hl
  obtain⟨b,sz,rfl,hp'⟩:=hp hnd;obtain⟨bl,hl',hb⟩:=hS.fh _ _ _ hloc;rw[hl]at hl';cases hl';unfold bg at hb;obtain⟨vs,T',h1,h2,h3,h4,h5⟩:=hb;obtain⟨hrx,hone⟩:=AV.fq hc hx;have hxl:=AV.cd hrx;have hdl:ds.length=ys.length:=by
   clear hK hlen hle hrx hc hxl
   induction ys generalizing ds with
   |nil=>unfold AV.data at hds;cases hds;rfl
   |cons y ys ih=>
    cases y<;>unfold AV.data at hds<;>first|cases hds|skip
    simp only[ι]at hds;obtain⟨ds',hds',rfl⟩:=hds;simp[ih _ hds']
  have hxs:(ρ x).cells.size=i.size:=by rw[<-hlen,hdl,hxl];simp
  obtain⟨hek,hcell⟩:=DV.im h4 he;have hixlt:=(υ.1 he).1;have hix:(ix+1)*k<=es.length*k:=aaF _ hixlt;rw[aaW,Nat.one_mul]at hix;refine⟨_,Hb ho hi hp' hxs hone h1 (by omega),?_⟩;refine hS.write hloc h1 h5 (fun w' hw'=>?_);unfold bg;refine⟨_,T',hw',?_,by rw[List.length_set];exact h3,?_,h5⟩
  ·simp[hxs];omega
  ·
   let vs':List Value:=vs.toList.take (ix*k+off)++(ρ x).cells.toList++vs.toList.drop (ix*k+off+i.size);have hsame:∀p,(p<ix*k+off\/ix*k+off+i.size<=p)->vs'[p]?=vs[p]?:=fun p hp=>by
    show(vs.toList.take (ix*k+off)++(ρ x).cells.toList++vs.toList.drop (ix*k+off+i.size))[p]?=_;have ht:(vs.toList.take (ix*k+off)).length=ix*k+off:=by simp;omega
    rcases hp with hp|hp
    ·rw[π,aak (by omega),aaH hp,aaj]
    ·rw[aal (by simp[hxs];omega),abg];simp only[ε,ht,aby,hxs];rw[aaj];congr 1;omega
   have hnewc:∀p,p<i.size->vs'[ix*k+off+p]?=(ρ x).cells.toList[p]?:=fun p hp=>by
    show(vs.toList.take (ix*k+off)++(ρ x).cells.toList++vs.toList.drop (ix*k+off+i.size))[ix*k+off+p]?=_;have ht:(vs.toList.take (ix*k+off)).length=ix*k+off:=by simp;omega
    rw[π,aal (by omega),ht,aaP,aak (by simp[hxs];exact hp)]
   have hset:es.set ix (e.take off++ds++e.drop (off+i.size))=es.take ix++((e.take off++ds++e.drop (off+i.size))::es.drop (ix+1)):=List.set_eq_take_append_cons_drop .. |>.trans (by rw[if_pos hixlt]);show DV.rows G (fun o=>vs'.toArray[o]?) k 0 _;rw[hset];have hfun:(fun(o:Nat)=>vs'.toArray[o]?)=fun(o:Nat)=>vs'[o]?:=by funext o;simp
   rw[hfun];refine DV.cu (DV.dc (fun p hp=>?_) (DV.en ix h4)) ?_
   ·have:(es.take ix).length=ix:=by simp;omega
    rw[this]at hp;rw[aan];exact hsame p (.inl (by omega))
   ·have htl:(es.take ix).length=ix:=by simp;omega
    rw[htl,aan];unfold DV.rows;refine⟨by simp[hlen];omega,?_,?_⟩
    ·have hc1:=DV.jn off hcell;have hc2:=DV.gj (off+i.size) hcell;rw[aan]at hc1 hc2;refine DV.fy (DV.fy (DV.eu (fun p hp=>?_) hc1) ?_) (DV.eu (o:=ix*k+(off+i.size)) (fun p hp=>?_) hc2)
     ·exact hsame _ (.inl (by simp at hp;omega))
     ·have hto:(e.take off).length=off:=by simp;omega
      rw[hto];exact AV.jd hrx hds _ _ (fun p hp=>by rw[hnewc p (by simpa[hxs]using hp)])
     ·have hl2:(e.take off++ds).length=off+i.size:=by simp[hlen];omega
      rw[hl2];exact hsame _ (.inr (by omega))
    ·have:=DV.ei (ix+1) h4;rw[aan,aaW,Nat.one_mul]at this;exact DV.dc (fun p hp=>hsame _ (.inr (by omega))) this
 ·exact h.elim
theorem jW(h:∀i,s.nx<=i->s.own i=none){bl:Option bn}(hb0:∃b0,s.lk hd=some b0)(i:Nat)(hi:s.nx<=i):(s.ba hd bl).own i=none:=by
 cases hd with
 |B j=>exact h i hi
 |O j=>
  show gb s.own j bl i=none;unfold gb;by_cases e:i=j
  ·subst e;obtain⟨b0,hb0⟩:=hb0;have:s.own i=some b0:=hb0;rw[h i hi]at this;cases this
  ·rw[if_neg e];exact h i hi
end
def tp(G:Gh)(m:HM)(s:an)(dst:Option Nat)(s':an)(w:World)(v:Value)(w':World):Prop:=
 ∃G' m',cf G' m' s'.lk w'/\(∀d,dst=some d->AV.aq G' m' (s'.env d) v)/\Fr (Own m) (Own m) G G' w w'/\HM.le m m'/\
  (∀i,dw (m (.B i)) (m' (.B i)))/\
  (∀j,(j<s.nx\/s'.nx<=j)->dw (m (.O j)) (m' (.O j)))/\
  (∀h l b,m' h=some l->b∈l.ga->w.heap.size<=b\/Own m b)
structure nk (P:Program) (o:Oper) (xs:List Operand) (dst:Option Nat) (s s':an):Prop where
 env:∀t,dst≠some t->s'.env t=s.env t
 nx:s.nx<=s'.nx
 own:(∀i,s.nx<=i->s.own i=none)->∀i,s'.nx<=i->s'.own i=none
 run:∀(G:Gh) (m:HM) (w:World) (ρ:Operand->Value),(∀v,ρ (.const v)=v)->cf G m s.lk w->(∀x∈xs,AV.aq G m (s.ev x) (ρ x))->(∀j,s.nx<=j->j<s'.nx->m (.O j)=none)->
  bp P o ρ w (tp G m s dst s' w)
structure xh (P:Program) (o:Oper) (xs:List Operand) (dst:Option Nat) (s s':an) (X:HM->World->World->Prop):Prop where
 env:∀t,dst≠some t->s'.env t=s.env t
 nx:s.nx<=s'.nx
 own:(∀i,s.nx<=i->s.own i=none)->∀i,s'.nx<=i->s'.own i=none
 run:∀(G:Gh) (m:HM) (w:World) (ρ:Operand->Value),(∀v,ρ (.const v)=v)->cf G m s.lk w->(∀x∈xs,AV.aq G m (s.ev x) (ρ x))->(∀j,s.nx<=j->j<s'.nx->m (.O j)=none)->
  bp P o ρ w fun v w'=>tp G m s dst s' w v w'/\X m w w'
theorem xh.ok{s':an}{X:HM->World->World->Prop}(h:xh P o xs dst s s' X):nk P o xs dst s s':=
 ⟨h.env,h.nx,h.own,fun G m w ρ h1 h2 h3 h4=>(h.run G m w ρ h1 h2 h3 h4).mono fun _ _ h=>h.1⟩
def jj(m:HM)(h:Hd)(b:Nat):Prop:=∃l,m h=some l/\b∈l.ga
theorem jj.at_{m:HM}{h:Hd}{b sz:Nat}(hm:m h=some (.at_ b sz)):jj m h b:=⟨_,hm,aai.2 rfl⟩
theorem jj.own(q:jj m h b):Own m b:=let⟨l,q1,q2⟩:=q;⟨h,l,q1,q2⟩
def BB(h:Hd)(m:HM)(w w':World):Prop:=∀b,b<w.heap.size->¬jj m h b->w'.heap[b]?=w.heap[b]?
theorem Fr.at_(hF:Fr (jj m h) og G G' w w'):Fr (Own m) og G G' w w'/\BB h m w w':=⟨hF.mono (fun _ _ ⟨l,q1,q2⟩=>⟨h,l,q1,q2⟩) (fun _ _ q=>q),fun b hb ho=>hF.heap b hb ho⟩
theorem ir.fu{E:ez}{s':an}(h:ir E G m s a w)(hd:∀d,dst=some d->d<E.N)(hx:∀x∈xs,x.mg E.N=true)(hE:nk P o xs dst s s'):
  bp P o a.eval w fun v w'=>df E s' (a.put dst v) w':=by
 refine(hE.run G m w a.eval (fun _=>rfl) h.ew (fun x hm=>h.oc x (hx x hm)) (fun j hj _=>h.fresh j hj)).mono fun v w' hp=>?_;obtain⟨G',m',hS,hr,hF,hle,hB,hO,hnew⟩:=hp;have hk:gu w w':=hF.keep (fun b q=>h.ew.data q);refine⟨G',m',hS,fun t=>?_,by rw[uW];exact h.size,by rw[rA];exact h.defers.keep hk,by rw[hE.env _ (fun e=>Nat.lt_irrefl _ (hd _ e))];exact E.iy _ _ _ h.ki hk,fun i hi=>?_,h.frame.step hF (fun b hb q=>h.gq hb q) (fun b hb q=>h.gq hb q),fun i=>(h.base i).trans (hB i),fun x l b hi hl=>?_,h.qq,hE.own h.iv⟩
 ·rw[BN t h.size hd];by_cases e:dst=some t
  ·rw[if_pos e];exact hr t e
  ·rw[if_neg e,hE.env t e];exact AV.aq.mono hF.le hle _ _ (h.env t)
 ·exact(hO i (.inr hi)).none (h.fresh i (aaG hE.nx hi))
 ·rcases hnew x l b hi hl with h1|h1
  ·exact .inl (aaG h.frame.size h1)
  ·rcases Nat.lt_or_ge b E.w0.heap.size with h2|h2
   ·exact .inr (h.gq h2 h1)
   ·exact .inl h2
theorem cf.kill{lk:bJ}(hS:cf G m lk w)(h:Hd):cf G (aJ m h .dead) (fun x=>if x=h then none else lk x) w:=by
 have hle:HM.le m (aJ m h .dead):=fun x loc hx=>by
  unfold aJ;by_cases e:x=h
  ·rw[if_pos e];exact .inr rfl
  ·rw[if_neg e];exact .inl (.inl hx)
 have get:∀{x loc},aJ m h .dead x=some loc->loc≠.dead->x≠h/\m x=some loc:=fun{x loc} hx hl=>by
  unfold aJ at hx;split at hx
  ·cases hx;exact absurd rfl hl
  ·exact⟨‹_›,hx⟩
 refine⟨fun x b sz hx=>?_,fun x hx=>?_,fun x y l l' b hx hy hb hb'=>?_,hS.gh,fun x hx=>?_,hS.gl,fun x b sz fp hx=>?_⟩
 rotate_right
 ·obtain⟨e,hx⟩:=get hx (by simp);obtain⟨bl,h1,h2⟩:=hS.di x b sz fp hx;exact⟨bl,by rw[if_neg e];exact h1,h2.mono (Gh.le.refl G) hle (fun _ _ _=>rfl) (fun _ _=>rfl) (dz.refl _ _)⟩
 ·obtain⟨e,hx⟩:=get hx (by simp);obtain⟨bl,h1,h2⟩:=hS.fh x b sz hx;exact⟨bl,by rw[if_neg e];exact h1,h2.mono (Gh.le.refl G) hle (fun _=>rfl) rfl⟩
 ·obtain⟨e,hx⟩:=get hx (by simp);obtain⟨mt,k,h1⟩:=hS.nil x hx;exact⟨mt,k,by rw[if_neg e];exact h1⟩
 ·exact hS.da x y l l' b (get hx (fun e=>by subst e;cases hb)).2 (get hy (fun e=>by subst e;cases hb')).2 hb hb'
 ·by_cases e:x=h
  ·rw[if_pos e]
  ·rw[if_neg e];unfold aJ at hx;rw[if_neg e]at hx;exact hS.dead x hx
theorem cf.move{lk:bJ}(hS:cf G m lk w){h':Hd}(hn:m h'=none){loc:Loc}(hm:m h=some loc)(hd:loc≠.dead):
  cf G (aJ (aJ m h .dead) h' loc) (fun x=>if x=h' then lk h else if x=h then none else lk x) w/\HM.le m (aJ (aJ m h .dead) h' loc):=by
 have hne:h'≠h:=fun e=>by rw[e,hm]at hn;cases hn
 have hle:HM.le m (aJ (aJ m h .dead) h' loc):=fun x l hx=>by
  unfold aJ;by_cases e1:x=h'
  ·rw[e1,hn]at hx;cases hx
  ·rw[if_neg e1];by_cases e:x=h
   ·rw[if_pos e];exact .inr rfl
   ·rw[if_neg e];exact .inl (.inl hx)
 have get:∀{x l},aJ (aJ m h .dead) h' loc x=some l->l≠.dead->(x=h'/\m h=some l)\/(x≠h'/\x≠h/\m x=some l):=fun{x l} hx hl=>by
  unfold aJ at hx;split at hx
  ·cases hx;exact .inl ⟨‹_›,hm⟩
  ·split at hx
   ·cases hx;exact absurd rfl hl
   ·exact .inr ⟨‹_›,‹_›,hx⟩
 have hb':∀{bl b sz},bg G m bl b sz w->bg G (aJ (aJ m h .dead) h' loc) bl b sz w:=fun hb=>hb.mono (Gh.le.refl G) hle (fun _=>rfl) rfl;refine⟨⟨fun x b sz hx=>?_,fun x hx=>?_,fun x y l l' b hx hy hb hb2=>?_,hS.gh,fun x hx=>?_,hS.gl,fun x b sz fp hx=>?_⟩,hle⟩
 rotate_right
 ·have hbx:∀{bl b sz fp},c9 G m bl b sz fp w->c9 G (aJ (aJ m h .dead) h' loc) bl b sz fp w:=fun hb=>hb.mono (Gh.le.refl G) hle (fun _ _ _=>rfl) (fun _ _=>rfl) (dz.refl _ _);rcases get hx (by simp)with⟨e,h1⟩|⟨e1,e2,h1⟩
  ·obtain⟨bl,h2,h3⟩:=hS.di _ _ _ _ h1;exact⟨bl,by rw[if_pos e];exact h2,hbx h3⟩
  ·obtain⟨bl,h2,h3⟩:=hS.di _ _ _ _ h1;exact⟨bl,by rw[if_neg e1,if_neg e2];exact h2,hbx h3⟩
 ·rcases get hx (by simp)with⟨e,h1⟩|⟨e1,e2,h1⟩
  ·obtain⟨bl,h2,h3⟩:=hS.fh _ _ _ h1;exact⟨bl,by rw[if_pos e];exact h2,hb' h3⟩
  ·obtain⟨bl,h2,h3⟩:=hS.fh _ _ _ h1;exact⟨bl,by rw[if_neg e1,if_neg e2];exact h2,hb' h3⟩
 ·rcases get hx (by simp)with⟨e,h1⟩|⟨e1,e2,h1⟩
  ·obtain⟨mt,k,h2⟩:=hS.nil _ h1;exact⟨mt,k,by rw[if_pos e];exact h2⟩
  ·obtain⟨mt,k,h2⟩:=hS.nil _ h1;exact⟨mt,k,by rw[if_neg e1,if_neg e2];exact h2⟩
 ·rcases get hx (fun e=>by subst e;cases hb)with⟨e,h1⟩|⟨e1,e2,h1⟩<;>rcases get hy (fun e=>by subst e;cases hb2)with⟨f,h2⟩|⟨f1,f2,h2⟩
  ·rw[e,f]
  ·exact absurd (hS.da _ _ l l' b h1 h2 hb hb2).symm f2
  ·exact absurd (hS.da _ _ l l' b h1 h2 hb hb2) e2
  ·exact hS.da _ _ l l' b h1 h2 hb hb2
 ·unfold aJ at hx;split at hx
  ·cases hx;exact absurd rfl hd
  ·rename_i e1;rw[if_neg e1];split at hx
   ·rename_i e2;rw[if_pos e2]
   ·rename_i e2;rw[if_neg e2];exact hS.dead x hx
section
variable{P:Program}{o:Oper}
theorem aIs(ht:P.underlying t=some (.slice e))(hu:P.underlying u=some d)(hd:d=.string\/∃e',d=.slice e')(hi:P.info? e=some i)
 {x:Value} {m:Nat} {T':TypeId} (hlen:∀w1:World,(Builtin.lenOf x).run P w1=.ok m w1)
  (hnews:(Builtin.firstCells i.size m x).run P w=.ok news.toArray w) (hle:sLen+m<=sCap) (hb:w.heap[b]?=some (.cells vs T' (0,0))) (hsz:off+sLen*i.size+news.length<=vs.size) (hone:∀u∈news,u.oneCell'=true):
  (Builtin.append_ #[t,u] ty #[.slice (some ⟨b,off,none⟩) sLen sCap,x]).run P w=.ok (.slice (some ⟨b,off,none⟩) (sLen+m) sCap)
   (w.setRow b (vs.toList.take (off+sLen*i.size)++news++vs.toList.drop (off+sLen*i.size+news.length)).toArray):=by
 have hst:=run_storeCells_at P b (off+sLen*i.size) T' news 0 vs w hb (by simpa using hsz) hone;simp only[abt]at hst;rcases hd with rfl|⟨e',rfl⟩
 ·simp[Builtin.append_,sizeOf,typeInfo,run_underlying ht,run_underlying hu,hi,hlen,hle,hnews,Addr.add_lit,hst]
 ·simp[Builtin.append_,sizeOf,typeInfo,run_underlying ht,run_underlying hu,hi,hlen,hle,hnews,Addr.add_lit,hst]
theorem My{G:Gh}{f:Nat->Option Value}:∀{ds:List DV} {o:Nat},DV.cells G f o ds->ds.all DV.one=true->∀j v,j<ds.length->f (o+j)=some v->v.oneCell'=true
 |[],_,_,_,j,_,hj,_=>by simp at hj
 |d::ds,o,hc,h1,j,v,hj,hv=>by
  unfold DV.cells at hc;obtain⟨⟨u,hu,hr⟩,hc⟩:=hc;simp only[acQ,μ]at h1
  match j with
  |0=>
   rw[abt,hu]at hv;cases hv;cases d with
   |C x=>unfold DV.aq at hr;subst hr;exact h1.1
   |L es=>unfold DV.aq at hr;obtain⟨a,cap,rfl,_⟩:=hr;rfl
   |B _=>unfold DV.aq at hr;subst hr;rfl
   |I _ _=>unfold DV.aq at hr;subst hr;rfl
   |S _=>unfold DV.aq at hr;subst hr;rfl
  |j+1=>exact My hc h1.2 j v (by simpa using hj) (by rw[<-hv];congr 1;omega)
theorem GB{G:Gh}{f:Nat->Option Value}{k:Nat}:∀{es:List (List DV)} {o:Nat},DV.rows G f k o es->qn es=true->∀j v,j<es.length*k->f (o+j)=some v->v.oneCell'=true
 |[],_,_,_,j,_,hj,_=>by simp at hj
 |e::es,o,hr,h1,j,v,hj,hv=>by
  unfold DV.rows at hr;obtain⟨hk,hc,hr⟩:=hr;simp only[qn,acQ,μ]at h1;by_cases hlt:j<k
  ·exact My hc h1.1 j v (by omega) hv
  ·have:(e::es).length*k=k+es.length*k:=by simp[aaW];omega
   exact GB hr h1.2 (j-k) v (by omega) (by rw[<-hv];congr 1;omega)
theorem nk.wg{P:Program}{o:Oper}(h:PS P o ro s.lk s.nx s.ev fun a nbs fz=>K (s.put dst a nbs fz)):∃s',K s'/\nk P o ro.operands dst s s':=by
 obtain⟨a,nbs,fz,hK,_,hfz,hrun⟩:=h;have hn0:∀h loc j {m:HM},(∀j,s.nx<=j->j<s.nx+nbs.length->m (.O j)=none)->m h=some loc->j<nbs.length->h≠.O (s.nx+j):=fun h loc j m hn hm hj e=>by rw[e,hn _ (by omega) (by omega)]at hm;cases hm
 refine⟨_,hK,⟨fun t ht=>?_,abJ _ _,fun hown j hj=>qI hown j hj,fun G m w ρ hρ hS hev hn=>?_⟩⟩
 ·show dE s.env dst a t=_;cases dst with
  |none=>rfl
  |some dd=>simp only[dE,gb];rw[if_neg (fun q=>ht (by rw[q]))]
 ·have hn':∀j,s.nx<=j->j<s.nx+nbs.length->m (.O j)=none:=hn;refine(hrun G m w ρ hρ s.lk (kz.refl _ _ _) hS hev (fun j hj=>hn' _ (by omega) (by omega))).mono fun v w' hp=>?_;obtain⟨G',m',h1,h2,h3,h4,h5⟩:=hp;refine⟨G',m',by rw[jZ];exact h1,fun d hd=>?_,h3.mono (fun _ _ q=>q.elim) (fun _ _ q=>q),fun x loc hx=>.inl (.inl ?_),fun i=>.inl (h4 _ (fun j _ e=>by cases e)),fun j hj=>.inl (h4 _ (fun i hi e=>?_)),fun x l b hj hl=>?_⟩
  ·subst hd;show AV.aq G' m' (gb s.env d a d) v;unfold gb;rw[if_pos rfl];exact h2
  ·rw[h4 x (fun j hj=>hn0 x loc j hn' hx hj)];exact hx
  ·cases e;have:(s.put dst a nbs fz).nx=s.nx+nbs.length:=rfl;rw[this]at hj;omega
  ·by_cases hc:∃j,j<nbs.length/\x=.O (s.nx+j)
   ·obtain⟨j,hlt,rfl⟩:=hc;exact .inl (h5 j l b hlt hj hl)
   ·rw[h4 _ (fun i hi e=>hc ⟨i,hi,e⟩)]at hj;exact .inr ⟨_,l,hj,hl⟩
theorem cf.rn(hS:cf G m s.lk w)(hn:m (.O s.nx)=none)(d:Option Nat)(a:AV)(k:Nat):cf G (aJ m (.O s.nx) .none) (s.put d a [.row true k []] []).lk w:=by
 have hlk:∀x,(s.put d a [.row true k []] []).lk x=if x=.O s.nx then some (.row true k [])else s.lk x:=fun x=>by
  rw[jZ,eD];unfold ij;cases x with
  |B j=>simp
  |O j=>
   by_cases e:j=s.nx
   ·subst e;simp
   ·have e1:¬(s.nx<=j/\j<s.nx+[bn.row true k []].length):=by simp;omega
    simp only[e1,if_false,Hd.O.injEq,e]
 have hle:HM.le m (aJ m (.O s.nx) .none):=fun x loc hx=>by
  unfold aJ;by_cases e:x=.O s.nx
  ·rw[e,hn]at hx;cases hx
  ·rw[if_neg e];exact .inl (.inl hx)
 have get:∀{x loc},aJ m (.O s.nx) .none x=some loc->(x=.O s.nx/\loc=.none)\/(x≠.O s.nx/\m x=some loc):=fun{x loc} hx=>by
  unfold aJ at hx;split at hx
  ·cases hx;exact .inl ⟨‹_›,rfl⟩
  ·exact .inr ⟨‹_›,hx⟩
 refine⟨fun x b sz hx=>?_,fun x hx=>?_,fun x y l l' b hx hy hb hb'=>?_,hS.gh,fun x hx=>?_,hS.gl,fun x b sz fp hx=>?_⟩
 rotate_right
 ·rcases get hx with⟨_,h⟩|⟨e,h⟩
  ·cases h
  ·obtain⟨bl,h1,h2⟩:=hS.di x b sz fp h;exact⟨bl,by rw[hlk,if_neg e];exact h1,h2.mono (Gh.le.refl G) hle (fun _ _ _=>rfl) (fun _ _=>rfl) (dz.refl _ _)⟩
 ·rcases get hx with⟨_,h⟩|⟨e,h⟩
  ·cases h
  ·obtain⟨bl,h1,h2⟩:=hS.fh x b sz h;exact⟨bl,by rw[hlk,if_neg e];exact h1,h2.mono (Gh.le.refl G) hle (fun _=>rfl) rfl⟩
 ·rcases get hx with⟨e,_⟩|⟨e,h⟩
  ·exact⟨true,k,by rw[hlk,if_pos e]⟩
  ·obtain⟨mt,k',h1⟩:=hS.nil x h;exact⟨mt,k',by rw[hlk,if_neg e];exact h1⟩
 ·rcases get hx with⟨_,rfl⟩|⟨_,h⟩
  ·cases hb
  ·rcases get hy with⟨_,rfl⟩|⟨_,h'⟩
   ·cases hb'
   ·exact hS.da x y _ _ b h h' hb hb'
 ·rcases get hx with⟨_,h⟩|⟨e,h⟩
  ·cases h
  ·rw[hlk,if_neg e];exact hS.dead x h
def an.xg(s:an)(t k:Nat):an:=s.put (some t) (.sl (.O s.nx) k 0 0) [.row true k []] []
theorem cf.xu(hS:cf G m s.lk w)(hm:m hd=some (.at_ b sz)){ws:Array Value}(hb:w.heap[b]?=some (.cells ws T (0,0))){mt:Bool}(hrep:bg G m (.row mt k es) b sz w)(hl:s.lk hd=some (.row mt k es))
 (hn:news.length=ys.length*k) (hlen:es.length*k+ys.length*k<=sz) (hrows:∀(G2:Gh) (f:Nat->Option Value) (o:Nat),Gh.le G G2->(∀j,j<news.length->f (o+j)=news[j]?)->DV.rows G2 f k o ys):
  ∃G1,cf G1 m (s.ba hd (some (.row mt k (es++ys)))).lk (w.setRow b (ws.toList.take (0+es.length*k)++news++ws.toList.drop (0+es.length*k+news.length)).toArray)/\Fr (jj m hd) (Own m) G G1 w (w.setRow b (ws.toList.take (0+es.length*k)++news++ws.toList.drop (0+es.length*k+news.length)).toArray):=by
 obtain⟨h1,h2,h3⟩:w.heap[b]?=some (.cells ws T (0,0))/\ws.size=sz/\es.length*k<=sz:=by cases mt<;>(unfold bg at hrep;obtain⟨vs,T',q1,q2,q3,_⟩:=hrep;rw[hb]at q1;cases q1;exact⟨hb,q2,q3⟩)
 simp only[aan];have htl:(ws.toList.take (es.length*k)).length=es.length*k:=by simp;omega
 have hold:∀p,p<es.length*k->(ws.toList.take (es.length*k)++news++ws.toList.drop (es.length*k+news.length)).toArray[p]?=ws[p]?:=fun p hp=>by rw[abV,π,aak (by omega),aaH hp,aaj]
 have hnew:∀p,p<news.length->(ws.toList.take (es.length*k)++news++ws.toList.drop (es.length*k+news.length)).toArray[es.length*k+p]?=news[p]?:=fun p hp=>by rw[abV,π,aal (by omega),aak (by omega)];congr 1;omega
 have hsz:(ws.toList.take (es.length*k)++news++ws.toList.drop (es.length*k+news.length)).toArray.size=sz:=by simp;omega
 generalize(ws.toList.take (es.length*k)++news++ws.toList.drop (es.length*k+news.length)).toArray=vs' at*;cases mt with
 |true=>
  unfold bg at hrep;obtain⟨vs,T',q1,q2,q3,q4,q5⟩:=hrep;rw[hb]at q1;cases q1;obtain⟨r1,r2⟩:=hS.write hm hb q5 (vs':=vs') (bl:=.row true k (es++ys)) (fun w' hw'=>by
   unfold bg;refine⟨_,T,hw',hsz,by rw[ε,aaW];exact hlen,?_,q5⟩;refine DV.cu (DV.dc (fun p hp=>?_) q4) (hrows G _ _ (Gh.le.refl G) (fun p hp=>?_))
   ·rw[aan];exact hold p hp
   ·rw[aan];exact hnew p hp)
  exact⟨G,r1,Fr.setRow (jj.at_ hm) _⟩
 |false=>
  unfold bg at hrep;obtain⟨vs,T',q1,q2,q3,q4,q5⟩:=hrep;rw[hb]at q1;cases q1;let G':Gh:=fun c o=>if c=b/\es.length*k<=o/\o<es.length*k+ys.length*k then vs'[o]?else G c o
  have hle:Gh.le G G':=fun c o v hv=>by
   show(if c=b/\es.length*k<=o/\o<es.length*k+ys.length*k then vs'[o]?else G c o)=some v;split
   ·rename_i hc;rw[hc.1,q5 o hc.2.1]at hv;cases hv
   ·exact hv
  have hother:∀c,c≠b->∀o,G' c o=G c o:=fun c hne o=>by show(if c=b/\_ then vs'[o]?else G c o)=_;rw[if_neg (fun hc=>hne hc.1)]
  have hsame:∀o,o<es.length*k->G' b o=G b o:=fun o ho=>by show(if b=b/\es.length*k<=o/\o<es.length*k+ys.length*k then vs'[o]?else G b o)=_;rw[if_neg (fun hc=>by omega)]
  have hnewG:∀p,p<ys.length*k->G' b (es.length*k+p)=vs'[es.length*k+p]?:=fun p hp=>by show(if b=b/\es.length*k<=es.length*k+p/\es.length*k+p<es.length*k+ys.length*k then vs'[es.length*k+p]?else G b _)=_;rw[if_pos ⟨rfl,by omega,by omega⟩]
  have hheap:=setRow_heap w b ws vs' T (0,0) hb;have hki:dz m w (w.setRow b vs'):=fun _ b' _ _ _ _ _ _ _ hb'=>setRow_other w b b' vs' (fun e=>by rw[e,hb]at hb';cases hb');refine⟨G',⟨fun x b' sz' hx=>?_,fun x hx=>?_,hS.da,fun b' o v hv=>?_,fun x hx=>?_,hS.gl.mono hle,fun x b' sz' fp hx=>?_⟩,⟨rfl,.same rfl rfl,rfl,by simp,fun c _ hc=>setRow_other w b c vs' (fun e=>hc (e▸.at_ hm)),fun c _ hc o=>hother c (fun e=>hc (e▸.at_ hm)) o,hle⟩⟩
  ·rw[aQ];by_cases e:x=hd
   ·subst e;rw[if_pos rfl];have:Loc.at_ b' sz'=Loc.at_ b sz:=by rw[hm]at hx;exact(Option.some.inj hx).symm
    cases this;refine⟨_,rfl,?_⟩;unfold bg;refine⟨_,T,hheap,hsz,by rw[ε,aaW];exact hlen,?_,fun o ho=>?_⟩
    ·refine DV.cu (DV.dc (fun p hp=>?_) (DV.rows.mono hle (fun _ _ h=>h) _ _ _ q4)) (hrows G' _ _ hle (fun p hp=>?_))
     ·rw[aan];exact hsame p hp
     ·rw[aan,hnewG p (by omega)];exact hnew p hp
    ·rw[ε,aaW]at ho;show(if b=b/\es.length*k<=o/\o<es.length*k+ys.length*k then vs'[o]?else G b o)=none;rw[if_neg (fun hc=>by omega)];exact q5 o (by omega)
   ·rw[if_neg e];obtain⟨bl',hl',hb'⟩:=hS.fh x b' sz' hx;have hne:b'≠b:=fun eb=>e (hS.inj x hd b sz' sz (eb▸hx) hm);exact⟨bl',hl',hb'.mono hle (HM.le.refl m) (hother b' hne) (setRow_other w b b' vs' hne)⟩
  ·rw[aQ,if_neg (fun e=>by subst e;rw[hm]at hx;cases hx)];exact hS.nil x hx
  ·by_cases hc:b'=b
   ·subst hc;rw[qS hheap];by_cases h4:es.length*k<=o/\o<es.length*k+ys.length*k
    ·have:G' b' o=vs'[o]?:=by show(if b'=b'/\es.length*k<=o/\o<es.length*k+ys.length*k then vs'[o]?else G b' o)=_;rw[if_pos ⟨rfl,h4⟩]
     rw[<-this];exact hv
    ·have:G' b' o=G b' o:=by show(if b'=b'/\es.length*k<=o/\o<es.length*k+ys.length*k then vs'[o]?else G b' o)=_;rw[if_neg (fun hc=>h4 hc.2)]
     rw[this]at hv;have hlt:o<es.length*k:=Nat.lt_of_not_le fun h=>by rw[q5 o h]at hv;cases hv
     have:=hS.gh b' o v hv;rw[qS hb]at this;rw[hold o hlt];exact this
   ·rw[hother b' hc]at hv;rw[cell_setRow_other w b vs' _ hc];exact hS.gh b' o v hv
  ·rw[aQ,if_neg (fun e=>by subst e;rw[hm]at hx;cases hx)];exact hS.dead x hx
  ·have e:x≠hd:=fun e=>by subst e;rw[hm]at hx;cases hx
   obtain⟨bl',hl',hb'⟩:=hS.di x b' sz' fp hx;have hne:∀c∈b'::fp,c≠b:=fun c hc eb=>e (hS.da x hd _ _ c hx hm hc (aai.2 eb));rw[aQ,if_neg e];exact⟨bl',hl',hb'.mono hle (HM.le.refl m) (fun c hc=>hother c (hne c hc)) (fun c hc=>setRow_other w b c vs' (hne c hc)) hki⟩
theorem RD{hd':Hd}{k' len:Nat}(hx:s.ev x=.sl hd' k' off len)(ho:o.op=.call c)(hc:c.callee=.builtin .append)(ha:c.args.toList=[x,y])(hta:c.argTypes.toList=[t,u])
  (ht:P.underlying t=some (.slice e)) (hu:P.underlying u=some d) (hd:d=.string\/∃e',d=.slice e') (hi:P.info? e=some i) (hz:i.zero.any (fun z=>z.cells.size==i.size)=true) (hbytes:0<i.bytes)
  (h:sY s i.size i.bytes y dst K (.sl hd' k' off len)):∃s',K s'/\xh P o [x,y] dst s s' (BB hd'):=by
 obtain⟨z,hz,hz'⟩:=(adv _ _).1 hz;have hz':z.cells.size=i.size:=by simpa using hz'
 have ha':c.args=#[x,y]:=by rw[<-aaL (xs:=c.args),ha]
 have ht':c.argTypes=#[t,u]:=by rw[<-aaL (xs:=c.argTypes),hta]
 have hexec:∀(ρ:Operand->Value) (v:Value) (w w':World),(Builtin.append_ #[t,u] o.type #[ρ x,ρ y]).run P w=.ok v w'->(execOp ρ o).run P w=.ok (.value v) w':=fun ρ v w w' h=>by simp only[execOp,ho,resolve,hc,ha',ht',invoke,builtin,Sem.run_bind,Sem.run_pure,Result.andThen_ok];simp[h]
 unfold sY at h;obtain⟨rfl,rfl,mt,es,ys,hl,rfl,hy,hu1,hu2,hone,hb,hK⟩:=h;have hlk:∀(a:AV) (bl:bn) (xx:Hd),(((s.ba hd' none).put dst a [bl] []).lk xx)=if xx=.O s.nx then some bl else if xx=hd' then none else s.lk xx:=fun a bl xx=>by
  rw[jZ,eD,cC];unfold ij;cases xx with
  |B j=>simp[aQ]
  |O j=>
   by_cases e:j=s.nx
   ·subst e;simp
   ·have e1:¬(s.nx<=j/\j<s.nx+[bl].length):=by simp;omega
    simp only[e1,if_false,aQ,Hd.O.injEq,e]
 refine⟨_,hK,⟨fun tt htt=>?_,by show s.nx<=(s.ba hd' none).nx+1;rw[cC];omega,fun hown j hj=>?_,fun G m w ρ hρ hS hev hn=>?_⟩⟩
 ·show dE (s.ba hd' none).env dst _ tt=_;rw[eO];cases dst with
  |none=>rfl
  |some dd=>simp only[dE,gb];rw[if_neg (fun q=>htt (by rw[q]))]
 ·exact qI (fun j hj=>jW hown ⟨_,hl⟩ j (by rw[cC]at hj;exact hj)) j hj
 ·have hn0:m (.O s.nx)=none:=hn s.nx (me _) (by show s.nx<(s.ba hd' none).nx+1;rw[cC];omega);have hrx:=hev x (by simp);rw[hx]at hrx;have hry:=hev y (by simp);unfold AV.aq at hrx;obtain⟨_,loc,hloc,hsl⟩:=hrx;have hnd:loc≠.dead:=fun e=>by subst e;rw[hS.dead _ hloc]at hl;cases hl
  obtain⟨c1,vs,c2,c3,c4⟩:=fE (P:=P) (lk:=s.lk) hS (fun _ mt _ _ h=>⟨mt,h⟩) hry hy hu2;have honev:∀v∈vs,v.oneCell'=true:=fun v hv=>by obtain⟨j,hj⟩:=aaK hv;have hjl:=(υ.1 hj).1;exact GB (c4 G (fun j=>vs[j]?) 0 (Gh.le.refl G) (fun _ _=>by simp)) hone j v (by omega) (by simpa using hj)
  have hkill:=hS.kill hd';have hdv:∀{G':Gh} {m':HM} {v:Value},AV.aq G' m' (.sl (.O s.nx) i.size 0 (es.length+ys.length)) v->∀dd,dst=some dd->AV.aq G' m' (((s.ba hd' none).put dst (.sl (.O s.nx) i.size 0 (es.length+ys.length)) [.row mt i.size (es++ys)] []).env dd) v:=fun{G' m' v} h dd hdd=>by show AV.aq G' m' (dE _ dst _ dd) v;rw[hdd];simp only[dE,gb,if_true];exact h
  have fin:∀{G':Gh} {m':HM} {v:Value} {w':World},cf G' m' ((s.ba hd' none).put dst (.sl (.O s.nx) i.size 0 (es.length+ys.length)) [.row mt i.size (es++ys)] []).lk w'->
    AV.aq G' m' (.sl (.O s.nx) i.size 0 (es.length+ys.length)) v->Fr (jj m hd') (Own m) G G' w w'->(∀xx,xx≠.O s.nx->m' xx=aJ m hd' .dead xx)->(∀l b,m' (.O s.nx)=some l->b∈l.ga->w.heap.size<=b\/Own m b)->
    tp G m s dst ((s.ba hd' none).put dst (.sl (.O s.nx) i.size 0 (es.length+ys.length)) [.row mt i.size (es++ys)] []) w v w'/\BB hd' m w w':=fun{G' m' v w'} hS' hr' hF0 hold hnew=>by
   obtain⟨hF',hX⟩:=hF0.at_;have hcase:∀xx,xx≠.O s.nx->dw (m xx) (m' xx):=fun xx hxx=>by
    rw[hold xx hxx];unfold aJ;by_cases e2:xx=hd'
    ·rw[if_pos e2];exact .inr (.inl ⟨by rw[e2,hloc];simp,rfl⟩)
    ·rw[if_neg e2];exact .inl rfl
   refine⟨⟨G',m',hS',hdv hr',hF',fun xx l hxx=>?_,fun j=>hcase _ (by intro e;cases e),fun j hj=>hcase _ (fun e=>?_),fun x l b hj hl=>?_⟩,hX⟩
   ·have hne:xx≠.O s.nx:=fun e=>by rw[e,hn0]at hxx;cases hxx
    exact(hcase xx hne).le hxx
   ·cases e;rcases hj with h|h
    ·omega
    ·have:(s.ba hd' none).nx+1<=s.nx:=h;rw[cC]at this;omega
   ·by_cases e:x=.O s.nx
    ·subst e;exact hnew l b hj hl
    ·rw[hold x e]at hj;unfold aJ at hj;split at hj
     ·cases hj;cases hl
     ·exact .inr ⟨_,l,hj,hl⟩
  have hnhd:Hd.O s.nx≠hd':=fun e=>by rw[<-e,hn0]at hloc;cases hloc
  have grow:∀(a:Option Addr) (cap:Nat) (olds:List Value),ρ x=.slice a es.length cap->olds.length=es.length*i.size->(Builtin.firstCells i.size es.length (ρ x)).run P w.drew=.ok olds.toArray w.drew->
    (∀(f:Nat->Option Value),(∀j,j<olds.length->f (0+j)=olds[j]?)->DV.rows G f i.size 0 es)->cap<es.length+ys.length->bp P o ρ w (fun v w'=>tp G m s dst ((s.ba hd' none).put dst (.sl (.O s.nx) i.size 0 (es.length+ys.length)) [.row mt i.size (es++ys)] []) w v w'/\BB hd' m w w'):=fun a cap olds hv ho2 ho3 ho4 hlt=>by
   have hfits:es.length+ys.length<=9223372036854775807:=by have:=acV (es.length+ys.length) hbytes;omega
   rw[hv]at ho3;obtain⟨rest,hrun,hrest⟩:=vJ (ty:=o.type) ht hu hd hi hz rfl c1 ho3 (c3 w.drew rfl) hlt hb (by omega);rw[<-hv]at hrun;refine bp.val (hexec ρ _ w _ hrun) ?_;have hge:=grownCap_ge w (es.length+ys.length) cap e;have hsz:(olds.toArray++vs.toArray++rest).size=grownCap w (es.length+ys.length) cap e*i.size:=by simp only[Array.size_append,acy,ho2,c2,hrest,hz'];rw[<-aaW,<-aaW];congr 1;omega
   have hbl:∀m':HM,bg G m' (.row true i.size (es++ys)) w.heap.size (olds.toArray++vs.toArray++rest).size (w.drew.alloc (.cells (olds.toArray++vs.toArray++rest) e)):=fun m'=>by
    unfold bg;refine⟨_,e,heap_alloc_new _ _,rfl,?_,?_,fun o=>vW hS (me _) o⟩
    ·rw[hsz,ε];exact aaF _ hge
    ·refine DV.cu (ho4 _ (fun j hj=>?_)) (c4 G _ _ (Gh.le.refl G) (fun j hj=>?_))
     ·rw[aan,<-aaj];simp only[abj];rw[π,aak (by simpa using hj)]
     ·rw[<-aaj];simp only[abj];rw[π,aal (by simp[ho2]),aak (by simp[ho2];omega)];congr 1;simp[ho2]
   obtain⟨G',m',h1,h2,h3,h4,h5⟩:=bj.new (a:=.sl (.O s.nx) i.size 0 (es.length+ys.length)) (v:=.slice (some ⟨w.heap.size,0,none⟩) (es.length+ys.length) (grownCap w (es.length+ys.length) cap e)) (hkill.drew) (n:=s.nx) (by unfold aJ;rw[if_neg hnhd];exact hn0) (.row true i.size (es++ys)) (olds.toArray++vs.toArray++rest) e (fun m' _=>hbl m') (fun m' _ hmn=>by
    unfold AV.aq;refine⟨rfl,_,hmn,fun _=>.inr ⟨_,_,grownCap w (es.length+ys.length) cap e,rfl,?_,hge,?_⟩⟩
    ·simp
    ·rw[hsz];simp)
   have hb5:∀b,b<w.heap.size->∀sz,m' (.O s.nx)≠some (.at_ b sz):=fun b hb sz e=>by have:=h5 0 _ b (by simp) e (aai.2 rfl);have:w.drew.heap.size=w.heap.size:=rfl;omega
   have hlk1:ij (fo (fun x=>if x=hd' then none else s.lk x) []) s.nx [bn.row true i.size (es++ys)]=fun xx=>if xx=.O s.nx then some (.row true i.size (es++ys))else if xx=hd' then none else s.lk xx:=by
    funext xx;rw[eD];unfold ij;cases xx with
    |B j=>simp
    |O j=>
     by_cases e:j=s.nx
     ·subst e;simp
     ·have e1:¬(s.nx<=j/\j<s.nx+[bn.row true i.size (es++ys)].length):=by simp;omega
      simp only[e1,if_false,Hd.O.injEq,e]
   rw[hlk1]at h1;obtain⟨G2,g1,g2,g3⟩:∃G2,cf G2 m' (fun xx=>if xx=.O s.nx then some (.row mt i.size (es++ys))else if xx=hd' then none else s.lk xx) (w.drew.alloc (.cells (olds.toArray++vs.toArray++rest) e))/\Gh.le G' G2/\∀b,b<w.heap.size->∀o,G2 b o=G' b o:=by
    cases mt with
    |true=>exact⟨G',h1,Gh.le.refl _,fun _ _ _=>rfl⟩
    |false=>
     obtain⟨G2,g1,g2,g3⟩:=h1.l9 (.O s.nx);refine⟨G2,?_,g2,fun b hb o=>g3 b (hb5 b hb) o⟩;have:(fun xx=>if xx=.O s.nx then some (bn.row false i.size (es++ys))else if xx=hd' then none else s.lk xx)=fun x=>if x=.O s.nx then((if x=.O s.nx then some (bn.row true i.size (es++ys))else if x=hd' then none else s.lk x).map bn.jo)else(if x=.O s.nx then some (bn.row true i.size (es++ys))else if x=hd' then none else s.lk x):=by
      funext xx;by_cases e:xx=.O s.nx
      ·simp only[e,if_true,aaZ,bn.jo]
      ·simp only[e,if_false]
     rw[this];exact g1
   refine fin ?_ (AV.aq.mono g2 (HM.le.refl _) _ _ h2) ⟨h3.os,⟨h3.tape.1,aaG (Nat.le_succ _) h3.tape.2⟩,h3.output,h3.size,fun b hb hq=>h3.heap b hb (fun q=>q),fun b hb hq o=>(g3 b hb o).trans (h3.gh b hb (fun⟨y',l,q,ql⟩=>hq ?_) o),h3.le.trans g2⟩ (fun xx hxx=>h4 xx (fun j hj e=>by
    have:j=0:=by simpa using hj
    subst this;exact hxx e)) (fun l b hq hl=>.inl (h5 0 l b (by simp) hq hl))
   ·have:((s.ba hd' none).put dst (.sl (.O s.nx) i.size 0 (es.length+ys.length)) [.row mt i.size (es++ys)] []).lk=fun xx=>if xx=.O s.nx then some (.row mt i.size (es++ys))else if xx=hd' then none else s.lk xx:=by funext xx;exact hlk _ _ _
    rw[this];exact g1
   ·unfold aJ at q;split at q
    ·cases q;cases ql
    ·exact⟨y',l,q,ql⟩
  have moved:∀{G1:Gh} {w':World} {v:Value},cf G1 m (s.ba hd' (some (.row mt i.size (es++ys)))).lk w'->Ce loc i.size 0 (es.length+ys.length) v->Fr (jj m hd') (Own m) G G1 w w'->
    tp G m s dst ((s.ba hd' none).put dst (.sl (.O s.nx) i.size 0 (es.length+ys.length)) [.row mt i.size (es++ys)] []) w v w'/\BB hd' m w w':=fun{G1 w' v} hS1 hsl1 hF1=>by
   obtain⟨hS2,_⟩:=hS1.move hn0 hloc hnd;refine fin (m':=aJ (aJ m hd' .dead) (.O s.nx) loc) ?_ ?_ hF1 (fun xx hxx=>by
    show(if xx=.O s.nx then _ else _)=_;rw[if_neg hxx]) (fun l b hq hl=>?_)
   ·have:((s.ba hd' none).put dst (.sl (.O s.nx) i.size 0 (es.length+ys.length)) [.row mt i.size (es++ys)] []).lk=fun xx=>if xx=.O s.nx then(s.ba hd' (some (.row mt i.size (es++ys)))).lk hd' else if xx=hd' then none else(s.ba hd' (some (.row mt i.size (es++ys)))).lk xx:=by funext xx;rw[hlk,aQ,aQ,if_pos rfl];by_cases e:xx=hd'<;>simp[e]
    rw[this];exact hS2
   ·unfold AV.aq;refine⟨?_,loc,by unfold aJ;rw[if_pos rfl],fun _=>hsl1⟩;rcases hsl1 with⟨a,rfl,_⟩|⟨b,sz,cap,_,rfl,_⟩<;>rfl
   ·unfold aJ at hq;rw[if_pos rfl]at hq;cases hq;exact .inr ⟨_,_,hloc,hl⟩
  have hsame:ys=[]->cf G m (s.ba hd' (some (.row mt i.size (es++ys)))).lk w:=fun hys=>by
   refine hS.congr (fun xx _=>?_);rw[aQ];by_cases e:xx=hd'
   ·rw[if_pos e,e,hl,hys,aag]
   ·rw[if_neg e]
  obtain⟨o1,os,o2,o3,o4⟩:=fE (P:=P) (lk:=s.lk) (y:=.sl hd' i.size 0 es.length) (v:=ρ x) hS (fun _ mt _ _ h=>⟨mt,h⟩) (by unfold AV.aq;exact⟨‹_›,loc,hloc,hsl⟩) (by unfold AV.content;simp[hl]) hu1;rcases hsl hnd with⟨a,hv,h0⟩|⟨b,sz,cap,rfl,hv,hcap,hsz⟩
  ·by_cases hys:ys=[]
   ·have hvs:vs=[]:=by rw[hys]at c2;simpa using c2
    refine bp.val (hexec ρ (ρ x) w w ?_) (moved (hsame hys) ?_ (Fr.refl _ _ _ _))
    ·rw[hv];refine pQ ht hu hd hi (by rw[hys]at c1;simpa using c1) ?_ (me _);have:=c3 w rfl;rw[hys,hvs]at this;simpa using this
    ·exact .inl ⟨a,hv,by rw[h0,hys];rfl⟩
   ·have hpos:0<ys.length:=adl.2 hys;exact grow a 0 os (by rw[hv,h0]) o2 (o3 w.drew rfl) (fun f hf=>o4 G f 0 (Gh.le.refl G) hf) (by omega)
  ·by_cases hroom:es.length+ys.length<=cap
   ·obtain⟨bl,hl',hb'⟩:=hS.fh _ _ _ hloc;rw[hl]at hl';cases hl';obtain⟨ws,T',g1,g2,g3⟩:∃ws T',w.heap[b]?=some (.cells ws T' (0,0))/\ws.size=sz/\es.length*i.size<=sz:=by cases mt<;>(unfold bg at hb';obtain⟨ws,T',g1,g2,g3,_⟩:=hb';exact⟨ws,T',g1,g2,g3⟩)
    have hv':ρ x=.slice (some ⟨b,0,none⟩) es.length cap:=by rw[hv];simp
    have hlens:0+es.length*i.size+vs.length<=ws.size:=by rw[c2,g2,aan,<-aaW];exact aaG (aaF _ hroom) (by simpa using hsz)
    have hrun:=aIs (P:=P) (ty:=o.type) ht hu hd hi c1 (c3 w rfl) hroom g1 hlens honev;rw[<-hv']at hrun;obtain⟨G1,hw1,hw2⟩:=hS.xu hloc g1 hb' hl (news:=vs) c2 (by rw[<-g2,<-c2];omega) (fun G2 f o h1 h2=>c4 G2 f o h1 h2);exact bp.val (hexec ρ _ w _ hrun) (moved (by simpa using hw1) (.inr ⟨b,sz,cap,rfl,by simp,hroom,by simpa using hsz⟩) (by simpa using hw2))
   ·exact grow _ cap os hv o2 (o3 w.drew rfl) (fun f hf=>o4 G f 0 (Gh.le.refl G) hf) (by omega)
theorem ZB(ho:o.op=.call c)(hc:c.callee=.builtin .append)(ha:c.args.toList=[x,y])(hta:c.argTypes.toList=[t,u])
  (ht:P.underlying t=some (.slice e)) (hu:P.underlying u=some d) (hd:d=.string\/∃e',d=.slice e') (hi:P.info? e=some i) (hz:i.zero.any (fun z=>z.cells.size==i.size)=true) (hbytes:0<i.bytes)
  (h:sY s i.size i.bytes y dst K (s.ev x)):∃s',K s'/\nk P o [x,y] dst s s':=by
 obtain⟨z,hz,hz'⟩:=(adv _ _).1 hz;have hz':z.cells.size=i.size:=by simpa using hz'
 have ha':c.args=#[x,y]:=by rw[<-aaL (xs:=c.args),ha]
 have ht':c.argTypes=#[t,u]:=by rw[<-aaL (xs:=c.argTypes),hta]
 have hexec:∀(ρ:Operand->Value) (v:Value) (w w':World),(Builtin.append_ #[t,u] o.type #[ρ x,ρ y]).run P w=.ok v w'->(execOp ρ o).run P w=.ok (.value v) w':=fun ρ v w w' h=>by simp only[execOp,ho,resolve,hc,ha',ht',invoke,builtin,Sem.run_bind,Sem.run_pure,Result.andThen_ok];simp[h]
 generalize hx:s.ev x=ax at h;unfold sY at h;split at h
 case h_4=>exact h.elim
 case h_2=>
  obtain⟨hsome,ys,e2,h1,h3,h4⟩:=h;obtain⟨dd,rfl⟩:=aa5.1 hsome;refine⟨_,h4,?_⟩;obtain⟨s1,hK1,hE⟩:=nk.wg (dst:=some dd) (K:=fun s1=>s1=s.put (some dd) (.sl (.O s.nx) i.size 0 ys.length) [.row true i.size ys] (ja s.lk (AV.rows (s.ev y)))) (ro:=.app i.size i.bytes x y) (Hn ho hc ha hta ht hu hd hi (by rw[hz];simpa using hz') hbytes (K:=fun a nbs fz=>s.put (some dd) a nbs fz=s.put (some dd) (.sl (.O s.nx) i.size 0 ys.length) [.row true i.size ys] (ja s.lk (AV.rows (s.ev y)))) ⟨[],hx,ys,e2,by simp[js],h1,by simpa using h3,by simp⟩);rw[<-hK1];exact hE
 case h_3=>
  rename_i e0 es0;generalize he0:e0::es0=es at*;obtain⟨ys,e2,h1,h2,h3,h4⟩:=h;refine nk.wg (ro:=.app i.size i.bytes x y) (Hn ho hc ha hta ht hu hd hi (by rw[hz];simpa using hz') hbytes (K:=fun a nbs fz=>K (s.put dst a nbs fz)) ⟨es,hx,ys,e2,h1,h2,h3,?_⟩);have hne:es≠[]:=by rw[<-he0];simp
  simpa[hne]using h4
 rename_i hd' k' off len;obtain⟨s',hK,hE⟩:=RD (o:=o) hx ho hc ha hta ht hu hd hi (by rw[hz];simpa using hz') hbytes h;exact⟨s',hK,hE.ok⟩
end
theorem L9{ψ:Hd->Hd}:∀(hs:List Hd) (bs:List (Option bn)) (s:an),(cT s ψ hs bs).env=s.env
 |[],_,_=>by unfold cT;rfl
 |_::_,[],_=>by unfold cT;rfl
 |h::hs,b::bs,s=>by unfold cT;rw[L9 hs bs,eO]
theorem II{ψ:Hd->Hd}:∀(hs:List Hd) (bs:List (Option bn)) (s:an),(cT s ψ hs bs).nx=s.nx
 |[],_,_=>by unfold cT;rfl
 |_::_,[],_=>by unfold cT;rfl
 |h::hs,b::bs,s=>by unfold cT;rw[II hs bs,cC]
theorem tW{ψ:Hd->Hd}{x:Hd}:∀(hs:List Hd) (bs:List (Option bn)) (s:an),x∉hs->(cT s ψ hs bs).lk x=s.lk x
 |[],_,_,_=>by unfold cT;rfl
 |_::_,[],_,_=>by unfold cT;rfl
 |h::hs,b::bs,s,hx=>by simp only[ω,not_or]at hx;unfold cT;rw[tW hs bs _ hx.2,aQ,if_neg hx.1]
theorem MT{ψ:Hd->Hd}{x:Hd}:∀(hs:List Hd) (bs:List (Option bn)) (s:an) (i:Nat),hs.Nodup->bs.length=hs.length->hs[i]?=some x->(cT s ψ hs bs).lk x=((bs[i]?).join).map (bn.cg ψ)
 |[],_,_,_,_,_,hi=>by simp at hi
 |_::_,[],_,_,_,hl,_=>by simp at hl
 |h::hs,b::bs,s,0,hn,hl,hi=>by
  simp only[abA,Option.some.injEq]at hi;subst hi;unfold cT;rw[tW hs bs _ (abk.1 hn).1,aQ,if_pos rfl];simp
 |h::hs,b::bs,s,i+1,hn,hl,hi=>by unfold cT;rw[MT hs bs _ i (abk.1 hn).2 (by simpa using hl) (by simpa using hi)];simp
section
variable{P:Program}{o:Oper}
theorem NX{vals:List AV}{hs:List Hd}{r:AV}{bs':List (Option bn)}(hnd:hs.Nodup)(hok:sn s.nx hs=true)(hits:∀h∈hs,(s.lk h).any bn.qe=false)(hlen:bs'.length=hs.length):
  (∀t,dst≠some t->(hH s hs vals dst r bs' nbs).env t=s.env t)/\s.nx<=(hH s hs vals dst r bs' nbs).nx/\((∀i,s.nx<=i->s.own i=none)->∀i,(hH s hs vals dst r bs' nbs).nx<=i->(hH s hs vals dst r bs' nbs).own i=none)/\
  ∀(G:Gh) (m:HM) (w:World) (vs:Array Value),cf G m s.lk w->AV.bb G m vals vs.toList->(∀j,s.nx<=j->j<(hH s hs vals dst r bs' nbs).nx->m (.O j)=none)->
   ∃G1 m1,cf G1 m1 (gH (uN s.lk hs) []) w/\(∀i,m1 (.O i)=none)/\AV.bb G1 m1 (AV.bq s.lk (np hs) vals) vs.toList/\∀v w',pZ w G1 m1 (gH bs' nbs) r v w'->tp G m s dst (hH s hs vals dst r bs' nbs) w v w':=by
 have hnew:∀x,x∈hs->∀j,x≠.O (s.nx+j):=fun x hx j e=>by have:=Ij hok (e▸hx);omega
 have hsF:(s.put none .un [] (pe s.lk hs vals)).nx=s.nx:=rfl;have hlkF:(s.put none .un [] (pe s.lk hs vals)).lk=fo s.lk (pe s.lk hs vals):=by rw[jZ,iL]
 have hnx':(hH s hs vals dst r bs' nbs).nx=s.nx+nbs.length:=by show(cT _ _ hs bs').nx+(nbs.map _).length=_;rw[II,hsF,κ]
 have hlk':(hH s hs vals dst r bs' nbs).lk=ij (cT (s.put none .un [] (pe s.lk hs vals)) (bU hs s.nx) hs bs').lk s.nx (nbs.map (bn.cg (bU hs s.nx))):=by unfold hH;rw[jZ,eD,II,hsF]
 have hlkN:∀j bl,nbs[j]?=some bl->(hH s hs vals dst r bs' nbs).lk (.O (s.nx+j))=some (bl.cg (bU hs s.nx)):=fun j bl hj=>by have hlt:=(υ.1 hj).1;rw[hlk'];simp only[ij,κ];rw[if_pos ⟨by omega,by omega⟩,aaP,aac,hj];rfl
 have hlkO:∀x,(∀j,j<nbs.length->x≠.O (s.nx+j))->(hH s hs vals dst r bs' nbs).lk x=(cT (s.put none .un [] (pe s.lk hs vals)) (bU hs s.nx) hs bs').lk x:=fun x hx=>by
  rw[hlk'];cases x with
  |B i=>rfl
  |O i=>
   simp only[ij,κ];rw[if_neg (fun hc=>hx (i-s.nx) (by omega) (by rw[show s.nx+(i-s.nx)=i by omega]))]
 refine⟨fun t ht=>?_,by rw[hnx'];omega,fun hown j hj=>?_,fun G m w vs hS hrep hn=>?_⟩
 ·show dE (cT _ _ hs bs').env dst _ t=_;rw[L9];cases dst with
  |none=>rfl
  |some d=>simp only[dE,gb];rw[if_neg (fun e=>ht (by rw[e]))];rfl
 ·rw[hnx']at hj;have h1:=hlkO (.O j) (fun k hk e=>by cases e;omega);have:(hH s hs vals dst r bs' nbs).own j=(hH s hs vals dst r bs' nbs).lk (.O j):=rfl;rw[this,h1,tW _ _ _ (fun hx=>hnew _ hx (j-s.nx) (by rw[show s.nx+(j-s.nx)=j by omega])),hlkF];unfold fo;have h0:s.lk (.O j)=none:=hown j (by omega);rw[h0];split<;>rfl
 ·rw[hnx']at hn;obtain⟨G1,hS1,hle1,hG1⟩:=hS.freeze (pe s.lk hs vals);have hphi:∀hd hd' loc,np hs hd=some hd'->m hd=some loc->(fun x=>match x with|Hd.B i=>(hs[i]?).bind m|Hd.O _=>none:HM) hd'=some loc:=fun hd hd' loc hp hm=>by unfold np at hp;rw[ι]at hp;obtain⟨i,hi,rfl⟩:=hp;obtain⟨_,h2⟩:=CL hi;show(hs[i]?).bind m=_;rw[show hs[i]?=some hd by simpa using h2];exact hm
  have hrowF:∀hd mt k es,s.lk hd=some (.row mt k es)->∃mt',fo s.lk (pe s.lk hs vals) hd=some (.row mt' k es):=fun hd mt k es hh=>by
   unfold fo;split
   ·exact⟨false,by rw[hh];rfl⟩
   ·exact⟨mt,hh⟩
  have hfz:∀hd mt k es,(hd∈AV.cm vals\/hd∈wB s.lk hs)->np hs hd=none->(s.lk hd).isSome=true->fo s.lk (pe s.lk hs vals) hd=some (.row mt k es)->mt=false:=fun hd mt k es hmem hp hsome hr=>by
   have hnh:hd∉hs:=by unfold np at hp;rw[Option.map_eq_none_iff]at hp;exact J1 hp
   have gk:hd∈pe s.lk hs vals:=ξ.2 ⟨zm (List.mem_append.2 hmem) hsome,by simpa using hnh⟩;unfold fo at hr;rw[if_pos gk]at hr;cases hx:s.lk hd with
   |none=>rw[hx]at hr;cases hr
   |some bl=>
    rw[hx]at hr;cases bl with
    |row mt' k' es'=>cases hr;rfl
    |_=>cases hr
  have hrep1:=AV.ef (lk:=s.lk) hS1 hrowF hphi vals _ (fun hd hh mt k es hp hsome hr=>hfz hd mt k es (.inl hh) hp hsome hr) (AV.bb.mono hle1 (HM.le.refl m) _ _ hrep);have hnotF:∀x,x∈hs->fo s.lk (pe s.lk hs vals) x=s.lk x:=fun x hx=>by unfold fo;rw[if_neg (fun gk=>by have:=(ξ.1 gk).2;simp[hx]at this)]
  have hget0:∀{x loc},(fun x=>match x with|Hd.B i=>(hs[i]?).bind m|Hd.O _=>none:HM) x=some loc->∃i hd,x=.B i/\hs[i]?=some hd/\m hd=some loc:=fun{x loc} hx=>by
   cases x with
   |O i=>cases hx
   |B i=>
    have hx:(hs[i]?).bind m=some loc:=hx;rw[η]at hx;obtain⟨hd,h1,h2⟩:=hx;exact⟨i,hd,rfl,h1,h2⟩
  have hlk0:∀i hd,hs[i]?=some hd->gH (uN s.lk hs) [] (.B i)=(s.lk hd).map (bn.conv s.lk (np hs)):=fun i hd hi=>by show((uN s.lk hs)[i]?).join=_;unfold uN;rw[aac,hi];rfl
  have hblk0:∀hd bl b sz,hd∈hs->s.lk hd=some bl->bg G1 m bl b sz w->bg G1 (fun x=>match x with|Hd.B i=>(hs[i]?).bind m|Hd.O _=>none:HM) (bn.conv s.lk (np hs) bl) b sz w:=fun hd bl b sz gk hl hb=>by
   cases bl with
   |row mt k es=>cases mt<;>exact hb
   |box cs=>
    obtain⟨us,T,g1,g2,g3,g4⟩:=hb;exact⟨us,T,g1,g2,AV.ef hS1 hrowF hphi cs _ (fun x hx mt k es a b' c'=>hfz x mt k es (.inr (Lz gk hl hx)) a b' c') g3,g4⟩
   |_=>exact hb.elim
  have hS0:cf G1 (fun x=>match x with|Hd.B i=>(hs[i]?).bind m|Hd.O _=>none:HM) (gH (uN s.lk hs) []) w:=by
   refine⟨fun x b sz hx=>?_,fun x hx=>?_,fun x y l l' b hx hy hb hb'=>?_,hS1.gh,fun x hx=>?_,hS1.gl,fun x b sz fp hx=>?_⟩
   rotate_right
   ·obtain⟨i,hd,rfl,h1,h2⟩:=hget0 hx;obtain⟨bl,h3,h4⟩:=hS1.di _ _ _ _ h2;rw[hnotF hd (aar h1)]at h3;exact⟨_,by rw[hlk0 i hd h1,h3];rfl,h4.conv hphi⟩
   ·obtain⟨i,hd,rfl,h1,h2⟩:=hget0 hx;obtain⟨bl,h3,h4⟩:=hS1.fh _ _ _ h2;rw[hnotF hd (aar h1)]at h3;exact⟨_,by rw[hlk0 i hd h1,h3];rfl,hblk0 hd bl b sz (aar h1) h3 h4⟩
   ·obtain⟨i,hd,rfl,h1,h2⟩:=hget0 hx;obtain⟨mt,k,h3⟩:=hS.nil _ h2;exact⟨mt,k,by rw[hlk0 i hd h1,h3];rfl⟩
   ·obtain⟨i,hd,rfl,h1,h2⟩:=hget0 hx;obtain⟨j,hd',rfl,h1',h2'⟩:=hget0 hy;have:=hS.da _ _ l l' b h2 h2' hb hb';subst this;have hlt:=(υ.1 h1).1;rw[(acz hlt hnd).1 (h1.trans h1'.symm)]
   ·obtain⟨i,hd,rfl,h1,h2⟩:=hget0 hx;rw[hlk0 i hd h1,hS.dead _ h2];rfl
  refine⟨G1,_,hS0,fun _=>rfl,hrep1,fun v w' hp=>?_⟩;obtain⟨G2,m2,hS2,hr2,hfr,hB,hO,hO3⟩:=hp;have hOwn0:∀b,Own (fun x=>match x with|Hd.B i=>(hs[i]?).bind m|Hd.O _=>none:HM) b->∃hd l,hd∈hs/\m hd=some l/\b∈l.ga:=fun b ⟨x,l,hx,hl⟩=>by obtain⟨i,hd,_,h1,h2⟩:=hget0 hx;exact⟨hd,l,aar h1,h2,hl⟩
  have hhs0:∀i hd,hs[i]?=some hd->(fun x=>match x with|Hd.B i=>(hs[i]?).bind m|Hd.O _=>none:HM) (.B i)=m hd:=fun i hd hi=>by show(hs[i]?).bind m=_;rw[hi];rfl
  have hOwnM:∀b,Own (fun x=>match x with|Hd.B i=>(hs[i]?).bind m|Hd.O _=>none:HM) b->Own m b:=fun b hb=>by obtain⟨hd,l,_,h,hl⟩:=hOwn0 b hb;exact⟨hd,l,h,hl⟩
  obtain⟨m',hm'⟩:∃m':HM,m'=fun x=>match pz x hs 0 with
   |some i=>m2 (.B i)
   |none=>match x with
    |.O k=>if s.nx<=k/\k<s.nx+nbs.length then m2 (.O (k-s.nx))else m (.O k)
    |.B k=>m (.B k):=⟨_,rfl⟩
  have mh:∀i hd,hs[i]?=some hd->m' hd=m2 (.B i):=fun i hd hi=>by rw[hm'];simp only[Kk (n:=0) hnd hi,aan]
  have hno:∀x,x∉hs->pz x hs 0=none:=fun x hx=>by
   cases e:pz x hs 0 with
   |none=>rfl
   |some i=>
    obtain⟨_,h2⟩:=CL e;exact absurd (aar h2) hx
  have mn:∀j,j<nbs.length->m' (.O (s.nx+j))=m2 (.O j):=fun j hj=>by rw[hm'];simp only[hno _ (fun hx=>hnew _ hx j rfl)];rw[if_pos ⟨by omega,by omega⟩,aaP]
  have mo:∀x,x∉hs->(∀j,j<nbs.length->x≠.O (s.nx+j))->m' x=m x:=fun x hx hh=>by
   rw[hm'];simp only[hno x hx];cases x with
   |B k=>rfl
   |O k=>
    show(if _ then _ else _)=_;rw[if_neg (fun hc=>hh (k-s.nx) (by omega) (by rw[show s.nx+(k-s.nx)=k by omega]))]
  have hn':∀j,j<nbs.length->m (.O (s.nx+j))=none:=fun j hj=>hn _ (by omega) (by omega);have hdead:∀i hd,hs[i]?=some hd->dw (m hd) (m2 (.B i)):=fun i hd hi=>by have:=hB i;rw[hhs0 i hd hi]at this;exact this
  have hle':HM.le m m':=fun x loc hx=>by
   by_cases gk:x∈hs
   ·obtain⟨i,hi⟩:=aaK gk;have q:=hdead i x hi;rw[<-mh i x hi]at q;exact q.le hx
   ·rw[mo x gk (fun j hj e=>by rw[e,hn' j hj]at hx;cases hx)];exact .inl (.inl hx)
  have hO2:∀i loc,m2 (.O i)=some loc->i<nbs.length:=fun i loc hi=>by
   cases hx:nbs[i]?with
   |none=>rw[hO3 i hx]at hi;cases hi
   |some bl=>exact(υ.1 hx).1
  have hB2:∀i loc,m2 (.B i)=some loc->∃hd,hs[i]?=some hd:=fun i loc hi=>by
   cases hx:hs[i]?with
   |some hd=>exact⟨hd,rfl⟩
   |none=>
    have h0:(fun x=>match x with|Hd.B i=>(hs[i]?).bind m|Hd.O _=>none:HM) (.B i)=none:=by show(hs[i]?).bind m=none;rw[hx];rfl
    rw[(hB i).none h0]at hi;cases hi
  have hback:∀x loc,m2 x=some loc->m' (bU hs s.nx x)=some loc:=fun x loc hx=>by
   cases x with
   |B i=>
    obtain⟨hd,hi⟩:=hB2 i loc hx;have:bU hs s.nx (.B i)=hd:=by show hs.getD i (.B i)=hd;rw[List.getD_eq_getElem?_getD,hi];rfl
    rw[this,mh i hd hi];exact hx
   |O i=>show m' (.O (s.nx+i))=_;rw[mn i (hO2 i loc hx)];exact hx
  have hsplit:∀x loc,m' x=some loc->(x∉hs/\(∀j,j<nbs.length->x≠.O (s.nx+j))/\m x=some loc)\/(∃i,hs[i]?=some x/\m2 (.B i)=some loc)\/(∃j,j<nbs.length/\x=.O (s.nx+j)/\m2 (.O j)=some loc):=fun x loc hx=>by
   by_cases gk:x∈hs
   ·obtain⟨i,hi⟩:=aaK gk;rw[mh i x hi]at hx;exact .inr (.inl ⟨i,hi,hx⟩)
   ·by_cases hc:∃j,j<nbs.length/\x=.O (s.nx+j)
    ·obtain⟨j,hj,rfl⟩:=hc;rw[mn j hj]at hx;exact .inr (.inr ⟨j,hj,rfl,hx⟩)
    ·have hc':∀j,j<nbs.length->x≠.O (s.nx+j):=fun j hj e=>hc ⟨j,hj,e⟩;rw[mo x gk hc']at hx;exact .inl ⟨gk,hc',hx⟩
  have hnotOwn:∀x l b,x∉hs->m x=some l->b∈l.ga->¬Own (fun x=>match x with|Hd.B i=>(hs[i]?).bind m|Hd.O _=>none:HM) b:=fun x l b gk hx hb ho=>by obtain⟨hd,l',hmem,hmd,hb'⟩:=hOwn0 b ho;exact gk (hS.da _ _ l l' b hx hmd hb hb'▸hmem)
  have hki:dz m w w':=fun x b sz fp hx u c d e hb=>by
   obtain⟨bl,g1,g2⟩:=hS.di x b sz fp hx;have hit:bl=.it:=by
    cases bl with
    |nst k es=>obtain⟨_,_,_,g3,_⟩:=g2;rw[hb]at g3;cases g3
    |sb T us es=>obtain⟨_,_,_,g3,_⟩:=g2;rw[hb]at g3;cases g3
    |mp kd es i=>obtain⟨_,_,_,_,g3,_⟩:=g2;rw[hb]at g3;cases g3
    |it=>rfl
    |_=>exact g2.elim
   have gk:x∉hs:=fun q=>by have:=hits x q;rw[g1,hit]at this;cases this
   exact hfr.heap b (aad.1 hb).1 (hnotOwn x _ b gk hx List.mem_cons_self)
  have hlkIn:∀i x,hs[i]?=some x->(hH s hs vals dst r bs' nbs).lk x=((bs'[i]?).join).map (bn.cg (bU hs s.nx)):=fun i x hi=>by rw[hlkO x (fun j hj=>hnew x (aar hi) j),MT hs bs' _ i hnd hlen hi]
  have hlkOut:∀x,x∉hs->(∀j,j<nbs.length->x≠.O (s.nx+j))->(hH s hs vals dst r bs' nbs).lk x=fo s.lk (pe s.lk hs vals) x:=fun x hx hj=>by rw[hlkO x hj,tW _ _ _ hx,hlkF]
  refine⟨G2,m',⟨fun x b sz hx=>?_,fun x hx=>?_,fun x y l l' b hx hy hb hb'=>?_,hS2.gh,fun x hx=>?_,hS2.gl,fun x b sz fp hx=>?_⟩,fun d hd=>?_,⟨hfr.os,hfr.tape,hfr.output,hfr.size,fun b hb ho=>hfr.heap b hb (fun q=>ho (hOwnM b q)),fun b hb ho o=>?_,hle1.trans hfr.le⟩,hle',fun i=>?_,fun j hj=>?_,fun x l b hj hl=>?_⟩
  ·rcases hsplit x _ hx with⟨h1,h2,h3⟩|⟨i,h1,h2⟩|⟨j,hj,rfl,h1⟩
   ·obtain⟨bl,q1,q2⟩:=hS1.fh x b sz h3;rw[hlkOut x h1 h2];have hno:=hnotOwn x _ b h1 h3 (aai.2 rfl);exact⟨bl,q1,q2.mono hfr.le hle' (fun o=>hfr.gh b (hS1.lt h3) hno o) (hfr.heap b (hS1.lt h3) hno)⟩
   ·obtain⟨bl,q1,q2⟩:=hS2.fh _ b sz h2;have q1:(bs'[i]?).join=some bl:=q1;rw[hlkIn i x h1,q1];exact⟨_,rfl,q2.cg hback⟩
   ·obtain⟨bl,q1,q2⟩:=hS2.fh _ b sz h1;exact⟨_,hlkN j bl q1,q2.cg hback⟩
  ·rcases hsplit x _ hx with⟨h1,h2,h3⟩|⟨i,h1,h2⟩|⟨j,hj,rfl,h1⟩
   ·obtain⟨mt,k,q1⟩:=hS1.nil x h3;exact⟨mt,k,by rw[hlkOut x h1 h2];exact q1⟩
   ·obtain⟨mt,k,q1⟩:=hS2.nil _ h2;have q1:(bs'[i]?).join=some (.row mt k []):=q1;exact⟨mt,k,by rw[hlkIn i x h1,q1];rfl⟩
   ·obtain⟨mt,k,q1⟩:=hS2.nil _ h1;exact⟨mt,k,hlkN j _ q1⟩
  ·have old_new:∀x l b,x∉hs->m x=some l->b∈l.ga->∀z l',m2 z=some l'->b∈l'.ga->False:=fun x l b gk hx hb z l' hz hb'=>by
    rcases hO z l' b hz hb' with q|q
    ·have:=hS.vt hx hb;omega
    ·exact hnotOwn x l b gk hx hb q
   rcases hsplit x _ hx with⟨h1,h2,h3⟩|⟨i,h1,h2⟩|⟨j,hj,rfl,h1⟩<;>rcases hsplit y _ hy with⟨k1,k2,k3⟩|⟨i',k1,k2⟩|⟨j',hj',rfl,k1⟩
   ·exact hS.da x y l l' b h3 k3 hb hb'
   ·exact(old_new x l b h1 h3 hb _ l' k2 hb').elim
   ·exact(old_new x l b h1 h3 hb _ l' k1 hb').elim
   ·exact(old_new y l' b k1 k3 hb' _ l h2 hb).elim
   ·have:=hS2.da _ _ l l' b h2 k2 hb hb';cases this;exact Option.some.inj (h1.symm.trans k1)
   ·have:=hS2.da _ _ l l' b h2 k1 hb hb';cases this
   ·exact(old_new y l' b k1 k3 hb' _ l h1 hb).elim
   ·have:=hS2.da _ _ l l' b h1 k2 hb hb';cases this
   ·have:=hS2.da _ _ l l' b h1 k1 hb hb';cases this;rfl
  ·rcases hsplit x _ hx with⟨h1,h2,h3⟩|⟨i,h1,h2⟩|⟨j,hj,rfl,h1⟩
   ·rw[hlkOut x h1 h2];exact hS1.dead x h3
   ·have q1:(bs'[i]?).join=none:=hS2.dead _ h2;rw[hlkIn i x h1,q1];rfl
   ·have q1:nbs[j]?=none:=hS2.dead _ h1;rw[List.getElem?_eq_none_iff]at q1;omega
  ·rcases hsplit x _ hx with⟨h1,h2,h3⟩|⟨i,h1,h2⟩|⟨j,hj,rfl,h1⟩
   ·obtain⟨bl,q1,q2⟩:=hS1.di x b sz fp h3;rw[hlkOut x h1 h2];have hno:∀c∈b::fp,¬Own _ c:=fun c hc=>hnotOwn x _ c h1 h3 hc;exact⟨bl,q1,q2.mono hfr.le hle' (fun c hc o=>hfr.gh c (q2.lt c hc) (hno c hc) o) (fun c hc=>hfr.heap c (q2.lt c hc) (hno c hc)) hki⟩
   ·obtain⟨bl,q1,q2⟩:=hS2.di _ b sz fp h2;have q1:(bs'[i]?).join=some bl:=q1;rw[hlkIn i x h1,q1];exact⟨_,rfl,q2.cg hback⟩
   ·obtain⟨bl,q1,q2⟩:=hS2.di _ b sz fp h1;exact⟨_,hlkN j bl q1,q2.cg hback⟩
  ·subst hd;show AV.aq G2 m' (gb (cT _ _ hs bs').env d _ d) v;unfold gb;rw[if_pos rfl];exact AV.ko hback r v hr2
  ·rw[hfr.gh b hb (fun q=>ho (hOwnM b q)) o,hG1 b (fun h _ sz e=>ho (.at_ e)) o]
  ·by_cases gk:Hd.B i∈hs
   ·obtain⟨k,hk⟩:=aaK gk;rw[mh k _ hk];exact hdead k _ hk
   ·rw[mo _ gk (fun j _ e=>by cases e)];exact .inl rfl
  ·rw[hnx']at hj;by_cases gk:Hd.O j∈hs
   ·obtain⟨k,hk⟩:=aaK gk;rw[mh k _ hk];exact hdead k _ hk
   ·rw[mo _ gk (fun i hi e=>by cases e;omega)];exact .inl rfl
  ·rcases hsplit _ _ hj with⟨h1,h2,h3⟩|⟨i,h1,h2⟩|⟨i,hi,he,h1⟩
   ·exact .inr ⟨_,l,h3,hl⟩
   ·rcases hO _ l b h2 hl with q|q
    ·exact .inl q
    ·exact .inr (hOwnM b q)
   ·rcases hO _ l b h1 hl with q|q
    ·exact .inl q
    ·exact .inr (hOwnM b q)
theorem S4{f:Operand}(ho:o.op=.call c)(hc:c.callee=.value f)(h:Bp P s dst K (c.args.toList.map s.ev) (s.ev f)):
  ∃s',K s'/\nk P o (f::c.args.toList) dst s s':=by
 generalize hf:s.ev f=vf at h;unfold Bp at h;split at h
 case h_2=>exact h.elim
 rename_i fn caps;obtain⟨hs,r,bs',nbs,hnd,hok,hlive,hits,hlen,hcall,hK⟩:=h;obtain⟨e1,e2,e3,e4⟩:=NX (s:=s) (dst:=dst) (vals:=c.args.toList.map s.ev++caps) (r:=r) (nbs:=nbs) hnd hok hits hlen;refine⟨_,hK,⟨e1,e2,e3,fun G m w ρ _ hS hev hn=>?_⟩⟩;have hrf:=hev f (by simp);rw[hf]at hrf;unfold AV.aq at hrf;obtain⟨vs,hv,hcaps⟩:=hrf;have hargs:AV.bb G m (c.args.toList.map s.ev) (c.args.toList.map ρ):=AV.gn (fun x hx=>hev x (by simp[hx]));have hrep:AV.bb G m (c.args.toList.map s.ev++caps) (c.args.map ρ++vs).toList:=by rw[abj,abm];exact AV.cw hargs hcaps
 refine C4 ho hc hv ?_;obtain⟨G1,m1,hS1,hO1,hr1,hpost⟩:=e4 G m w _ hS hrep hn;exact(hcall w G1 m1 _ hS1 hO1 hr1).mono fun v w' hp=>hpost v w' hp
end
theorem cf.part(hS:cf G m s.lk w)(hm:m hd=some (.at_ b sz))(hl:s.lk hd=some (.row true k es))
  (hlen:news.length=n*k) (hys:ys.length=n) (gk:off+n<=es.length) (hrows:∀(f:Nat->Option Value) (o:Nat),(∀i,i<news.length->f (o+i)=news[i]?)->DV.rows G f k o ys) (hone:∀u∈news,u.oneCell'=true) (P:Program):
  ∃w',(storeCells ⟨b,off*k,none⟩ news).run P w=.ok () w'/\cf G m (s.ba hd (some (.row true k (es.take off++ys++es.drop (off+n))))).lk w'/\Fr (Own m) (fun _=>False) G G w w':=by
 obtain⟨bl,hl',hb⟩:=hS.fh _ _ _ hm;rw[hl]at hl';cases hl';unfold bg at hb;obtain⟨vs,T',h1,h2,h3,h4,h5⟩:=hb;have hm1:(off+n)*k<=es.length*k:=aaF _ gk;rw[aaW]at hm1;have hst:=run_storeCells_at P b (off*k) T' news 0 vs w h1 (by rw[hlen];omega) hone;simp only[abt]at hst;refine⟨_,hst,hS.write hm h1 h5 (fun w' hw'=>?_)⟩;unfold bg;have ht:(vs.toList.take (off*k)).length=off*k:=by simp;omega
 refine⟨_,T',hw',?_,?_,?_,h5⟩
 ·simp[hlen];omega
 ·have:(es.take off++ys++es.drop (off+n)).length=es.length:=by simp[hys];omega
  rw[this];exact h3
 ·have hto:(es.take off).length=off:=by simp;omega
  refine DV.cu (DV.cu (DV.dc (fun p hp=>?_) (DV.en off h4)) (hrows _ _ (fun p hp=>?_))) (DV.dc (o:=(off+n)*k) (fun p hp=>?_) (by have:=DV.ei (off+n) h4;rwa[aan]at this))
  ·rw[hto]at hp;rw[aan];show((vs.toList.take (off*k)++news++vs.toList.drop (off*k+news.length)).toArray)[p]?=_;rw[abV,π,aak (by omega),aaH hp,aaj]
  ·rw[hto,aan];show((vs.toList.take (off*k)++news++vs.toList.drop (off*k+news.length)).toArray)[off*k+p]?=_;rw[abV,π,aal (by omega),ht,aaP,aak hp]
  ·have hL:(es.take off++ys).length=off+n:=by simp[hys];omega
   rw[hL,aan];show((vs.toList.take (off*k)++news++vs.toList.drop (off*k+news.length)).toArray)[(off+n)*k+p]?=_;rw[abV,aal (by simp[hlen,aaW];omega),abg,aaj];simp only[ε,ht,hlen];congr 1;rw[aaW];omega
theorem Uv{lk:bJ}(hS:cf G m lkf w)(hs:∀h mt k es,lk h=some (.row mt k es)->∃mt',lkf h=some (.row mt' k es)){y:AV}
  (hr:AV.aq G m y v) (hy:AV.content lk y=some ys) (hns:AV.si y=false) (n:Nat) (hn:n<=ys.length):∃y' a cap,v=.slice a ys.length cap/\AV.aq G m y' (.slice a n cap)/\AV.content lk y'=some (ys.take n):=by
 have data:∀es,DV.aq G (.L es) v->es=ys->∃y' a cap,v=.slice a ys.length cap/\AV.aq G m y' (.slice a n cap)/\AV.content lk y'=some (ys.take n):=fun es h e=>by
  subst e;unfold DV.aq at h;obtain⟨a,cap,h1,h2,h3,h4⟩:=h;refine⟨.D (.L (es.take n)),a,cap,h1,?_,rfl⟩;unfold AV.aq DV.aq;have hl:(es.take n).length=n:=by simp;omega
  refine⟨a,cap,by rw[hl],by rw[hl];omega,h3,fun hne=>?_⟩;obtain⟨b,o,k,h5,h6⟩:=h4 (fun e=>by subst e;simp at hne);exact⟨b,o,k,h5,DV.en n h6⟩
 unfold AV.content at hy;split at hy
 ·cases hy;unfold AV.aq at hr;exact data _ hr rfl
 ·cases hy;unfold AV.aq at hr;exact data _ hr.1 rfl
 ·rename_i h k off len;split at hy
  case h_2=>cases hy
  rename_i mt k2 es hl;split at hy
  case isFalse=>cases hy
  rename_i hc;cases hy;obtain⟨rfl,hle⟩:=hc;have hL:((es.drop off).take len).length=len:=by simp;omega
  rw[hL]at hn;unfold AV.aq at hr;obtain⟨h0,loc,hloc,hsl⟩:=hr;obtain⟨mt',hl'⟩:=hs _ _ _ _ hl;have hnd:loc≠.dead:=fun e=>by subst e;rw[hS.dead _ hloc]at hl';cases hl'
  have hcont:AV.content lk (.sl h k2 off n)=some (((es.drop off).take len).take n):=by unfold AV.content;simp only[hl];rw[if_pos ⟨trivial,by omega⟩,acG,abw hn]
  rcases hsl hnd with⟨p,hv,rfl⟩|⟨b,sz,cap,rfl,hv,hcap,hsz⟩
  ·obtain rfl:n=0:=by omega
   refine⟨.sl h k2 off 0,p,0,by rw[hL];exact hv,?_,hcont⟩;unfold AV.aq;exact⟨rfl,loc,hloc,fun _=>.inl ⟨p,rfl,rfl⟩⟩
  ·refine⟨.sl h k2 off n,_,cap,by rw[hL];exact hv,?_,hcont⟩;unfold AV.aq;exact⟨rfl,_,hloc,fun _=>.inr ⟨b,sz,cap,rfl,rfl,by omega,hsz⟩⟩
 ·rename_i h k off len cap0;split at hy
  case h_2=>cases hy
  rename_i mt k2 es hl;split at hy
  case isFalse=>cases hy
  rename_i hc;cases hy;obtain⟨rfl,hle⟩:=hc;have hL:((es.drop off).take len).length=len:=by simp;omega
  rw[hL]at hn;unfold AV.aq at hr;obtain⟨h0,loc,hloc,hsl⟩:=hr;obtain⟨mt',hl'⟩:=hs _ _ _ _ hl;have hnd:loc≠.dead:=fun e=>by subst e;rw[hS.dead _ hloc]at hl';cases hl'
  have hcont:AV.content lk (.sl h k2 off n)=some (((es.drop off).take len).take n):=by unfold AV.content;simp only[hl];rw[if_pos ⟨trivial,by omega⟩,acG,abw hn]
  rcases Ek (hsl hnd)with⟨p,hv,rfl⟩|⟨b,sz,cap,rfl,hv,hcap,hsz⟩
  ·obtain rfl:n=0:=by omega
   refine⟨.sl h k2 off 0,p,0,by rw[hL];exact hv,?_,hcont⟩;unfold AV.aq;exact⟨rfl,loc,hloc,fun _=>.inl ⟨p,rfl,rfl⟩⟩
  ·refine⟨.sl h k2 off n,_,cap,by rw[hL];exact hv,?_,hcont⟩;unfold AV.aq;exact⟨rfl,_,hloc,fun _=>.inr ⟨b,sz,cap,rfl,rfl,by omega,hsz⟩⟩
 ·cases hns
 ·cases hy
section
variable{P:Program}{o:Oper}
theorem GP{b0 b1:bn}{a:AV}(hl:s.lk h=some b0)
  (hrun:∀(G:Gh) (m:HM) (w:World) (ρ:Operand->Value),cf G m s.lk w->(∀x∈xs,AV.aq G m (s.ev x) (ρ x))->∃v w',(execOp ρ o).run P w=.ok (.value v) w'/\cf G m (s.ba h (some b1)).lk w'/\Fr (Own m) (fun _=>False) G G w w'/\AV.aq G m a v):
  nk P o xs dst s ((s.ba h (some b1)).put dst a [] []):=by
 have hlk:((s.ba h (some b1)).put dst a [] []).lk=(s.ba h (some b1)).lk:=by rw[jZ,eD,iL]
 have hnx:((s.ba h (some b1)).put dst a [] []).nx=s.nx:=by show(s.ba h (some b1)).nx+0=_;rw[cC];rfl
 refine⟨fun t ht=>?_,by rw[hnx];exact me _,fun hown j hj=>qI (fun j hj=>jW hown ⟨_,hl⟩ j (by rw[cC]at hj;exact hj)) j hj,fun G m w ρ hρ hS hev hn=>?_⟩
 ·show dE (s.ba h (some b1)).env dst a t=_;rw[eO];cases dst with
  |none=>rfl
  |some dd=>simp only[dE,gb];rw[if_neg (fun q=>ht (by rw[q]))]
 ·obtain⟨v,w',h1,h2,h3,h4⟩:=hrun G m w ρ hS hev;refine bp.val h1 ⟨G,m,by rw[hlk];exact h2,fun d hd=>?_,h3.mono (fun _ _ q=>q) (fun _ _ q=>q.elim),HM.le.refl m,fun _=>.inl rfl,fun _ _=>.inl rfl,fun x l b hj hl=>.inr ⟨_,l,hj,hl⟩⟩;subst hd;show AV.aq G m (gb (s.ba h (some b1)).env d a d) v;unfold gb;rw[if_pos rfl];exact h4
theorem Fq(h:DV.rows G (fun i=>news[i]?) k 0 ys)(hone:qn ys=true)(hlen:news.length=ys.length*k):∀u∈news,u.oneCell'=true:=by intro u hu;obtain⟨j,hj⟩:=aaK hu;have hlt:=(υ.1 hj).1;exact GB h hone j u (by rw[<-hlen];exact hlt) (by simpa using hj)
theorem Vz(ho:o.op=.call c)(hc:c.callee=.builtin .clear)(ha:c.args.toList=[x])(hta:c.argTypes.toList=[t])
  (ht:P.underlying t=some (.slice e)) (hi:P.info? e=some i) (hz:i.zero=some z) (hz':z.cells.size=i.size) (hz1:(z.cells.toList.map iP).all DV.one=true)
  (h:zy s i.size (z.cells.toList.map iP) dst K (s.ev x)):∃s',K s'/\nk P o [x] dst s s':=by
 have ha':c.args=#[x]:=by rw[<-aaL (xs:=c.args),ha]
 have ht':c.argTypes=#[t]:=by rw[<-aaL (xs:=c.argTypes),hta]
 have hexec:∀(ρ:Operand->Value) (v:Value) (w w':World),(Builtin.clear_ #[t] o.type #[ρ x]).run P w=.ok v w'->(execOp ρ o).run P w=.ok (.value v) w':=fun ρ v w w' h=>by simp only[execOp,ho,resolve,hc,ha',ht',invoke,builtin,Sem.run_bind,Sem.run_pure,Result.andThen_ok];simp[h]
 generalize hx:s.ev x=ax at h;unfold zy at h;split at h
 case h_2=>exact h.elim
 rename_i hd k' off len;obtain⟨rfl,es,hl,hle,hK⟩:=h;refine⟨_,hK,GP hl (fun G m w ρ hS hev=>?_)⟩;have hrx:=hev x (by simp);rw[hx]at hrx;unfold AV.aq at hrx;obtain⟨_,loc,hloc,hsl⟩:=hrx;have hnd:loc≠.dead:=fun e=>by subst e;rw[hS.dead _ hloc]at hl;cases hl
 have same:len=0->(s.ba hd (some (.row true i.size (es.take off++aae len (z.cells.toList.map iP)++es.drop (off+len))))).lk=s.lk:=fun e=>by
  subst e;funext y;rw[aQ];split
  ·rename_i e;rw[e,hl];simp
  ·rfl
 have unit:∀v,AV.aq G m .any v:=fun v=>by unfold AV.aq;trivial
 rcases hsl hnd with⟨p,hv,hlen0⟩|⟨b,sz,cap,rfl,hv,hcap,hsz⟩
 ·refine⟨.tuple #[],w,hexec ρ _ w w ?_,by rw[same hlen0];exact hS,Fr.refl _ _ _ _,unit _⟩;rw[hv];cases p<;>simp[Builtin.clear_,run_underlying ht]
 ·by_cases h0:len=0
  ·refine⟨.tuple #[],w,hexec ρ _ w w ?_,by rw[same h0];exact hS,Fr.refl _ _ _ _,unit _⟩;rw[hv,h0];simp[Builtin.clear_,run_underlying ht]
  ·have hzl:z.cells.toList.length=i.size:=by simpa using hz'
   have hzc:∀j,j<len*i.size->(Builtin.zeroCells z.cells len).toList[j]?=z.cells.toList[j%z.cells.toList.length]?:=fun j hj=>by have hpos:0<i.size:=Nat.pos_of_ne_zero (fun e=>by rw[e]at hj;simp at hj);have hm:j%z.cells.size<z.cells.size:=ace _ (by rw[hz'];exact hpos);simp only[Builtin.zeroCells,aaj,adw,aby];rw[ac9];simp[hz',hj];rw[<-hz',acZ,aaA,ab8 hm];simp[hz']
   have hzlen:(Builtin.zeroCells z.cells len).toList.length=len*i.size:=by simp[Builtin.zeroCells,hz']
   have hzrows:∀(f:Nat->Option Value) (o:Nat),(∀j,j<(Builtin.zeroCells z.cells len).toList.length->f (o+j)=(Builtin.zeroCells z.cells len).toList[j]?)->DV.rows G f i.size o (aae len (z.cells.toList.map iP)):=fun f o hf=>by have:=Em G f z.cells.toList len o (fun j hj=>by rw[hzl]at hj;rw[hf j (by rw[hzlen];exact hj),hzc j hj]);rwa[hzl]at this
   obtain⟨w',h1,h2,h3⟩:=hS.part hloc hl (off:=off) (ys:=aae len (z.cells.toList.map iP)) hzlen (by simp) hle hzrows
    (Fq (hzrows _ 0 (fun j _=>by rw[aan])) (by simp[qn,hz1]) (by rw[hzlen];simp)) P
   refine⟨.tuple #[],w',hexec ρ _ w w' ?_,h2,h3,unit _⟩;rw[hv];simp[Builtin.clear_,run_underlying ht,h0,lN hi hz,h1]
theorem WE{M cap cap':Nat}{a:Option Addr}:Builtin.firstCells k n (.slice a M cap)=Builtin.firstCells k n (.slice a n cap'):=by cases a<;>rfl
theorem zH{P:Program}{lk:bJ}(hS:cf G m lkf w)(hs:∀h mt k es,lk h=some (.row mt k es)->∃mt',lkf h=some (.row mt' k es)){y:AV}
  (hr:AV.aq G m y v) (hy:AV.content lk y=some ys) (hu:js k ys) (n:Nat) (hn:n<=ys.length):(∀w1:World,(Builtin.lenOf v).run P w1=.ok ys.length w1)/\
  ∃(vs:List Value),vs.length=n*k/\(∀w1:World,w1.heap=w.heap->(Builtin.firstCells k n v).run P w1=.ok vs.toArray w1)/\
   ∀(G':Gh) (f:Nat->Option Value) (o:Nat),Gh.le G G'->(∀i,i<vs.length->f (o+i)=vs[i]?)->DV.rows G' f k o (ys.take n):=by
 have hu':js k (ys.take n):=fun e he=>hu e (abZ he);have hL:(ys.take n).length=n:=by simp;omega
 refine⟨(fE (P:=P) hS hs hr hy hu).1,?_⟩;cases hns:AV.si y with
 |false=>
  obtain⟨y',a,cap',hvy,hry',hcy'⟩:=Uv hS hs hr hy hns n hn;obtain⟨_,vs,c2,c3,c4⟩:=fE (P:=P) hS hs hry' hcy' hu';rw[hL]at c2 c3;exact⟨vs,c2,fun w1 hw=>by rw[hvy,WE (cap':=cap')];exact c3 w1 hw,c4⟩
 |true=>
  unfold AV.si at hns;split at hns
  case h_2=>cases hns
  rename_i t;have hv:v=.string ⟨t.toArray⟩:=by unfold AV.aq DV.aq at hr;exact hr
  unfold AV.content at hy;simp only[Option.some.injEq]at hy;subst hy;obtain⟨_,vs,c2,c3,c4⟩:=fE (P:=P) (y:=.D (.S (t.take n))) (v:=.string ⟨(t.take n).toArray⟩) (ys:=(t.map fun c=>[DV.I .u8 c.toNat]).take n) hS hs (by unfold AV.aq DV.aq;rfl) (by rw[<-List.map_take];rfl) hu';rw[hL]at c2 c3;refine⟨vs,c2,fun w1 hw=>?_,c4⟩;rw[hv,<-c3 w1 hw];have:((⟨t.toArray⟩:ByteArray).extract 0 n).data=((⟨(t.take n).toArray⟩:ByteArray).extract 0 n).data:=by rw[ByteArray.data_extract,ByteArray.data_extract];apply ach.1;rw[abB,abB];simp[abT,acG]
  show(Builtin.firstCells k n (.string _)).run P w1=(Builtin.firstCells k n (.string _)).run P w1;simp only[Builtin.firstCells,this]
theorem Y2(ho:o.op=.call c)(hc:c.callee=.builtin .copy)(ha:c.args.toList=[x,y])(hta:c.argTypes.toList=[t,u])
  (ht:P.underlying t=some (.slice e)) (hi:P.info? e=some i)
  (h:ze s i.size y dst K (s.ev x)):∃s',K s'/\nk P o [x,y] dst s s':=by
 have ha':c.args=#[x,y]:=by rw[<-aaL (xs:=c.args),ha]
 have ht':c.argTypes=#[t,u]:=by rw[<-aaL (xs:=c.argTypes),hta]
 have hexec:∀(ρ:Operand->Value) (v:Value) (w w':World),(Builtin.copy_ #[t,u] o.type #[ρ x,ρ y]).run P w=.ok v w'->(execOp ρ o).run P w=.ok (.value v) w':=fun ρ v w w' h=>by simp only[execOp,ho,resolve,hc,ha',ht',invoke,builtin,Sem.run_bind,Sem.run_pure,Result.andThen_ok];simp[h]
 generalize hx:s.ev x=ax at h;unfold ze at h;split at h
 case h_3=>exact h.elim
 case h_1=>
  rename_i hd k' off len;obtain⟨rfl,es,ys,hl,hle,hy,hu,hone,hK⟩:=h;refine⟨_,hK,GP hl (fun G m w ρ hS hev=>?_)⟩;have hrx:=hev x (by simp);have hry:=hev y (by simp);rw[hx]at hrx;unfold AV.aq at hrx;obtain⟨_,loc,hloc,hsl⟩:=hrx;have hnd:loc≠.dead:=fun e=>by subst e;rw[hS.dead _ hloc]at hl;cases hl
  have hrowS:∀h mt k es,s.lk h=some (.row mt k es)->∃mt',s.lk h=some (.row mt' k es):=fun _ mt _ _ h=>⟨mt,h⟩;obtain⟨hlo0,vs,c2,c30,c4⟩:=zH (P:=P) hS hrowS hry hy hu (min ys.length len) (Nat.min_le_left _ _);have hu':js i.size (ys.take (min ys.length len)):=fun e he=>hu e (abZ he);have hone':qn (ys.take (min ys.length len))=true:=hone;have hL:(ys.take (min ys.length len)).length=min ys.length len:=by simp
  have same:min ys.length len=0->(s.ba hd (some (.row true i.size (es.take off++ys.take (min ys.length len)++es.drop (off+min ys.length len))))).lk=s.lk:=fun e=>by
   rw[e];funext z;rw[aQ];split
   ·rename_i e;rw[e,hl];simp
   ·rfl
  have num:∀v,v=.int .i64 (min ys.length len:Nat)->AV.aq G m (.D (.I .i64 (min ys.length len:Nat))) v:=fun v e=>by unfold AV.aq DV.aq;exact e
  have hfc:(Builtin.firstCells i.size (min ys.length len) (ρ y)).run P w=.ok vs.toArray w:=c30 w rfl;rcases hsl hnd with⟨p,hv,hlen0⟩|⟨b,sz,cap,rfl,hv,hcap,hsz⟩
  ·have h0:min ys.length len=0:=by omega
   have hvs:vs=[]:=by rw[h0]at c2;simpa using c2
   refine⟨_,w,hexec ρ (.int .i64 0) w w ?_,by rw[same h0];exact hS,Fr.refl _ _ _ _,num _ (by rw[h0];rfl)⟩;rw[h0]at hfc;rw[hvs]at hfc;have hlo:(Builtin.lenOf (ρ y)).run P w=.ok ys.length w:=hlo0 w;rw[hv];cases p with
   |none=>simp[Builtin.copy_,run_underlying ht,cO hi,hlo,hfc,goInt]
   |some p=>simp[Builtin.copy_,run_underlying ht,cO hi,hlo,hfc,goInt,storeCells]
  ·have hlo:(Builtin.lenOf (ρ y)).run P w=.ok ys.length w:=hlo0 w;have hmin:Nat.min ys.length len=min ys.length len:=rfl;obtain⟨w',h1,h2,h3⟩:=hS.part hloc hl (off:=off) (ys:=ys.take (min ys.length len)) c2 hL (by omega) (fun f o hf=>c4 G f o (Gh.le.refl G) hf)
    (Fq (c4 G _ 0 (Gh.le.refl G) (fun j _=>by rw[aan])) hone' (by rw[c2,hL])) P
   refine⟨_,w',hexec ρ (.int .i64 (min ys.length len:Nat)) w w' ?_,h2,h3,num _ rfl⟩;rw[hv];simp[Builtin.copy_,run_underlying ht,cO hi,hlo,hmin,hfc,h1,goInt]
 case h_2=>
  rename_i hd k' off len cap0;obtain⟨rfl,es,ys,hl,hle,hy,hu,hone,hK⟩:=h;refine⟨_,hK,GP hl (fun G m w ρ hS hev=>?_)⟩;have hrx:=hev x (by simp);have hry:=hev y (by simp);rw[hx]at hrx;unfold AV.aq at hrx;obtain⟨_,loc,hloc,hsl⟩:=hrx;have hnd:loc≠.dead:=fun e=>by subst e;rw[hS.dead _ hloc]at hl;cases hl
  have hrowS:∀h mt k es,s.lk h=some (.row mt k es)->∃mt',s.lk h=some (.row mt' k es):=fun _ mt _ _ h=>⟨mt,h⟩;obtain⟨hlo0,vs,c2,c30,c4⟩:=zH (P:=P) hS hrowS hry hy hu (min ys.length len) (Nat.min_le_left _ _);have hu':js i.size (ys.take (min ys.length len)):=fun e he=>hu e (abZ he);have hone':qn (ys.take (min ys.length len))=true:=hone;have hL:(ys.take (min ys.length len)).length=min ys.length len:=by simp
  have same:min ys.length len=0->(s.ba hd (some (.row true i.size (es.take off++ys.take (min ys.length len)++es.drop (off+min ys.length len))))).lk=s.lk:=fun e=>by
   rw[e];funext z;rw[aQ];split
   ·rename_i e;rw[e,hl];simp
   ·rfl
  have num:∀v,v=.int .i64 (min ys.length len:Nat)->AV.aq G m (.D (.I .i64 (min ys.length len:Nat))) v:=fun v e=>by unfold AV.aq DV.aq;exact e
  have hfc:(Builtin.firstCells i.size (min ys.length len) (ρ y)).run P w=.ok vs.toArray w:=c30 w rfl;rcases Ek (hsl hnd)with⟨p,hv,hlen0⟩|⟨b,sz,cap,rfl,hv,hcap,hsz⟩
  ·have h0:min ys.length len=0:=by omega
   have hvs:vs=[]:=by rw[h0]at c2;simpa using c2
   refine⟨_,w,hexec ρ (.int .i64 0) w w ?_,by rw[same h0];exact hS,Fr.refl _ _ _ _,num _ (by rw[h0];rfl)⟩;rw[h0]at hfc;rw[hvs]at hfc;have hlo:(Builtin.lenOf (ρ y)).run P w=.ok ys.length w:=hlo0 w;rw[hv];cases p with
   |none=>simp[Builtin.copy_,run_underlying ht,cO hi,hlo,hfc,goInt]
   |some p=>simp[Builtin.copy_,run_underlying ht,cO hi,hlo,hfc,goInt,storeCells]
  ·have hlo:(Builtin.lenOf (ρ y)).run P w=.ok ys.length w:=hlo0 w;have hmin:Nat.min ys.length len=min ys.length len:=rfl;obtain⟨w',h1,h2,h3⟩:=hS.part hloc hl (off:=off) (ys:=ys.take (min ys.length len)) c2 hL (by omega) (fun f o hf=>c4 G f o (Gh.le.refl G) hf)
    (Fq (c4 G _ 0 (Gh.le.refl G) (fun j _=>by rw[aan])) hone' (by rw[c2,hL])) P
   refine⟨_,w',hexec ρ (.int .i64 (min ys.length len:Nat)) w w' ?_,h2,h3,num _ rfl⟩;rw[hv];simp[Builtin.copy_,run_underlying ht,cO hi,hlo,hmin,hfc,h1,goInt]
end
end Go.Eng

/- Texts of this claim. -/
import Derived.Test.YtjhhgpencphgoaaDoorEA
import Derived.ChangeKeysEq
import Derived.Lib.ConvBytes
import Derived.WideLaws
import Derived.Laws.IdiomRangeMap
import Derived.Laws.MakeOwn
import Derived.RangeFuncRecord
import Derived.RangeFuncSeq
import Derived.TacticsIn
import Derived.OrdersIn
import Derived.Scope
open Array renaming getD_eq_getD_getElem?->cp,getElem!_eq_getD->i7,getElem?_eq_getElem->gm,getElem?_eq_some_iff->bx,getElem?_map->jv,getElem?_range->jg,getElem?_toList->cc,length_toList->e7,range->ig,toArray_toList->cm,toList_append->ep,toList_extract->fb,toList_inj->je,toList_map->eu
open Bool renaming and_assoc->ij,and_eq_true->μ,not_eq_true'->dh
open List renaming all_cons->iw,append_assoc->a9,append_nil->bj,drop_append->il,drop_drop->eg,drop_succ_cons->ir,drop_zero->da,exists_mem_of_ne_nil->iq,extract_eq_take_drop->f5,flatten_cons->ic,getElem?_append_left->b6,getElem?_append_right->cg,getElem?_cons_zero->fa,getElem?_drop->en,getElem?_eq_getElem->ν,getElem?_eq_none->dc,getElem?_eq_some_iff->ω,getElem?_map->τ,getElem?_of_mem->d5,getElem?_range->jn,getElem?_take_of_lt->dq,getElem?_toArray->f7,length_append->κ,length_drop->υ,length_map->ι,length_replicate->ib,map_cons->df,mem_append_left->bu,mem_append_right->bp,mem_cons->cq,mem_filter->ξ,mem_map->db,mem_of_getElem?->cf,mem_of_mem_take->ex,mem_singleton->bo,nil_append->d6,nodup_cons->eq,range->dm,replicate->br,replicate_succ->iv,size_toArray->i6,take_append_drop->fo,take_succ_cons->gb,take_take->ja,take_zero->ii
open Nat renaming add_assoc->gc,add_mul->cz,add_sub_cancel_left->cu,add_zero->e9,eq_zero_or_pos->ez,le_add_right->ge,le_mul_of_pos_right->i0,le_refl->π,le_trans->cx,lt_of_lt_of_le->d7,min_eq_left->jl,mod_lt->j0,mul_le_mul_right->c8,mul_one->dk,zero_add->bq
open Option renaming any_eq_true->ju,bind_eq_some_iff->ε,isSome_iff_exists->du,ite_none_right_eq_some->δ,map_eq_some_iff->ζ,map_some->c7
set_option linter.all false
namespace Go.Eng
open Go.RowKit
variable{w w':World}{G G':Gh}{x y:Operand}{m:HM}{e T t u yT ty src:TypeId}{k n b off sz sLen sCap B:Nat}{dst r:Option Nat}{i inf:TypeInfo}{v z:Value}{P:Program}{a:Act}{d:TypeDesc}{o:Oper}{h hd:Hd}{c:Call}{ys es:List (List DV)}{op:BinOp}{ro:ROp}{f:Nat->Option Value}{lkf:aY}{xs:List Operand}{og oh:Nat->Prop}{nd:Bool}{nbs:List Blk}{news A us:List Value}{ψ:Hd->Hd}{ρ:Operand->Value}{fs:Array Field}{bl:Blk}{ds:List Deferred}{fz:List Hd}{vs olds args:Array Value}{ps:Array (Nat×Operand)}{lo hi:Option Operand}{kn:IntKind}{R:Ending->World->Prop}{cs:List Frame}
theorem PPost.garb{lk:aY}{a:AV}(hS:Sim G m lk w)(ob:Obj)(h:AV.Rep G m a v):PPost G m lk n a [] [] w v (w.alloc ob):=
 ⟨G,m,by rw[eY,cT];exact hS.alloc ob,h,Fr.alloc _,fun _ _=>rfl,fun j _ _ hj=>by simp at hj⟩
theorem aBb{k:Nat}:∀(cs:List (List Value)) (s:Nat) (pre rest:List Value),(∀c∈cs,c.length=k)->pre.length=s*k->rest.length=cs.length*k->
  aD3 (pre++rest) ((cs.zipIdx s).map fun p=>(p.2*k,p.1))=pre++cs.flatten
 |[],s,pre,rest,_,_,hr=>by
  have:rest=[]:=by simpa using hr
  subst this;simp[aD3]
 |c::cs,s,pre,rest,hc,hp,hr=>by
  have hck:=hc c (by simp);simp only[List.zipIdx_cons,df,aD3];have e1:(pre++rest).take (s*k)=pre:=by rw[<-hp];simp
  have e2:(pre++rest).drop (s*k+c.length)=rest.drop k:=by rw[il,hp,hck,List.drop_eq_nil_of_le (by omega),d6];congr 1;omega
  rw[e1,e2];rw[aBb cs (s+1) (pre++c) (rest.drop k) (fun d hd=>hc d (by simp[hd])) (by simp[hp,hck,cz]) (by
   rw[υ,hr];simp[cz])]
  simp
section
variable{P:Program}{o:Oper}{lk:aY}{n:Nat}{ev:Operand->AV}{K:AV->List Blk->List Hd->Prop}
theorem qS{G:Gh}{m:HM}{lkf:aY}{w:World}{ρ:Operand->Value}{k:Nat}(hS:Sim G m lkf w)(hs:∀h mt k es,lk h=some (.row mt k es)->∃mt',lkf h=some (.row mt' k es)):
  ∀{xs:List Operand} {es:List (List DV)},pM lk ev k xs=some es->(∀x∈xs,AV.Rep G m (ev x) (ρ x))->
   (∀h∈dQ ev xs,(lk h).isSome=true->∀mt k es,lkf h=some (.row mt k es)->mt=false)->
   (∀x∈xs,(ρ x).cells.size=k)/\es.length=xs.length/\
   ∀(f:Nat->Option Value) (off:Nat),(∀i,i<((xs.map fun x=>(ρ x).cells.toList).flatten).length->f (off+i)=((xs.map fun x=>(ρ x).cells.toList).flatten)[i]?)->DV.rows G f k off es
 |[],es,h,_,_=>by
  unfold pM at h;cases h;exact⟨fun x hx=>by simp at hx,rfl,fun f off _=>by simp[DV.rows]⟩
 |x::xs,es,h,hev,hfz=>by
  unfold pM at h;cases h1:((ev x).cells?).bind fun cs=>AV.data (AV.convL lk (fun _=>none) cs)with
  |none=>rw[h1]at h;cases h
  |some e=>
   cases h2:pM lk ev k xs with
   |none=>rw[h1,h2]at h;cases h
   |some es'=>
    rw[h1,h2]at h;simp only at h;split at h
    case isFalse=>cases h
    rename_i hek;cases h;simp only[ε]at h1;obtain⟨cs,hcs,hd⟩:=h1;have hx:=hev x (by simp);have hrep:=(AV.Rep_cells hcs hx).1;have hrows:∀h∈AV.rowsL cs,h∈AV.rows (ev x):=fun h hh=>by
     unfold AV.cells? at hcs;split at hcs
     ·split at hcs
      ·cases hcs;rename_i e _;rw[e];unfold AV.rows;exact hh
      ·cases hcs
     ·split at hcs
      ·cases hcs;simpa[AV.rowsL]using hh
      ·cases hcs
    have hconv:=AV.convL_rep (mc:=m) (lk:=lk) (φ:=fun _=>none) hS hs (fun h h' loc hh=>by cases hh) cs _ (fun h hh mt k' es'' _ hsome hl=>hfz h (by unfold dQ;exact bu _ (hrows h hh)) hsome mt k' es'' hl) hrep;obtain⟨ih1,ih2,ih3⟩:=qS hS hs h2 (fun y hy=>hev y (by simp[hy])) (fun h hh=>hfz h (by unfold dQ;exact bp _ hh));have hlen:(ρ x).cells.size=k:=by
     have h3:=AV.RepL_length hconv;have h4:e.length=(AV.convL lk (fun _=>none) cs).length:=by
      clear h2 ih1 ih2 ih3 hconv h3 hrep hrows hfz hev hx hcs hek;generalize AV.convL lk (fun _=>none) cs=l at hd
      induction l generalizing e with
      |nil=>unfold AV.data at hd;cases hd;rfl
      |cons a l ih=>
       cases a<;>unfold AV.data at hd<;>first|cases hd|skip
       simp only[ζ]at hd;obtain⟨e',he',rfl⟩:=hd;simp[ih e' he']
     rw[<-hek,h4,h3];simp
    refine⟨fun y hy=>?_,by simp[ih2],fun f off hf=>?_⟩
    ·rcases cq.1 hy with rfl|hy
     ·exact hlen
     ·exact ih1 y hy
    ·unfold DV.rows;simp only[df,ic,κ]at hf;have hl':(ρ x).cells.toList.length=k:=by simpa using hlen
     refine⟨hek,AV.Rep_data hconv hd f off (fun j hj=>?_),ih3 f (off+k) (fun i hi=>?_)⟩
     ·rw[hf j (by omega),b6 hj]
     ·have:=hf (k+i) (by omega);rw[cg (by omega),hl',cu]at this;rw[gc];exact this
theorem aRo{T:Nat}(ho:o.op=.buildSlice T k ps)(hr:aA P o=some ro)(h:aQ P lk n ev ro K):PS P o ro lk n ev K:=by
 simp only[aA,ho]at hr;split at hr
 case h_2=>cases hr
 rename_i e hT;simp only[ε]at hr;obtain⟨i,hi,hr⟩:=hr;split at hr
 case isFalse=>cases hr
 rename_i hc;cases hr;simp only[μ,beq_iff_eq,decide_eq_true_eq]at hc;obtain⟨⟨⟨hc1,hc2⟩,hc3⟩,hc4⟩:=hc;obtain⟨z,hz⟩:=du.1 hc4;have hk:k=ps.size:=by have:=congrArg List.length hc1;simpa using this.symm
 have h':(if ps.toList.map (·.2)=[]then K (.fl []) [] []else∃es,pM lk ev i.size (ps.toList.map (·.2))=some es/\K (.sl (.O n) i.size 0 (ps.toList.map (·.2)).length) [.row true i.size es] (fzL lk (dQ ev (ps.toList.map (·.2))))):=h;clear h;split at h'
 ·
  rename_i hnil;have hps:ps=#[]:=by
   have:ps.toList=[]:=by simpa using hnil
   rw[<-cm (xs:=ps),this]
  subst hps;have hk0:k=0:=by simpa using hk
  subst hk0;refine⟨_,_,_,h',by first|exact fun _=>⟨rfl,rfl⟩|(intro hh;cases hh),(by intro h hh;first|(cases hh;done)|exact(ξ.1 hh).2|(split at hh<;>first|exact(ξ.1 hh).2|cases hh)),fun G m w ρ _ lk2 hls hS hev _=>?_⟩;refine Does.val (v:=.slice (some ⟨w.heap.size,0,none⟩) 0 0) (w':=w.alloc (.cells #[] e)) ?_ (PPost.garb hS _ ?_)
  ·simp[execOp,ho,Instr.buildSlice,run_underlying hT,bK hi,Instr.fill,newRow,Array.range_zero']
  ·unfold AV.Rep;refine⟨?_,_,rfl⟩;unfold DV.Rep;exact⟨_,0,rfl,by simp,fun _=>rfl,fun h=>absurd rfl h⟩
 ·rename_i hne;obtain⟨es,hes,hK⟩:=h';refine⟨_,_,_,hK,by first|exact fun _=>⟨rfl,rfl⟩|(intro hh;cases hh),(by intro h hh;first|(cases hh;done)|exact(ξ.1 hh).2|(split at hh<;>first|exact(ξ.1 hh).2|cases hh)),fun G m w ρ _ lk2 hls hS hev hn=>?_⟩;have hzc:∀x∈ps.toList.map (·.2),AV.Rep G m (ev x) (ρ x):=fun x hx=>hev x (by simpa[ROp.operands]using hx);have hkpos:0<k:=by
   rw[hk];rcases ez ps.size with h0|h0
   ·exfalso;apply hne;have:ps=#[]:=by simpa using h0
    subst this;rfl
   ·exact h0
  let css:List (List Value):=(ps.toList.map (·.2)).map fun x=>(ρ x).cells.toList;have hsize:∀x∈ps.toList.map (·.2),(ρ x).cells.size=i.size:=by
   obtain⟨G1,hS1,hle1,_⟩:=hS.freeze (fzL lk (dQ ev (ps.toList.map (·.2))));exact(qS (ρ:=ρ) hS1 (fun h mt k es hh=>by
    obtain⟨mt',h2⟩:=(hls rfl).row h mt k es hh;unfold lkF;split
    ·exact⟨false,by rw[h2];rfl⟩
    ·exact⟨mt',h2⟩) hes (fun x hx=>AV.Rep.mono hle1 (HM.le.refl m) _ _ (hzc x hx)) (fun h hh hsome mt k es hrow=>by
    unfold lkF at hrow;rw[if_pos (vM hh hsome)]at hrow;cases hx:lk2 h with
    |none=>rw[hx]at hrow;cases hrow
    |some bl=>
     rw[hx]at hrow;cases bl with
     |box cs=>cases hrow
     |row mt' k' es'=>cases hrow;rfl
     |nst _ _=>cases hrow
     |sb _ _ _=>cases hrow
     |mp _ _ _=>cases hrow
     |it=>cases hrow)).1
  have hzs:(ig (k*i.size)).map (z.cells[· %z.cells.size]!)=((ig (k*i.size)).map (z.cells[· %z.cells.size]!)):=rfl;let base:Array Value:=(ig (k*i.size)).map (z.cells[· %z.cells.size]!);have hbase:base.toList.length=k*i.size:=by simp[base]
  let rs:List (Nat×List Value):=(css.zipIdx 0).map fun p=>(p.2*i.size,p.1);have hcssl:css.length=k:=by simp[css,hk]
  have hparts:∀(j i':Nat) (v:Value),(ps.map fun(i,x)=>(i,ρ x)).toList[j]?=some (i',v)->i'=j/\j<k/\css[j]?=some v.cells.toList/\v.cells.size=i.size:=fun j i' v hj=>by
   rw[eu,τ]at hj;cases hx:ps.toList[j]?with
   |none=>rw[hx]at hj;cases hj
   |some p=>
    rw[hx]at hj;obtain⟨i2,x⟩:=p;simp only[c7,Option.some.injEq,Prod.mk.injEq]at hj;obtain⟨rfl,rfl⟩:=hj;have hlt:=(ω.1 hx).1;have h1:(dm k)[j]?=some i2:=by rw[<-hc1,τ,hx];rfl
    have hlt':j<k:=by rw[hk];simpa using hlt
    rw[jn hlt']at h1;cases h1;refine⟨rfl,hlt',by simp[css,hx],hsize x ?_⟩;exact db.2 ⟨_,cf hx,rfl⟩
  obtain⟨out,ho1,ho2⟩:=tV (fun j=>some (j*i.size,i.size)) (ps.map fun(i,x)=>(i,ρ x)).toList base rs (by simp[rs,hcssl,hk]) (fun j i' v hj=>by
   obtain⟨rfl,h1,h2,h3⟩:=hparts j i' v hj;refine⟨i'*i.size,?_,by rw[h3],?_⟩
   ·simp[rs,List.getElem?_zipIdx,h2]
   ·rw[h3];have:base.size=k*i.size:=by simpa using hbase
    rw[this,<-Nat.succ_mul];exact c8 _ h1)
  have hout:out.toList=css.flatten:=by
   rw[ho2];have:=aBb (k:=i.size) css 0 [] base.toList (fun c hc=>by
    simp only[css,db]at hc;obtain⟨x,hx,rfl⟩:=hc;simpa using hsize x (db.2 hx)) (by simp) (by rw[hbase,hcssl])
   simpa[rs]using this
  refine Does.val (v:=.slice (some ⟨w.heap.size,0,none⟩) k k) (w':=w.alloc (.cells out e)) ?_ ?_
  ·have hnz:¬(k*i.size=0):=by have:=Nat.mul_pos hkpos hc3;omega
   have hle:¬(16777216<k*i.size):=by omega
   have ho1':Instr.fill (fun j=>some (j*i.size,i.size)) ((ig (k*i.size)).map (z.cells[· %z.cells.size]!)) (ps.map fun(i,x)=>(i,ρ x)).toList=some out:=ho1;simp only[execOp,ho,Instr.buildSlice,Sem.run_bind,run_underlying hT,bK hi,Result.andThen_ok];simp only[show(2:Nat)^24=16777216 from rfl,hle,hnz,if_false,Sem.run_bind,kQ hi hz,Result.andThen_ok,Sem.run_pure,ho1'];simp[newRow]
  ·refine PPost.of_frz hS (fun G1 hle1 hS1=>?_);have hlkf:∀h mt k es,lk h=some (.row mt k es)->∃mt',lkF lk2 (fzL lk (dQ ev (ps.toList.map (·.2)))) h=some (.row mt' k es):=fun h mt k es hh=>by
    obtain⟨mt',h2⟩:=(hls rfl).row h mt k es hh;unfold lkF;split
    ·exact⟨false,by rw[h2];rfl⟩
    ·exact⟨mt',h2⟩
   have hfz:∀h∈dQ ev (ps.toList.map (·.2)),(lk h).isSome=true->∀mt k es,lkF lk2 (fzL lk (dQ ev (ps.toList.map (·.2)))) h=some (.row mt k es)->mt=false:=fun h hh hsome mt k es hrow=>by
    unfold lkF at hrow;rw[if_pos (vM hh hsome)]at hrow;cases hx:lk2 h with
    |none=>rw[hx]at hrow;cases hrow
    |some bl=>
     rw[hx]at hrow;cases bl with
     |box cs=>cases hrow
     |row mt' k' es'=>cases hrow;rfl
     |nst _ _=>cases hrow
     |sb _ _ _=>cases hrow
     |mp _ _ _=>cases hrow
     |it=>cases hrow
   obtain⟨_,hel,hrows⟩:=qS (ρ:=ρ) hS1 hlkf hes (fun x hx=>AV.Rep.mono hle1 (HM.le.refl m) _ _ (hzc x hx)) hfz;have hosz:out.size=k*i.size:=by
    have h1:out.toList.length=(css.flatten).length:=by rw[hout]
    have h2:(css.flatten).length=css.length*i.size:=by
     have:∀(l:List (List Value)),(∀c∈l,c.length=i.size)->l.flatten.length=l.length*i.size:=fun l=>by
      induction l with
      |nil=>simp
      |cons c l ih=>intro hl;simp[ih (fun d hd=>hl d (by simp[hd])),hl c (by simp),cz];omega
     exact this css (fun c hc=>by
      simp only[css,db]at hc;obtain⟨x,hx,rfl⟩:=hc;simpa using hsize x (db.2 hx))
    rw[h2,hcssl]at h1;simpa using h1
   refine PPost.new hS1 (by simpa using hn 0 (by simp)) _ _ _ (fun m' hm'=>?_) (fun m' hm' hmn=>?_)
   ·unfold BlkRep;refine⟨out,e,heap_alloc_new w _,rfl,?_,hrows _ 0 (fun j hj=>?_),fun o=>qT hS1 (π _) o⟩
    ·rw[hel,hosz,hk];simp
    ·rw[bq,<-cc,hout]
   ·unfold AV.Rep;refine⟨rfl,_,hmn,fun _=>.inr ⟨_,_,k,rfl,?_,?_,?_⟩⟩
    ·simp[hk]
    ·simp[hk]
    ·rw[hosz];simp
theorem aBf{G:Gh}{f:Nat->Option Value}{k:Nat}:∀{es:List (List DV)} {o:Nat},DV.rows G f k o es->∃vs:List Value,vs.length=es.length*k/\∀j,j<vs.length->f (o+j)=vs[j]?
 |[],_,_=>⟨[],by simp,fun j hj=>by simp at hj⟩
 |e::es,o,q=>by
  unfold DV.rows at q;obtain⟨us,h1,h2⟩:=rK q.2.1;obtain⟨vs,h3,h4⟩:=aBf q.2.2;have hus:us.length=k:=by rw[h1];exact q.1
  refine⟨us++vs,by simp[h3,hus,cz];omega,fun j hj=>?_⟩;by_cases hlt:j<us.length
  ·rw[h2 j hlt,b6 hlt]
  ·have:=h4 (j-k) (by simp at hj;omega);rw[cg (by omega),hus,<-this];congr 1;omega
theorem cZ(hS:Sim G m lkf w)(hs:∀h mt k es,lk h=some (.row mt k es)->∃mt',lkf h=some (.row mt' k es)){y:AV}
  (hr:AV.Rep G m y v) (hy:AV.content lk y=some ys) (hu:Uni k ys):
  (∀w1:World,(Builtin.lenOf v).run P w1=.ok ys.length w1)/\
  ∃(vs:List Value),vs.length=ys.length*k/\(∀w1:World,w1.heap=w.heap->(Builtin.firstCells k ys.length v).run P w1=.ok vs.toArray w1)/\
   ∀(G':Gh) (f:Nat->Option Value) (o:Nat),Gh.le G G'->(∀i,i<vs.length->f (o+i)=vs[i]?)->DV.rows G' f k o ys:=by
 have hk':∀{G':Gh} {f:Nat->Option Value} {k' o:Nat},DV.rows G' f k' o ys->ys≠[]->k'=k:=fun h hne=>by obtain⟨e,he⟩:=iq ys hne;rw[<-hu e he];exact(DV.rows_lengths h e he).symm
 have main:∀(f:Nat->Option Value) (b off cap:Nat),v=.slice (some ⟨b,off,none⟩) ys.length cap->DV.rows G f k off ys->(∀o u,f o=some u->w.cell? ⟨b,o,none⟩=some u)->
   (∀w1:World,(Builtin.lenOf v).run P w1=.ok ys.length w1)/\
   ∃(vs:List Value),vs.length=ys.length*k/\(∀w1:World,w1.heap=w.heap->(Builtin.firstCells k ys.length v).run P w1=.ok vs.toArray w1)/\
   ∀(G':Gh) (f:Nat->Option Value) (o:Nat),Gh.le G G'->(∀i,i<vs.length->f (o+i)=vs[i]?)->DV.rows G' f k o ys:=fun f b off cap hv hrows hf=>by
  obtain⟨vs,h1,h2⟩:=aBf hrows;refine⟨fun w1=>by rw[hv];simp[Builtin.lenOf],vs,h1,fun w1 hw1=>?_,fun G' g o hG hg=>?_⟩
  ·rw[hv];refine run_firstCells_some w1 k ys.length ⟨b,off,none⟩ _ _ vs h1 (fun j u hj=>?_);have hlt:=(ω.1 hj).1;rw[Addr.add_lit];have:=hf (off+j) u (by rw[h2 j hlt];exact hj);simpa[World.cell?,hw1]using this
  ·refine DV.rows.mono hG (fun _ _ h=>h) _ _ _ (DV.rows_congr (fun i hi=>?_) hrows);rw[hg i (by rw[h1];exact hi),h2 i (by rw[h1];exact hi)]
 have nil:ys=[]->(∃a cap,v=.slice a 0 cap)->(∀w1:World,(Builtin.lenOf v).run P w1=.ok ys.length w1)/\
   ∃(vs:List Value),vs.length=ys.length*k/\(∀w1:World,w1.heap=w.heap->(Builtin.firstCells k ys.length v).run P w1=.ok vs.toArray w1)/\
   ∀(G':Gh) (f:Nat->Option Value) (o:Nat),Gh.le G G'->(∀i,i<vs.length->f (o+i)=vs[i]?)->DV.rows G' f k o ys:=fun e hv=>by
  obtain⟨a,cap,hv⟩:=hv;subst e;refine⟨fun w1=>by rw[hv];simp[Builtin.lenOf],[],by simp,fun w1 _=>?_,fun _ _ _ _ _=>by simp[DV.rows]⟩;rw[hv];cases a with
  |none=>simp[Builtin.firstCells]
  |some a=>simp[Builtin.firstCells,loadCells,loadCellsFrom]
 unfold AV.content at hy;split at hy
 ·cases hy;obtain⟨a,cap,hv,hcap,_,hne⟩:=yD hr;by_cases hes:ys=[]
  ·exact nil hes ⟨a,cap,by rw[hv,hes];rfl⟩
  ·obtain⟨b,off,k',rfl,hrows⟩:=hne hes;have:=hk' hrows hes;subst this;exact main _ b off cap hv hrows (fun o u h=>hS.gh b o u h)
 ·cases hy;unfold AV.Rep at hr;obtain⟨a,cap,hv,hcap,_,hne⟩:=yD (m:=m) (by unfold AV.Rep;exact hr.1);by_cases hes:ys=[]
  ·exact nil hes ⟨a,cap,by rw[hv,hes];rfl⟩
  ·obtain⟨b,off,k',rfl,hrows⟩:=hne hes;have:=hk' hrows hes;subst this;exact main _ b off cap hv hrows (fun o u h=>hS.gh b o u h)
 ·rename_i h k1 off len;split at hy
  case h_2=>cases hy
  rename_i mt k2 es hl;split at hy
  case isFalse=>cases hy
  rename_i hc;cases hy;obtain⟨rfl,hle⟩:=hc;obtain⟨mt',hl'⟩:=hs _ _ _ _ hl;have hL:((es.drop off).take len).length=len:=by simp;omega
  unfold AV.Rep at hr;obtain⟨_,loc,hloc,hsl⟩:=hr;have hnd:loc≠.dead:=fun e=>by subst e;rw[hS.dead _ hloc]at hl';cases hl'
  rcases hsl hnd with⟨p,hv,rfl⟩|⟨b,sz,cap,rfl,hv,hcap,hsz⟩
  ·exact nil (by simp) ⟨p,0,hv⟩
  ·obtain⟨bl,hl3,hb⟩:=hS.blk _ _ _ hloc;rw[hl']at hl3;cases hl3;obtain⟨f,hrow,hf,_⟩:=mV hb hS.gh;have hrow2:=DV.rows_take len (DV.rows_drop off hrow);rw[bq]at hrow2;by_cases hes:(es.drop off).take len=[]
   ·have:len=0:=by rw[<-hL,hes];rfl
    subst this;exact nil hes ⟨_,cap,hv⟩
   ·have:=hk' hrow2 hes;subst this;exact main f b _ cap (by rw[hL];exact hv) hrow2 hf
 ·rename_i h k1 off len cap0;split at hy
  case h_2=>cases hy
  rename_i mt k2 es hl;split at hy
  case isFalse=>cases hy
  rename_i hc;cases hy;obtain⟨rfl,hle⟩:=hc;obtain⟨mt',hl'⟩:=hs _ _ _ _ hl;have hL:((es.drop off).take len).length=len:=by simp;omega
  unfold AV.Rep at hr;obtain⟨_,loc,hloc,hsl⟩:=hr;have hnd:loc≠.dead:=fun e=>by subst e;rw[hS.dead _ hloc]at hl';cases hl'
  rcases aIi (hsl hnd)with⟨p,hv,rfl⟩|⟨b,sz,cap,rfl,hv,hcap,hsz⟩
  ·exact nil (by simp) ⟨p,0,hv⟩
  ·obtain⟨bl,hl3,hb⟩:=hS.blk _ _ _ hloc;rw[hl']at hl3;cases hl3;obtain⟨f,hrow,hf,_⟩:=mV hb hS.gh;have hrow2:=DV.rows_take len (DV.rows_drop off hrow);rw[bq]at hrow2;by_cases hes:(es.drop off).take len=[]
   ·have:len=0:=by rw[<-hL,hes];rfl
    subst this;exact nil hes ⟨_,cap,hv⟩
   ·have:=hk' hrow2 hes;subst this;exact main f b _ cap (by rw[hL];exact hv) hrow2 hf
 ·rename_i t;cases hy;have hv:=aF6 hr;by_cases ht:t=[]
  ·subst ht;refine⟨fun w1=>by rw[hv];simp[Builtin.lenOf,ByteArray.size],[],by simp,fun w1 _=>?_,fun _ _ _ _ _=>by simp[DV.rows]⟩;rw[hv];simp[Builtin.firstCells]
  ·have hk1:k=1:=by obtain⟨c,hc⟩:=iq t ht;exact(hu [.I .u8 c.toNat] (db.2 ⟨c,hc,rfl⟩)).symm
   subst hk1;refine⟨fun w1=>by rw[hv];simp[Builtin.lenOf,ByteArray.size],t.map (fun c=>.int .u8 c.toNat),by simp,fun w1 _=>?_,fun G' f o _ hf=>?_⟩
   ·rw[hv];simp only[Builtin.firstCells,ι,Sem.run_pure];congr 1;apply Array.ext';rw[eu,ByteArray.data_extract,fb];simp[f5]
   ·clear hr hv ht hu nil main hk'
    induction t generalizing o with
    |nil=>simp[DV.rows]
    |cons c t ih=>
     simp only[df];unfold DV.rows;refine⟨rfl,?_,ih (o+1) (fun i hi=>?_)⟩
     ·unfold DV.cells;refine⟨⟨.int .u8 c.toNat,by have:=hf 0 (by simp);simpa using this,by unfold DV.Rep;rfl⟩,by simp[DV.cells]⟩
     ·have:=hf (i+1) (by simpa using hi);rw[show o+1+i=o+(i+1) by omega,this];simp
 ·cases hy
end
section
variable{P:Program}{o:Oper}{lk:aY}{n:Nat}{ev:Operand->AV}{K:AV->List Blk->List Hd->Prop}
theorem qI(ht:P.underlying t=some (.slice e))(hu:P.underlying u=some d)(hd:d=.string\/∃e',d=.slice e')(hi:P.info? e=some i)(hz:i.zero=some z)
 {s x:Value} {a:Option Addr} {m:Nat} {news:Array Value} (hs:s=.slice a sLen sCap) (hlen:∀w1:World,(Builtin.lenOf x).run P w1=.ok m w1)
  (holds:(Builtin.firstCells i.size sLen s).run P w.drew=.ok olds w.drew) (hnews:(Builtin.firstCells i.size m x).run P w.drew=.ok news w.drew)
  (hg:sCap<sLen+m) (hb:(sLen+m)*i.bytes<=140737488355328) (h63:((sLen+m:Nat):Int)<=9223372036854775807):
  ∃ rest:Array Value,(Builtin.append_ #[t,u] ty #[s,x]).run P w=.ok (.slice (some ⟨w.heap.size,0,none⟩) (sLen + m) (grownCap w (sLen + m) sCap e))
    (w.drew.alloc (.cells (olds++news++rest) e))/\rest.size=(grownCap w (sLen+m) sCap e-(sLen+m))*z.cells.size:=by
 refine⟨Builtin.zeroCells z.cells (grownCap w (sLen+m) sCap e-(sLen+m)),?_,size_zeroCells _ _⟩;have hfit:=growslice_fits (bytes:=i.bytes) hg hb;have hn:¬(sLen+m<=sCap):=by omega
 have h63':¬(((sLen+m:Nat):Int)>IntKind.i64.max):=by rw[IntKind.max_i64];omega
 have h48':¬(Builtin.nextslicecap (sLen+m) sCap*i.bytes>2^48):=by rw[show(2:Nat)^48=281474976710656 from rfl];omega
 subst hs;have h63'':¬(9223372036854775807<(sLen:Int)+(m:Int)/\i.bytes=0):=fun h=>by omega
 have h48'':¬(281474976710656<Builtin.nextslicecap (sLen+m) sCap*i.bytes):=by omega
 rcases hd with rfl|⟨e',rfl⟩
 ·simp[Builtin.append_,sizeOf,typeInfo,zeroValue,run_underlying ht,run_underlying hu,hi,hz,hlen,Question.forced,newRow,grownCap];rw[if_neg hn,if_neg h63'',if_neg h48'',holds];simp[hnews]
 ·simp[Builtin.append_,sizeOf,typeInfo,zeroValue,run_underlying ht,run_underlying hu,hi,hz,hlen,Question.forced,newRow,grownCap];rw[if_neg hn,if_neg h63'',if_neg h48'',holds];simp[hnews]
theorem lY(ht:P.underlying t=some (.slice e))(hu:P.underlying u=some d)(hd:d=.string\/∃e',d=.slice e')(hi:P.info? e=some i)
 {x:Value} {a:Option Addr} (hlen:∀w1:World,(Builtin.lenOf x).run P w1=.ok 0 w1) (hnews:(Builtin.firstCells i.size 0 x).run P w=.ok #[] w) (hle:sLen<=sCap):
  (Builtin.append_ #[t,u] ty #[.slice a sLen sCap,x]).run P w=.ok (.slice a sLen sCap) w:=by
 rcases hd with rfl|⟨e',rfl⟩
 ·simp[Builtin.append_,sizeOf,typeInfo,run_underlying ht,run_underlying hu,hi,hlen,hle,hnews];cases a<;>simp[storeCells]
 ·simp[Builtin.append_,sizeOf,typeInfo,run_underlying ht,run_underlying hu,hi,hlen,hle,hnews];cases a<;>simp[storeCells]
theorem Sim.nilRowL{lk:aY}{n:Nat}(hS:Sim G m lk w)(hn:m (.O n)=none)(k:Nat):Sim G (aL m (.O n) .none) (lkN lk n [.row true k []]) w:=by
 have hlk:∀x,lkN lk n [.row true k []] x=if x=.O n then some (.row true k [])else lk x:=fun x=>by
  unfold lkN;cases x with
  |B j=>simp
  |O j=>
   by_cases e:j=n
   ·subst e;simp
   ·have e1:¬(n<=j/\j<n+[Blk.row true k []].length):=by simp;omega
    simp only[e1,if_false,Hd.O.injEq,e]
 have hle:HM.le m (aL m (.O n) .none):=fun x loc hx=>by
  unfold aL;by_cases e:x=.O n
  ·rw[e,hn]at hx;cases hx
  ·rw[if_neg e];exact .inl (.inl hx)
 have get:∀{x loc},aL m (.O n) .none x=some loc->(x=.O n/\loc=.none)\/(x≠.O n/\m x=some loc):=fun{x loc} hx=>by
  unfold aL at hx;split at hx
  ·cases hx;exact .inl ⟨‹_›,rfl⟩
  ·exact .inr ⟨‹_›,hx⟩
 refine⟨fun x b sz hx=>?_,fun x hx=>?_,fun x y b l l' hx hy hb hb'=>?_,hS.gh,fun x hx=>?_,hS.gl,fun x b sz fp hx=>?_⟩
 ·rcases get hx with⟨_,h⟩|⟨e,h⟩
  ·cases h
  ·obtain⟨bl,h1,h2⟩:=hS.blk x b sz h;exact⟨bl,by rw[hlk,if_neg e];exact h1,h2.mono (Gh.le.refl G) hle (fun _=>rfl) rfl⟩
 ·rcases get hx with⟨e,_⟩|⟨e,h⟩
  ·exact⟨true,k,by rw[hlk,if_pos e]⟩
  ·obtain⟨mt,k',h1⟩:=hS.nil x h;exact⟨mt,k',by rw[hlk,if_neg e];exact h1⟩
 ·rcases get hx with⟨_,rfl⟩|⟨_,h⟩
  ·cases hb
  ·rcases get hy with⟨_,rfl⟩|⟨_,h'⟩
   ·cases hb'
   ·exact hS.injG x y _ _ _ h h' hb hb'
 ·rcases get hx with⟨_,h⟩|⟨e,h⟩
  ·cases h
  ·rw[hlk,if_neg e];exact hS.dead x h
 ·rcases get hx with⟨_,h⟩|⟨e,h⟩
  ·cases h
  ·obtain⟨bl,h1,h2⟩:=hS.blkx x b sz fp h;exact⟨bl,by rw[hlk,if_neg e];exact h1,h2.mono (Gh.le.refl G) hle (fun _ _ _=>rfl) (fun _ _=>rfl) (KeepIt.refl _ _)⟩
theorem aNc(ho:o.op=.call c)(hc:c.callee=.builtin .append)(ha:c.args.toList=[x,y])(hta:c.argTypes.toList=[t,u])
  (ht:P.underlying t=some (.slice e)) (hu:P.underlying u=some d) (hd:d=.string\/∃e',d=.slice e') (hi:P.info? e=some i) (hz:i.zero.any (fun z=>z.cells.size==i.size)=true) (hbytes:0<i.bytes)
  (h:aQ P lk n ev (.app i.size i.bytes x y) K):PS P o (.app i.size i.bytes x y) lk n ev K:=by
 obtain⟨z,hz,hz'⟩:=(ju _ _).1 hz;have hz':z.cells.size=i.size:=by simpa using hz'
 obtain⟨es,hx,ys,hy,hu1,hu2,hb,h⟩:=h;have ha':c.args=#[x,y]:=by rw[<-cm (xs:=c.args),ha]
 have ht':c.argTypes=#[t,u]:=by rw[<-cm (xs:=c.argTypes),hta]
 have hexec:∀(ρ:Operand->Value) (v:Value) (w w':World),(Builtin.append_ #[t,u] o.type #[ρ x,ρ y]).run P w=.ok v w'->(execOp ρ o).run P w=.ok (.value v) w':=fun ρ v w w' h=>by simp only[execOp,ho,resolve,hc,ha',ht',invoke,builtin,Sem.run_bind,Sem.run_pure,Result.andThen_ok];simp[h]
 split at h
 ·
  rename_i hnil;obtain⟨hnil,_⟩:=hnil;refine⟨_,_,_,h,by first|exact fun _=>⟨rfl,rfl⟩|(intro hh;cases hh),(by intro h hh;first|(cases hh;done)|exact(ξ.1 hh).2|(split at hh<;>first|exact(ξ.1 hh).2|cases hh)),fun G m w ρ _ lk2 hls hS hev _=>?_⟩;have hrx:=evr hev hx (by simp[ROp.operands]);have hry:=hev y (by simp[ROp.operands]);obtain⟨c1,vs,c2,c3,c4⟩:=cZ (P:=P) hS (hls rfl).row hry hy hu2;subst hnil;have hvs:vs=[]:=by simpa using c2
  subst hvs;have hrx':=hrx;unfold AV.Rep at hrx';obtain⟨_,a,hv⟩:=hrx';refine Does.val (hexec ρ (ρ x) w w ?_) (PPost.val hS hrx);rw[hv];exact lY ht hu hd hi (by simpa using c1) (by simpa using c3 w rfl) (π _)
 ·rename_i hne0;by_cases hys:ys=[]
  ·have hes:es=[]:=Decidable.byContradiction fun q=>hne0 ⟨hys,q⟩;subst hys hes;refine⟨_,_,_,h,by first|exact fun _=>⟨rfl,rfl⟩|(intro hh;cases hh),(by intro h hh;first|(cases hh;done)|exact(ξ.1 hh).2|(split at hh<;>first|exact(ξ.1 hh).2|cases hh)),fun G m w ρ _ lk2 hls hS hev hn=>?_⟩;have hrx:=evr hev hx (by simp[ROp.operands]);have hry:=hev y (by simp[ROp.operands]);obtain⟨c1,vs,c2,c3,c4⟩:=cZ (P:=P) hS (hls rfl).row hry hy hu2;have hvs:vs=[]:=by simpa using c2
   subst hvs;unfold AV.Rep at hrx;obtain⟨_,a,hv⟩:=hrx;have hn0:m (.O n)=none:=by simpa using hn 0 (by simp)
   refine Does.val (hexec ρ (ρ x) w w ?_) (PPost.of_frz hS (fun G1 hle1 hS1=>?_))
   ·rw[hv];exact lY ht hu hd hi (by simpa using c1) (by simpa using c3 w rfl) (π _)
   ·refine⟨G1,aL m (.O n) .none,by rw[cT];exact hS1.nilRowL hn0 _,?_,Fr.refl _ _ _ _,fun hd hhd=>?_,fun j b sz hj he hbl=>?_⟩
    ·rw[hv];unfold AV.Rep;exact⟨rfl,.none,by unfold aL;rw[if_pos rfl],fun _=>.inl ⟨a,rfl,rfl⟩⟩
    ·unfold aL;rw[if_neg (by simpa using hhd 0 (by simp))]
    ·have hj0:j=0:=by simpa using hj
     subst hj0;unfold aL at he;rw[if_pos (by simp)]at he;cases he;cases hbl
  have hne:=hys;refine⟨_,_,_,h,by first|exact fun _=>⟨rfl,rfl⟩|(intro hh;cases hh),(by intro h hh;first|(cases hh;done)|exact(ξ.1 hh).2|(split at hh<;>first|exact(ξ.1 hh).2|cases hh)),fun G m w ρ _ lk2 hls hS hev hn=>?_⟩;have hrx:=evr hev hx (by simp[ROp.operands]);have hry:=hev y (by simp[ROp.operands]);have hrx':=hrx;unfold AV.Rep at hrx';obtain⟨hL,a,hv⟩:=hrx';obtain⟨_,os,o2,o3,o4⟩:=cZ (P:=P) (lk:=lk) (y:=.fl es) hS (hls rfl).row hrx (by unfold AV.content;rfl) hu1;obtain⟨c1,vs,c2,c3,c4⟩:=cZ (P:=P) hS (hls rfl).row hry hy hu2;have hpos2:0<ys.length:=List.length_pos_iff.2 hne;have hfits:es.length+ys.length<=9223372036854775807:=by have:=i0 (es.length+ys.length) hbytes;omega
  obtain⟨rest,hrun,hrest⟩:=qI (ty:=o.type) ht hu hd hi hz hv c1 (o3 w.drew rfl) (c3 w.drew rfl) (by omega) hb (by omega);refine Does.val (hexec ρ _ w _ hrun) ?_;refine PPost.of_drew (PPost.of_frz hS.drew (fun G1 hle1 hS1=>?_));have hge:=grownCap_ge w (es.length+ys.length) es.length e;have hsz:(os.toArray++vs.toArray++rest).size=grownCap w (es.length+ys.length) es.length e*i.size:=by simp only[Array.size_append,i6,o2,c2,hrest,hz'];rw[<-cz,<-cz];congr 1;omega
  refine PPost.new hS1 (by simpa using hn 0 (by simp)) _ _ _ (fun m' hm'=>?_) (fun m' hm' hmn=>?_)
  ·unfold BlkRep;refine⟨_,e,heap_alloc_new _ _,rfl,?_,?_,fun o=>qT hS1 (π _) o⟩
   ·rw[hsz,κ];exact c8 _ hge
   ·refine DV.rows_append (o4 G1 _ 0 hle1 (fun j hj=>?_)) (c4 G1 _ _ hle1 (fun j hj=>?_))
    ·rw[bq,<-cc];simp only[ep];rw[a9,b6 (by simpa using hj)]
    ·rw[<-cc];simp only[ep];rw[a9,cg (by simp[o2]),b6 (by simp[o2];omega)];congr 1;simp[o2]
  ·unfold AV.Rep;refine⟨rfl,_,hmn,fun _=>.inr ⟨_,_,grownCap w (es.length+ys.length) es.length e,rfl,?_,hge,?_⟩⟩
   ·simp
   ·rw[hsz];simp
theorem yR(w:World){G:Gh}{m:HM}(dep:Nat)(xs ys:Array Value):∀(fs:List Field) (j:Nat) (kds:List Nat) (as bs:List AV) (b:Bool),gR P fs j=some kds->
  AV.RepL G m as (xs.toList.drop j)->AV.RepL G m bs (ys.toList.drop j)->hZ kds as bs=some b->(Op.eqFields (dep+1) xs ys fs).run P w=.ok b w
 |[],j,kds,as,bs,b,hp,ha,hb,h=>by
  unfold gR at hp;cases hp;cases as<;>cases bs<;>simp[hZ]at h;subst h;simp[Op.eqFields]
 |f::fs,j,kds,as,bs,b,hp,ha,hb,h=>by
  unfold gR at hp;split at hp
  case isFalse=>cases hp
  rename_i hf;obtain⟨hname,hoff⟩:=hf;cases hr:gR P fs (j+1)with
  |none=>rw[hr]at hp;split at hp<;>simp_all
  |some r=>
   rw[hr]at hp;have key:∀(kd:Nat) (d:TypeDesc),P.underlying f.type=some d->(match d with|.bool=>kd=0|.int _=>kd=1|.string=>kd=2|_=>False)->kds=kd::r->(Op.eqFields (dep+1) xs ys (f::fs)).run P w=.ok b w:=fun kd d hd hk hkds=>by
    subst hkds
    match as,bs,h with
    |.D x::as,.D y::bs,h=>
     unfold hZ at h;cases h1:DV.same kd x y with
     |none=>rw[h1]at h;simp at h
     |some p=>
      cases h2:hZ r as bs with
      |none=>rw[h1,h2]at h;simp at h
      |some q=>
       rw[h1,h2]at h;simp only[Option.some.injEq]at h;unfold AV.RepL at ha hb;obtain⟨u,us,ha1,ha2,ha3⟩:=ha;obtain⟨v,vs,hb1,hb2,hb3⟩:=hb;have hxu:xs[j]?=some u:=by have:=congrArg (·[0]?) ha1;simpa using this
       have hyv:ys[j]?=some v:=by have:=congrArg (·[0]?) hb1;simpa using this
       have hus:xs.toList.drop (j+1)=us:=by rw[<-eg,ha1];rfl
       have hvs:ys.toList.drop (j+1)=vs:=by rw[<-eg,hb1];rfl
       have hagg:aX d=false:=by cases d<;>first|rfl|exact hk.elim
       have hpart:∀(zs:Array Value) (v:Value),zs[j]?=some v->(part f.type zs f.offset).run P w=.ok v w:=fun zs v hz=>by simp[part,dP hd,hagg,hoff,hz]
       have heq:(Op.equalIn (dep+1) f.type u v).run P w=.ok p w:=by
        unfold AV.Rep at ha2 hb2;cases x<;>cases y<;>simp[DV.same]at h1
        ·unfold DV.Rep at ha2 hb2;obtain⟨rfl,rfl⟩:=h1;subst ha2;subst hb2;cases d<;>simp at hk;exact run_equalIn_bool' w dep f.type _ _ hd
        ·unfold DV.Rep at ha2 hb2;obtain⟨⟨rfl,rfl⟩,rfl⟩:=h1;subst ha2;subst hb2;cases d<;>simp at hk;exact run_equalIn_int w dep f.type _ _ _ _ hd
        ·unfold DV.Rep at ha2 hb2;obtain⟨rfl,rfl⟩:=h1;subst ha2;subst hb2;cases d<;>simp at hk;rw[run_equalIn_string w dep f.type _ _ hd];simp[ByteArray.toList_eq]
       have ih:=yR w dep xs ys fs (j+1) r as bs q hr (by rw[hus];exact ha3) (by rw[hvs];exact hb3) h2;simp only[Op.eqFields,ne_eq,hname,not_false_eq_true,if_true,Sem.run_bind,hpart xs u hxu,hpart ys v hyv,Result.andThen_ok,heq];cases p
       ·simp only[Bool.not_false,if_true,Sem.run_pure];rw[<-h];rfl
       ·simp only[Bool.not_true,Bool.false_eq_true,if_false];rw[ih,<-h];rfl
   split at hp
   ·rename_i hd _;cases hp;exact key 0 _ hd rfl (by simp_all)
   ·rename_i hd _;cases hp;exact key 1 _ hd rfl (by simp_all)
   ·rename_i hd _;cases hp;exact key 2 _ hd rfl (by simp_all)
   ·cases hp
theorem bBh{kds:List Nat}(ho:o.op=.binOp op T x y yT)(hT:P.underlying T=some (.struct fs))(hc1:P.eqGuardType P.depth T=false)(hc2:P.stoodInHeld T=false)(hc3:pJ op=true)(hkds:gR P fs.toList 0=some kds)(h:aQ P lk n ev (.eqs (cI op) kds x y) K):PS P o (.eqs (cI op) kds x y) lk n ev K:=by
 obtain⟨xs,ys,b,hx,hy,hb,hK⟩:=h;have hops:op=.eql\/op=.neq:=by cases op<;>simp[pJ]at hc3|-
 refine⟨_,_,_,hK,by first|exact fun _=>⟨rfl,rfl⟩|(intro hh;cases hh),(by intro h hh;first|(cases hh;done)|exact(ξ.1 hh).2|(split at hh<;>first|exact(ξ.1 hh).2|cases hh)),fun G m w ρ _ lk2 hls hS hev _=>?_⟩;have h1:=evr hev hx (by simp[ROp.operands]);have h2:=evr hev hy (by simp[ROp.operands]);unfold AV.Rep at h1 h2;obtain⟨us,hu,hus⟩:=h1;obtain⟨vs,hv,hvs⟩:=h2;have hT':P.underlying T=some (.struct (P.fieldsOf T)):=by simp[Program.fieldsOf,hT]
 have hfs:P.fieldsOf T=fs:=by simp[Program.fieldsOf,hT]
 have hrun:(Op.equalIn 10000 T (.agg us) (.agg vs)).run P w=.ok b w:=by rw[run_equalIn_struct w 9999 T us vs hT' hc2,hfs];exact yR w 9998 us vs fs.toList 0 kds xs ys b hkds (by simpa using hus) (by simpa using hvs) hb
 refine Does.val (v:=.bool (if cI op=true then !b else b)) (w':=w) ?_ (PPost.val hS (by unfold AV.Rep DV.Rep;rfl));rcases hops with rfl|rfl
 ·simp only[execOp,ho,hu,hv,Sem.run_bind,run_eqGuard_agg w _ _ _ _ _ _ hc1,Result.andThen_ok,run_eql_struct,hrun,Sem.run_pure];rfl
 ·simp only[execOp,ho,hu,hv,Sem.run_bind,run_eqGuard_agg w _ _ _ _ _ _ hc1,Result.andThen_ok,run_neq_struct,hrun,Sem.run_pure];rfl
end
section
variable{P:Program}{o:Oper}{lk:aY}{n:Nat}{ev:Operand->AV}{K:AV->List Blk->List Hd->Prop}
theorem aOo(ho:o.op=.nilCheck x)(h:aQ P lk n ev (.nilc x) K):PS P o (.nilc x) lk n ev K:=by
 obtain⟨hl,h'⟩:=h;have hexec:∀(ρ:Operand->Value) (a:Addr) (w:World),ρ x=.pointer (some a)->(execOp ρ o).run P w=.ok (.value (.pointer (some a))) w:=fun ρ a w hx=>by simp[execOp,ho,hx]
 generalize hx:ev x=ax at h' hl;split at h'
 ·refine⟨_,_,_,h',fun _=>⟨rfl,rfl⟩,(by intro h hh;cases hh),fun G m w ρ _ lk2 hls hS hev _=>?_⟩;have hr:=evr hev hx (by simp[ROp.operands]);obtain⟨b,sz,hloc,hp⟩:=sV hS (hls rfl) hr hl;exact Does.val (hexec ρ _ w hp) (PPost.val hS (hp▸hr))
 ·refine⟨_,_,_,h',fun _=>⟨rfl,rfl⟩,(by intro h hh;cases hh),fun G m w ρ _ lk2 hls hS hev _=>?_⟩;have hr:=evr hev hx (by simp[ROp.operands]);obtain⟨b,sz,hloc,hp⟩:=vF hS (hls rfl) hr hl;exact Does.val (hexec ρ _ w hp) (PPost.val hS (hp▸hr))
 ·refine⟨_,_,_,h',fun _=>⟨rfl,rfl⟩,(by intro h hh;cases hh),fun G m w ρ _ lk2 hls hS hev _=>?_⟩;have hr:=evr hev hx (by simp[ROp.operands]);have hr':=hr;unfold AV.Rep at hr';obtain⟨b,o',hp,hc⟩:=hr';exact Does.val (hexec ρ _ w hp) (PPost.val hS (hp▸hr))
 ·exact h'.elim
theorem aTs(ho:o.op=.nilCheck x)(h:aQ P lk n ev (.nilcS x) K):PS P o (.nilcS x) lk n ev K:=by
 obtain⟨hs,hv,h'⟩:=h;obtain⟨hdl,hhd⟩:=du.1 hs;have hp:aQ P (fun y=>if y=hdl then lk y else none) n ev (.nilc x) (fun a nbs fz=>nbs=[]/\fz=[]/\K a nbs fz):=by
  show AV.live _ (ev x)=true/\_;generalize hx:ev x=v at hv hhd h';cases v<;>first|(cases hhd;done)|skip
  case ptr hh o=>cases hhd;exact⟨by simpa[AV.live]using hv,rfl,rfl,h'⟩
  case eptr hh k2 ix o=>cases hhd;exact⟨by simpa[AV.live]using hv,rfl,rfl,h'⟩
  case sl hh k2 ix o=>exact h'.elim
 obtain⟨a,nbs,fz,⟨rfl,rfl,hK⟩,_,_,hD⟩:=aOo ho hp;refine⟨a,[],[],hK,fun _=>⟨rfl,rfl⟩,(by intro h hh;cases hh),fun G m w ρ hρ lk2 hls hS hev hn=>hD G m w ρ hρ lk2 (fun _=>?_) hS hev hn⟩;have he:lk2 hdl=lk hdl:=hls hdl hhd;intro y b hb;have hy:y=hdl:=by
  by_cases e:y=hdl
  ·exact e
  ·simp only[if_neg e]at hb;cases hb
 subst hy;simp only[if_true]at hb;exact⟨b,he.trans hb,.inl rfl⟩
theorem aQ7{i:Operand}{m:Nat}(ho:o.op=.indexAddr T x i)(hT:P.underlying T=some (.array m e))(h1:1<m)(hi:P.info? e=some inf)(hk:k=inf.size)
  (h:aQ P lk n ev (.iaddrA m k x i) K):PS P o (.iaddrA m k x i) lk n ev K:=by
 subst hk;obtain⟨hl,kd,j,hj,h0,hlt,h'⟩:=h;have hexec:∀(ρ:Operand->Value) (a:Addr) (w:World),ρ x=.pointer (some a)->ρ i=.int kd j->(execOp ρ o).run P w=.ok (.value (.pointer (some (a.add (j.toNat*inf.size))))) w:=fun ρ a w hx hi'=>by simp[execOp,ho,hx,hi',Instr.indexAt,run_underlying hT,asIntOf,Instr.sureAddr,h0,hlt,bK hi]
 generalize hx:ev x=ax at h' hl;split at h'
 ·refine⟨_,_,_,h',fun _=>⟨rfl,rfl⟩,(by intro h hh;cases hh),fun G m w ρ _ lk2 hls hS hev _=>?_⟩;obtain⟨b,sz,hloc,hp⟩:=sV hS (hls rfl) (evr hev hx (by simp[ROp.operands])) hl;refine Does.val (hexec ρ _ w hp (jL (evr hev hj (by simp[ROp.operands])))) (PPost.val hS ?_);unfold AV.Rep;exact⟨rfl,_,hloc,fun _=>⟨b,sz,rfl,by rw[Addr.add_lit]⟩⟩
 ·refine⟨_,_,_,h',fun _=>⟨rfl,rfl⟩,(by intro h hh;cases hh),fun G m w ρ _ lk2 hls hS hev _=>?_⟩;obtain⟨b,sz,hloc,hp⟩:=vF hS (hls rfl) (evr hev hx (by simp[ROp.operands])) hl;refine Does.val (hexec ρ _ w hp (jL (evr hev hj (by simp[ROp.operands])))) (PPost.val hS ?_);rw[Addr.add_lit];exact aFo hloc
 ·refine⟨_,_,_,h',fun _=>⟨rfl,rfl⟩,(by intro h hh;cases hh),fun G m w ρ _ lk2 hls hS hev _=>?_⟩;have hp:=evr hev hx (by simp[ROp.operands]);unfold AV.Rep at hp;obtain⟨b,o',hp,hc⟩:=hp;refine Does.val (hexec ρ _ w hp (jL (evr hev hj (by simp[ROp.operands])))) (PPost.val hS ?_);unfold AV.Rep;exact⟨b,o'+j.toNat*inf.size,by rw[Addr.add_lit],DV.cells_drop _ hc⟩
 ·exact h'.elim
theorem aQn{i:Operand}{m:Nat}(ho:o.op=.indexAddr T x i)(hT:P.underlying T=some (.array m e))(hi:P.info? e=some inf)(hk:k=inf.size)(hc:aIh m k i=some off)
  (h:aQ P lk n ev (.faddr off x) K):PS P o (.faddr off x) lk n ev K:=by
 subst hk;obtain⟨kd,j,rfl,h0,hlt,rfl⟩:∃kd j,i=.const (.int kd j)/\0<=j/\j<m/\off=j.toNat*inf.size:=by
  unfold aIh at hc;split at hc
  ·split at hc
   ·rename_i hb;cases hc;exact⟨_,_,rfl,hb.1,hb.2,rfl⟩
   ·cases hc
  ·cases hc
 obtain⟨hl,h'⟩:=h;have hexec:∀(ρ:Operand->Value) (a:Addr) (w:World),ρ x=.pointer (some a)->ρ (.const (.int kd j))=.int kd j->(execOp ρ o).run P w=.ok (.value (.pointer (some (a.add (j.toNat*inf.size))))) w:=fun ρ a w hx hi'=>by simp[execOp,ho,hx,hi',Instr.indexAt,run_underlying hT,asIntOf,Instr.sureAddr,h0,hlt,bK hi]
 generalize hx:ev x=ax at h' hl;split at h'
 ·refine⟨_,_,_,h',fun _=>⟨rfl,rfl⟩,(by intro h hh;cases hh),fun G m w ρ hcst lk2 hls hS hev _=>?_⟩;obtain⟨b,sz,hloc,hp⟩:=sV hS (hls rfl) (evr hev hx (by simp[ROp.operands])) hl;refine Does.val (hexec ρ _ w hp (hcst _)) (PPost.val hS ?_);unfold AV.Rep;exact⟨rfl,_,hloc,fun _=>⟨b,sz,rfl,by rw[Addr.add_lit]⟩⟩
 ·refine⟨_,_,_,h',fun _=>⟨rfl,rfl⟩,(by intro h hh;cases hh),fun G m w ρ hcst lk2 hls hS hev _=>?_⟩;obtain⟨b,sz,hloc,hp⟩:=vF hS (hls rfl) (evr hev hx (by simp[ROp.operands])) hl;refine Does.val (hexec ρ _ w hp (hcst _)) (PPost.val hS ?_);rw[Addr.add_lit];exact aFo hloc
 ·refine⟨_,_,_,h',fun _=>⟨rfl,rfl⟩,(by intro h hh;cases hh),fun G m w ρ hcst lk2 hls hS hev _=>?_⟩;have hp:=evr hev hx (by simp[ROp.operands]);unfold AV.Rep at hp;obtain⟨b,o',hp,hc⟩:=hp;refine Does.val (hexec ρ _ w hp (hcst _)) (PPost.val hS ?_);unfold AV.Rep;exact⟨b,o'+j.toNat*inf.size,by rw[Addr.add_lit],DV.cells_drop _ hc⟩
 ·exact h'.elim
theorem aWm{i:Operand}{m:Nat}(ho:o.op=.index T x i)(hT:P.underlying T=some (.array m e))(hd:P.underlying e=some d)(hi:P.info? e=some inf)(hk:k=inf.size)
  (h:aQ P lk n ev (.idxA m k (if aX d then some inf.size else none) x i) K):PS P o (.idxA m k (if aX d then some inf.size else none) x i) lk n ev K:=by
 subst hk;obtain⟨cs,kd,j,hx,hj,h0,hlt,h⟩:=h;have hexec:∀(ρ:Operand->Value) (vs:Array Value) (w:World),ρ x=.agg vs->ρ i=.int kd j->(execOp ρ o).run P w=((part e vs (j.toNat*inf.size)).run P w).andThen fun v w=>.ok (.value v) w:=fun ρ vs w hx hi'=>by simp[execOp,ho,hx,hi',Instr.index,run_underlying hT,asIntOf,h0,hlt,bK hi]
 have hrepx:∀(G:Gh) (m':HM) (ρ:Operand->Value),(∀z∈(ROp.idxA m inf.size (if aX d then some inf.size else none) x i).operands,AV.Rep G m' (ev z) (ρ z))->∃vs:Array Value,ρ x=.agg vs/\AV.RepL G m' cs vs.toList:=fun G m' ρ hev=>by have:=evr hev hx (by simp[ROp.operands]);unfold AV.Rep at this;exact this
 cases ha:aX d with
 |true=>
  rw[ha]at h;obtain⟨hle,hK⟩:=h;refine⟨_,_,_,hK,fun _=>⟨rfl,rfl⟩,(by intro h hh;cases hh),fun G m' w ρ _ lk2 hls hS hev _=>?_⟩;obtain⟨vs,hv,hrep⟩:=hrepx G m' ρ (by rw[ha];exact hev);have h1:=AV.RepL_take inf.size (AV.RepL_drop (j.toNat*inf.size) hrep);refine Does.val (v:=.agg (vs.extract (j.toNat*inf.size) (j.toNat*inf.size+inf.size))) (w':=w) ?_ (PPost.val hS ?_)
  ·rw[hexec ρ vs w hv (jL (evr hev hj (by simp[ROp.operands])))];simp[part,dP hd,ha,bK hi]
  ·unfold AV.Rep;refine⟨_,rfl,?_⟩;rw[fb,f5,cu];exact h1
 |false=>
  rw[ha]at h;obtain⟨a,hcs,hK⟩:=h;refine⟨_,_,_,hK,fun _=>⟨rfl,rfl⟩,(by intro h hh;cases hh),fun G m' w ρ _ lk2 hls hS hev _=>?_⟩;obtain⟨vs,hv,hrep⟩:=hrepx G m' ρ (by rw[ha];exact hev);obtain⟨v,hv',hr⟩:=AV.RepL_get hrep hcs;refine Does.val (v:=v) (w':=w) ?_ (PPost.val hS hr);rw[hexec ρ vs w hv (jL (evr hev hj (by simp[ROp.operands])))];rw[cc]at hv';simp[part,dP hd,ha,hv']
theorem aYd{m:Nat}(ho:o.op=.slice T x lo hi none)(hT:P.underlying T=some (.array m e))(hinf:P.info? e=some inf)(h1:inf.size=1)
  (h:aQ P lk n ev (.slsA m x lo hi) K):PS P o (.slsA m x lo hi) lk n ev K:=by
 obtain⟨hd,ix,mt,es,hx,hl,hle,h⟩:=h;obtain⟨hh,h,bh⟩:=cJ h;obtain⟨ll,h,bl⟩:=cJ h;obtain⟨g1,g2,hK⟩:=h;refine⟨_,_,_,hK,fun _=>⟨rfl,rfl⟩,(by intro h hh;cases hh),fun G m' w ρ _ lk2 hls hS hev _=>?_⟩;have hp:=evr hev hx (by simp[ROp.operands]);unfold AV.Rep at hp;obtain⟨_,loc,hloc,hp⟩:=hp;have hl0:shp (lk2 hd)=shp (lk hd):=hls hd (by rw[hx];rfl);rw[hl]at hl0;obtain⟨mt2,es2,hl2,hes2⟩:=aPv hl0;have hnd:loc≠.dead:=fun e=>by subst e;rw[hS.dead _ hloc]at hl2;cases hl2
 obtain⟨b,sz,rfl,hv⟩:=hp hnd;obtain⟨bl',hl3,hb⟩:=hS.blk _ _ _ hloc;rw[hl2]at hl3;cases hl3;obtain⟨f,_,_,hsz⟩:=mV hb hS.gh;rw[hes2]at hsz;rw[dk]at hsz;rw[dk,e9]at hv;have b1:=bh G m' ρ (fun z hz=>hev z (by simp[ROp.operands]at hz|-;exact .inr (.inr hz)));have b2:=bl G m' ρ (fun z hz=>hev z (by simp[ROp.operands]at hz|-;exact .inr (.inl hz)));have hb:=xB (P:=P) (isSlice:=false) (len:=m) (cap:=m) (mx:=none) (m:=m) (.inl ⟨rfl,rfl⟩) b1 b2 g1 g2 (π _) (fun h=>by cases h) w;refine Does.val (v:=.slice (some (if m=ll then⟨b,ix,none⟩else⟨b,ix+ll,none⟩)) (hh-ll) (m-ll)) (w':=w) ?_ (PPost.val hS ?_)
 ·simp only[execOp,ho,Option.map_none,Instr.sliceAt,hv,Sem.run_bind,run_underlying hT,Result.andThen_ok,Instr.sureAddr,Sem.run_pure];rw[hb];simp only[Result.andThen_ok,bK hinf,h1,dk,Sem.run_pure,Addr.add_lit]
 ·unfold AV.Rep;refine⟨rfl,_,hloc,fun _=>?_⟩;by_cases q:m=ll
  ·rw[if_pos q];exact .inl ⟨some ⟨b,ix,none⟩,by rw[show hh-ll=0 by omega,show m-ll=0 by omega],by omega⟩
  ·rw[if_neg q];exact .inr ⟨b,_,m-ll,rfl,by rw[dk],by omega,by omega⟩
theorem aY8{m:Nat}(ho:o.op=.sliceToArrayPointer T x)(hT:P.underlying T=some (.array m e))
  (h:aQ P lk n ev (.arrP m x) K):PS P o (.arrP m x) lk n ev K:=by
 obtain⟨hd,off,len,mt,es,hx,hl,hle,hpos,hK⟩:=h;refine⟨_,_,_,hK,fun _=>⟨rfl,rfl⟩,(by intro h hh;cases hh),fun G m' w ρ _ lk2 hls hS hev _=>?_⟩;have hp:=evr hev hx (by simp[ROp.operands]);unfold AV.Rep at hp;obtain⟨_,loc,hloc,hp⟩:=hp;have hl0:shp (lk2 hd)=shp (lk hd):=hls hd (by rw[hx];rfl);rw[hl]at hl0;obtain⟨mt2,es2,hl2,_⟩:=aPv hl0;have hnd:loc≠.dead:=fun e=>by subst e;rw[hS.dead _ hloc]at hl2;cases hl2
 rcases hp hnd with⟨a,_,hz⟩|⟨b,sz,cap,rfl,hv,hcap,hsz⟩
 ·omega
 ·refine Does.val (v:=.pointer (some ⟨b,off*1,none⟩)) (w':=w) ?_ (PPost.val hS ?_)
  ·have:¬len<m:=by omega
   simp[execOp,ho,hv,Instr.arrayAt,run_underlying hT,this]
  ·unfold AV.Rep;exact⟨rfl,_,hloc,fun _=>⟨b,sz,rfl,rfl⟩⟩
theorem qK{G:Gh}{m:HM}{k:IntKind}:∀{xs:List AV} {p:List Int} {vs:List Value},rN k xs=some p->AV.RepL G m xs vs->vs=p.map (.int k)
 |[],p,vs,h,hr=>by
  simp only[rN,Option.some.injEq]at h;subst h;unfold AV.RepL at hr;subst hr;rfl
 |x::xs,p,vs,h,hr=>by
  unfold rN at h;split at h
  ·rename_i h';cases h'
  ·rename_i k' n' r h';cases h';rw[δ,ζ]at h;obtain⟨rfl,q,hq,rfl⟩:=h;unfold AV.RepL at hr;obtain⟨v,vs',rfl,h1,h2⟩:=hr;unfold AV.Rep DV.Rep at h1;rw[h1,qK hq h2];rfl
  ·cases h
theorem xO{e:TypeId}{k k':IntKind}(d:Nat)(he:P.underlying e=some (.int k'))(xs ys:Array Value)(p q:List Int)(hx:xs.toList=p.map (.int k))(hy:ys.toList=q.map (.int k))(w:World):
  ∀is:List Nat,(∀i∈is,i<p.length/\i<q.length)->(Op.eqItems (d+1) e 1 xs ys is).run P w=.ok (is.all fun i=>p[i]?==q[i]?) w
 |[],_=>by simp[Op.eqItems]
 |i::is,h=>by
  obtain⟨h1,h2⟩:=h i (by simp);have part':∀(zs:Array Value) (l:List Int) (hl:i<l.length),zs.toList=l.map (.int k)->(part e zs (i*1)).run P w=.ok (.int k l[i]) w:=fun zs l hl hz=>by
   have:zs[i]?=some (.int k l[i]):=by rw[<-cc,hz,τ,ν hl];rfl
   simp[part,dP he,aX,this]
  have ih:=xO d he xs ys p q hx hy w is (fun j hj=>h j (by simp[hj]));simp only[Op.eqItems,Sem.run_bind,part' xs p h1 hx,part' ys q h2 hy,Result.andThen_ok,run_equalIn_int w d e _ _ _ _ he];rw[iw,ν h1,ν h2];have hb:(some p[i]==some q[i])=(p[i]==q[i]):=rfl;rw[hb];cases p[i]==q[i]
  ·simp
  ·simpa using ih
theorem aAf{p q:List Int}{n:Nat}(h1:p.length=n)(h2:q.length=n):((dm n).all fun i=>p[i]?==q[i]?)=(p==q):=by
 rw[Bool.eq_iff_iff,List.all_eq_true,beq_iff_eq];constructor
 ·intro h;apply List.ext_getElem?;intro i;by_cases hi:i<n
  ·simpa using h i (by simpa using hi)
  ·rw[dc (by omega),dc (by omega)]
 ·rintro rfl i _;simp
theorem bB8{m:Nat}{k:IntKind}(ho:o.op=.binOp op T x y yT)(hT:P.underlying T=some (.array m e))(he:P.underlying e=some (.int k))(hi:P.info? e=some i)
  (hc1:P.eqGuardType P.depth T=false) (hc2:pJ op=true) (hsz:i.size=1) (h:aQ P lk n ev (.eqa (cI op) k m x y) K):PS P o (.eqa (cI op) k m x y) lk n ev K:=by
 obtain⟨xs,ys,p,q,hx,hy,hp,hq,hlp,hlq,hK⟩:=h;have hops:op=.eql\/op=.neq:=by cases op<;>simp[pJ]at hc2|-
 refine⟨_,_,_,hK,fun _=>⟨rfl,rfl⟩,(by intro h hh;cases hh),fun G m' w ρ _ lk2 hls hS hev _=>?_⟩;have h1:=evr hev hx (by simp[ROp.operands]);have h2:=evr hev hy (by simp[ROp.operands]);unfold AV.Rep at h1 h2;obtain⟨us,hu,hus⟩:=h1;obtain⟨vs,hv,hvs⟩:=h2;have hrun:(Op.equalIn 10000 T (.agg us) (.agg vs)).run P w=.ok (p==q) w:=by rw[run_equalIn_array w 9999 us vs hT hi,show P.cellsOf e=1 by simp[Program.cellsOf,hi,hsz],xO 9998 he us vs p q (qK hp hus) (qK hq hvs) w _ (fun i hi=>by rw[hlp,hlq];simpa using hi),aAf hlp hlq]
 refine Does.val (v:=.bool (if cI op=true then !(p==q)else(p==q))) (w':=w) ?_ (PPost.val hS (by unfold AV.Rep DV.Rep;rfl));rcases hops with rfl|rfl
 ·simp only[execOp,ho,hu,hv,Sem.run_bind,run_eqGuard_agg w _ _ _ _ _ _ hc1,Result.andThen_ok,run_eql_struct,hrun,Sem.run_pure];rfl
 ·simp only[execOp,ho,hu,hv,Sem.run_bind,run_eqGuard_agg w _ _ _ _ _ _ hc1,Result.andThen_ok,run_neq_struct,hrun,Sem.run_pure];rfl
end
def aZl(kd:Nat)(x y:Value)(p:Bool):Prop:=
 (kd=0/\∃a b,x=.bool a/\y=.bool b/\p=(a==b))\/(kd=1/\∃k a b,x=.int k a/\y=.int k b/\p=(a==b))\/(kd=2/\∃a b:List UInt8,x=.string ⟨a.toArray⟩/\y=.string ⟨b.toArray⟩/\p=(a==b))
inductive EqV:List Sh->List Value->List Value->Bool->Prop
 |nil:EqV [] [] [] true
 |s {kd:Nat} {r:List Sh} {x y:Value} {xs ys:List Value} {p q:Bool}:aZl kd x y p->EqV r xs ys q->EqV (.s kd::r) (x::xs) (y::ys) (p&&q)
 |a {k:IntKind} {m:Nat} {r:List Sh} {p q:List Int} {xs ys:List Value} {b:Bool}:p.length=m->q.length=m->EqV r xs ys b->EqV (.a k m::r) (p.map (.int k)++xs) (q.map (.int k)++ys) (p==q&&b)
theorem RepL_take{G:Gh}{m:HM}:∀(n:Nat) (as:List AV) (vs:List Value),AV.RepL G m as vs->AV.RepL G m (as.take n) (vs.take n)/\AV.RepL G m (as.drop n) (vs.drop n)
 |0,as,vs,h=>by simp only[ii,da];exact⟨by unfold AV.RepL;rfl,h⟩
 |n+1,[],vs,h=>by
  unfold AV.RepL at h;subst h;simp only[List.take_nil,List.drop_nil];exact⟨by unfold AV.RepL;rfl,by unfold AV.RepL;rfl⟩
 |n+1,a::as,vs,h=>by unfold AV.RepL at h;obtain⟨v,vs',rfl,h1,h2⟩:=h;obtain⟨h3,h4⟩:=RepL_take n as vs' h2;simp only[gb,ir];refine⟨?_,h4⟩;unfold AV.RepL;exact⟨v,_,rfl,h1,h3⟩
theorem aT3{kd:Nat}{x y:DV}{p:Bool}{u:Value}(h:DV.same kd x y=some p)(hu:AV.Rep G m (.D x) u)(hv:AV.Rep G m (.D y) v):aZl kd u v p:=by
 unfold AV.Rep at hu hv;cases x<;>cases y<;>simp only[DV.same]at h<;>try(cases h;done)
 all_goals(rw[δ]at h;unfold DV.Rep at hu hv;obtain⟨h1,h2⟩:=h;cases h2;subst hu;subst hv)
 ·exact .inl ⟨h1,_,_,rfl,rfl,rfl⟩
 ·obtain⟨h1,rfl⟩:=h1;exact .inr (.inl ⟨h1,_,_,_,rfl,rfl,rfl⟩)
 ·exact .inr (.inr ⟨h1,_,_,rfl,rfl,rfl⟩)
theorem aDi{G:Gh}{m:HM}:∀{sh:List Sh} {xs ys:List AV} {b:Bool} {us vs:List Value},aCa sh xs ys=some b->AV.RepL G m xs us->AV.RepL G m ys vs->EqV sh us vs b
 |[],xs,ys,b,us,vs,h,hu,hv=>by
  cases xs<;>cases ys<;>simp only[aCa]at h<;>cases h;unfold AV.RepL at hu hv;subst hu;subst hv;exact .nil
 |.s kd::r,xs,ys,b,us,vs,h,hu,hv=>by
  unfold aCa at h;split at h
  ·rename_i e;cases e
  ·rename_i kd' r' x xs' y ys' e1;cases e1;split at h
   ·rename_i p q h1 h2;cases h;unfold AV.RepL at hu hv;obtain⟨u,us',rfl,a1,a2⟩:=hu;obtain⟨v,vs',rfl,b1,b2⟩:=hv;exact .s (aT3 h1 a1 b1) (aDi h2 a2 b2)
   ·cases h
  ·rename_i e;cases e
  ·cases h
 |.a k n::r,xs,ys,b,us,vs,h,hu,hv=>by
  unfold aCa at h;split at h
  ·rename_i p q b' h1 h2 h3;rw[δ]at h;obtain⟨⟨l1,l2⟩,h⟩:=h;cases h;obtain⟨a1,a2⟩:=RepL_take n _ _ hu;obtain⟨b1,b2⟩:=RepL_take n _ _ hv;have e1:=qK h1 a1;have e2:=qK h2 b1;rw[<-fo n us,<-fo n vs,e1,e2];exact .a l1 l2 (aDi h3 a2 b2)
  ·cases h
theorem aF8{B:List Value}{m:Nat}(h:A.length=m):(A++B).take (m+k)=A++B.take k:=by subst h;rw[List.take_append,List.take_of_length_le (ge _ _),cu]
theorem aG9{B:List Value}{m:Nat}(h:A.length=m):(A++B).drop (m+k)=B.drop k:=by subst h;rw[il,List.drop_of_length_le (ge _ _),cu];rfl
theorem EqV.len:∀{sh:List Sh} {us vs:List Value} {b:Bool},EqV sh us vs b->us.length=fF sh/\vs.length=fF sh
 |_,_,_,_,.nil=>⟨rfl,rfl⟩
 |_,_,_,_,.s _ h=>by
  obtain⟨h1,h2⟩:=h.len;simp only[List.length_cons,fF,Sh.len];omega
 |_,_,_,_,.a h1 h2 h=>by obtain⟨h3,h4⟩:=h.len;simp only[κ,ι,fF,Sh.len];omega
theorem EqV.split:∀{s1 s2:List Sh} {us vs:List Value} {b:Bool},EqV (s1++s2) us vs b->∃b1 b2,EqV s1 (us.take (fF s1)) (vs.take (fF s1)) b1/\EqV s2 (us.drop (fF s1)) (vs.drop (fF s1)) b2/\b=(b1&&b2)
 |[],s2,us,vs,b,h=>⟨true,b,by simp only[fF,ii];exact .nil,by rw[d6]at h;simpa only[fF,da]using h,by simp⟩
 |x::s1,s2,us,vs,b,h=>by
  rw[List.cons_append]at h;cases h with
  |s h1 h2=>
   obtain⟨b1,b2,a1,a2,rfl⟩:=h2.split;refine⟨_&&b1,b2,?_,?_,by rw[ij]⟩
   ·simp only[fF,Sh.len,Nat.add_comm 1,gb];exact .s h1 a1
   ·simp only[fF,Sh.len,Nat.add_comm 1,ir];exact a2
  |a h1 h2 h3=>
   rename_i k m p q xs ys b';obtain⟨b1,b2,a1,a2,rfl⟩:=h3.split;have e1:(p.map (Value.int k)).length=m:=by simp[h1]
   have e2:(q.map (Value.int k)).length=m:=by simp[h2]
   refine⟨p==q&&b1,b2,?_,?_,by rw[ij]⟩
   ·simp only[fF,Sh.len];rw[aF8 e1,aF8 e2];exact .a h1 h2 a1
   ·simp only[fF,Sh.len];rw[aG9 e1,aG9 e2];exact a2
theorem aA0:∀(l1 l2:List Sh),fF (l1++l2)=fF l1+fF l2
 |[],l2=>by simp[fF]
 |x::l1,l2=>by simp[fF,aA0 l1 l2,gc]
def Pk(P:Program)(t:TypeId)(us:List Value)(v:Value):Prop:=∃d,P.underlying t=some d/\((aX d=true/\v=.agg us.toArray)\/(aX d=false/\us=[v]))
section
variable{P:Program}{w:World}
theorem oX{zs:Array Value}(hi:P.info? t=some i)(hl:off+P.cellsOf t<=zs.size)(hd:(∃d,P.underlying t=some d/\(aX d=false->P.cellsOf t=1))):
  ∃v,(part t zs off).run P w=.ok v w/\Pk P t ((zs.toList.drop off).take (P.cellsOf t)) v:=by
 obtain⟨d,hd,h1⟩:=hd;cases ha:aX d
 ·have h1:=h1 ha;have hz:zs[off]?=some zs[off]:=gm (by omega);refine⟨zs[off],by simp[part,dP hd,ha,hz],d,hd,.inr ⟨ha,?_⟩⟩;rw[h1,List.take_one,List.head?_drop,cc,hz];rfl
 ·refine⟨.agg (zs.extract off (off+P.cellsOf t)),by simp[part,dP hd,ha,run_sizeOf w hi],d,hd,.inl ⟨ha,?_⟩⟩;congr 1;apply je.1;rw[fb];simp[List.extract]
theorem nQ{d:Nat}{e:TypeId}{i:TypeInfo}{l:List Sh}(hi:P.info? e=some i)(hl:fF l=P.cellsOf e)(hd:(∃d,P.underlying e=some d/\(aX d=false->P.cellsOf e=1)))(xs ys:Array Value)
  (ih:∀(us vs:List Value) (u v:Value) (b:Bool),EqV l us vs b->Pk P e us u->Pk P e vs v->(Op.equalIn d e u v).run P w=.ok b w):
  ∀(m j:Nat) (b:Bool),EqV (br m l).flatten (xs.toList.drop (j*P.cellsOf e)) (ys.toList.drop (j*P.cellsOf e)) b->(Op.eqItems d e (P.cellsOf e) xs ys (List.range' j m)).run P w=.ok b w
 |0,j,b,h=>by
  simp only[List.replicate_zero,List.flatten_nil]at h;generalize xs.toList.drop (j*P.cellsOf e)=us at h;generalize ys.toList.drop (j*P.cellsOf e)=vs at h;cases h;simp[Op.eqItems]
 |m+1,j,b,h=>by
  rw[iv,ic]at h;have hlen:=h.len;simp only[υ,e7]at hlen;obtain⟨b1,b2,h1,h2,rfl⟩:=h.split;rw[hl]at h1 h2;rw[eg,eg,<-Nat.succ_mul]at h2;rw[aA0,hl]at hlen;rcases ez (P.cellsOf e)with hz|hz
  ·obtain⟨d0,hd0,h10⟩:=hd;have ha:aX d0=true:=by
    cases ha:aX d0
    ·have:=h10 ha;omega
    ·rfl
   have hp:∀zs:Array Value,(part e zs (j*P.cellsOf e)).run P w=.ok (.agg (zs.extract (j*P.cellsOf e) (j*P.cellsOf e+P.cellsOf e))) w:=fun zs=>by simp[part,dP hd0,ha,run_sizeOf w hi]
   have hk:∀zs:Array Value,Pk P e ((zs.toList.drop (j*P.cellsOf e)).take (P.cellsOf e)) (.agg (zs.extract (j*P.cellsOf e) (j*P.cellsOf e+P.cellsOf e))):=fun zs=>⟨d0,hd0,.inl ⟨ha,by
    congr 1;apply je.1;rw[fb];simp[List.extract]⟩⟩
   simp only[List.range'_succ,Op.eqItems,Sem.run_bind,hp,Result.andThen_ok,ih _ _ _ _ _ h1 (hk xs) (hk ys)];have hr:=nQ hi hl ⟨d0,hd0,h10⟩ xs ys ih m (j+1) b2 h2;cases b1
   ·simp
   ·simpa using hr
  ·obtain⟨u,p1,p2⟩:=oX (w:=w) (zs:=xs) (off:=j*P.cellsOf e) hi (by omega) hd;obtain⟨v,q1,q2⟩:=oX (w:=w) (zs:=ys) (off:=j*P.cellsOf e) hi (by omega) hd;simp only[List.range'_succ,Op.eqItems,Sem.run_bind,p1,q1,Result.andThen_ok,ih _ _ _ _ _ h1 p2 q2];have hr:=nQ hi hl hd xs ys ih m (j+1) b2 h2;cases b1
   ·simp
   ·simpa using hr
theorem rM{d:Nat}{f:TypeId->Option (List Sh)}(xs ys:Array Value):
  ∀(fs:List Field) (off:Nat) (sh:List Sh) (b:Bool),sL P f fs off=some sh->EqV sh (xs.toList.drop off) (ys.toList.drop off) b->
  (∀x∈fs,∀l i,f x.type=some l->P.info? x.type=some i->fF l=P.cellsOf x.type->(∃d,P.underlying x.type=some d/\(aX d=false->P.cellsOf x.type=1))/\∀(us vs:List Value) (u v:Value) (b:Bool),EqV l us vs b->Pk P x.type us u->Pk P x.type vs v->(Op.equalIn d x.type u v).run P w=.ok b w)->
  (Op.eqFields d xs ys fs).run P w=.ok b w
 |[],off,sh,b,hs,h,_=>by
  unfold sL at hs;cases hs;generalize xs.toList.drop off=us at h;generalize ys.toList.drop off=vs at h;cases h;simp[Op.eqFields]
 |x::fs,off,sh,b,hs,h,ih=>by
  unfold sL at hs;split at hs
  ·cases hs
  ·rename_i hno;split at hs
   ·rename_i l i l2 h1 h2 h3;split at hs
    case isFalse=>cases hs
    rename_i hl;cases hs;have hname:x.name≠ "_":=fun e=>hno (.inl e);have hoff:x.offset=off:=Classical.byContradiction fun e=>hno (.inr e);have hlen:=h.len;simp only[υ,e7]at hlen;obtain⟨b1,b2,g1,g2,rfl⟩:=h.split;rw[hl]at g1 g2;rw[eg,eg]at g2;obtain⟨hd,ih1⟩:=ih x (by simp) l i h1 h2 hl;have hr:=rM xs ys fs (off+P.cellsOf x.type) l2 b2 h3 g2 fun y hy=>ih y (by simp[hy]);rw[aA0,hl]at hlen;have key:∃u v,(part x.type xs x.offset).run P w=.ok u w/\(part x.type ys x.offset).run P w=.ok v w/\(Op.equalIn d x.type u v).run P w=.ok b1 w:=by
     rw[hoff];rcases ez (P.cellsOf x.type)with hz|hz
     ·obtain⟨d0,hd0,h10⟩:=hd;have ha:aX d0=true:=by
       cases ha:aX d0
       ·have:=h10 ha;omega
       ·rfl
      have hp:∀zs:Array Value,(part x.type zs off).run P w=.ok (.agg (zs.extract off (off+P.cellsOf x.type))) w:=fun zs=>by simp[part,dP hd0,ha,run_sizeOf w h2]
      have hk:∀zs:Array Value,Pk P x.type ((zs.toList.drop off).take (P.cellsOf x.type)) (.agg (zs.extract off (off+P.cellsOf x.type))):=fun zs=>⟨d0,hd0,.inl ⟨ha,by
       congr 1;apply je.1;rw[fb];simp[List.extract]⟩⟩
      exact⟨_,_,hp xs,hp ys,ih1 _ _ _ _ _ g1 (hk xs) (hk ys)⟩
     ·obtain⟨u,p1,p2⟩:=oX (w:=w) (zs:=xs) (off:=off) h2 (by omega) hd;obtain⟨v,q1,q2⟩:=oX (w:=w) (zs:=ys) (off:=off) h2 (by omega) hd;exact⟨u,v,p1,q1,ih1 _ _ _ _ _ g1 p2 q2⟩
    obtain⟨u,v,k1,k2,k3⟩:=key;simp only[Op.eqFields,ne_eq,hname,not_false_eq_true,if_true,Sem.run_bind,k1,k2,Result.andThen_ok,k3];cases b1
    ·simp
    ·simpa using hr
   ·cases hs
theorem aLb:∀{n:Nat} {t:TypeId} {l:List Sh},aEp P n t=some l->fF l=P.cellsOf t->∃d,P.underlying t=some d/\(aX d=false->P.cellsOf t=1)
 |0,t,l,h,_=>by unfold aEp at h;cases h
 |n+1,t,l,h,hl=>by
  unfold aEp at h;split at h
  ·rename_i hd;cases h;exact⟨_,hd,fun _=>hl.symm⟩
  ·rename_i hd;cases h;exact⟨_,hd,fun _=>hl.symm⟩
  ·rename_i hd;cases h;exact⟨_,hd,fun _=>hl.symm⟩
  ·rename_i hd;exact⟨_,hd,fun e=>(by cases e)⟩
  ·rename_i hd;exact⟨_,hd,fun e=>(by cases e)⟩
  ·cases h
theorem aI7(hd:P.underlying t=some d)(ha:aX d=true)(h:Pk P t us v):v=.agg us.toArray:=by
 obtain⟨d',h1,h2⟩:=h;rw[hd]at h1;cases h1;rcases h2 with⟨_,h2⟩|⟨h2,_⟩
 ·exact h2
 ·rw[ha]at h2;cases h2
theorem aAu(hd:P.underlying t=some d)(ha:aX d=false)(h:Pk P t us v):us=[v]:=by
 obtain⟨d',h1,h2⟩:=h;rw[hd]at h1;cases h1;rcases h2 with⟨h2,_⟩|⟨_,h2⟩
 ·rw[ha]at h2;cases h2
 ·exact h2
theorem aHc:∀(n:Nat) (t:TypeId) (sh:List Sh) (d:Nat) (us vs:List Value) (u v:Value) (b:Bool),aEp P n t=some sh->EqV sh us vs b->Pk P t us u->Pk P t vs v->n+1<=d->(Op.equalIn d t u v).run P w=.ok b w
 |0,t,sh,d,us,vs,u,v,b,h,_,_,_,_=>by unfold aEp at h;cases h
 |n+1,t,sh,0,us,vs,u,v,b,h,_,_,_,hn=>by omega
 |n+1,t,sh,d+1,us,vs,u,v,b,h,he,hu,hv,hn=>by
  unfold aEp at h;split at h
  ·rename_i hd;cases h;obtain rfl:=aAu hd rfl hu;obtain rfl:=aAu hd rfl hv;cases he with
   |s h1 h2=>
    cases h2;rcases h1 with⟨_,a,b,rfl,rfl,rfl⟩|⟨e,_⟩|⟨e,_⟩
    ·rw[run_equalIn_bool' w d t _ _ hd];simp
    ·cases e
    ·cases e
  ·rename_i hd;cases h;obtain rfl:=aAu hd rfl hu;obtain rfl:=aAu hd rfl hv;cases he with
   |s h1 h2=>
    cases h2;rcases h1 with⟨e,_⟩|⟨_,k,a,b,rfl,rfl,rfl⟩|⟨e,_⟩
    ·cases e
    ·rw[run_equalIn_int w d t _ _ _ _ hd];simp
    ·cases e
  ·rename_i hd;cases h;obtain rfl:=aAu hd rfl hu;obtain rfl:=aAu hd rfl hv;cases he with
   |s h1 h2=>
    cases h2;rcases h1 with⟨e,_⟩|⟨e,_⟩|⟨_,a,b,rfl,rfl,rfl⟩
    ·cases e
    ·cases e
    ·rw[run_equalIn_string w d t _ _ hd];simp[ByteArray.toList_eq]
  ·rename_i m e hd;obtain rfl:=aI7 hd rfl hu;obtain rfl:=aI7 hd rfl hv;split at h
   ·rename_i k i he' hi;rw[δ]at h;obtain⟨hsz,h⟩:=h;cases h;cases he with
    |a h1 h2 h3=>
     cases h3;rename_i p q;obtain⟨d',rfl⟩:∃k,d=k+1:=⟨d-1,by omega⟩;rw[run_equalIn_array w (d'+1) _ _ hd hi,show P.cellsOf e=1 by simp[Program.cellsOf,hi,hsz],xO (k:=k) d' he' _ _ p q (by simp) (by simp) w _ (fun i hi=>by rw[h1,h2];simpa using hi),aAf h1 h2,Bool.and_true]
   ·rename_i d0 i hnot hd0 hi;rw[ε]at h;obtain⟨l,hl0,h⟩:=h;rw[δ]at h;obtain⟨hl,h⟩:=h;cases h;rw[run_equalIn_array w d _ _ hd hi,List.range_eq_range'];exact nQ hi hl (aLb hl0 hl) _ _ (fun us vs u v b h1 h2 h3=>aHc n e l d us vs u v b hl0 h1 h2 h3 (by omega)) m 0 b (by simpa using he)
   ·cases h
  ·rename_i fs hd;rw[Option.ite_none_left_eq_some]at h;obtain⟨hst,h⟩:=h;obtain rfl:=aI7 hd rfl hu;obtain rfl:=aI7 hd rfl hv;have hT':P.underlying t=some (.struct (P.fieldsOf t)):=by simp[Program.fieldsOf,hd]
   have hfs:P.fieldsOf t=fs:=by simp[Program.fieldsOf,hd]
   rw[run_equalIn_struct w d t _ _ hT' (by simpa using hst),hfs];exact rM _ _ fs.toList 0 sh b h (by simpa using he) fun x _ l i hl0 hi hl=>⟨aLb hl0 hl,fun us vs u v b h1 h2 h3=>aHc n x.type l d us vs u v b hl0 h1 h2 h3 (by omega)⟩
  ·cases h
end
section
variable{P:Program}{o:Oper}{lk:aY}{n:Nat}{ev:Operand->AV}{K:AV->List Blk->List Hd->Prop}
theorem aVc{sh:List Sh}(ho:o.op=.binOp op T x y yT)(hT:(∃m e,P.underlying T=some (.array m e))\/∃fs,P.underlying T=some (.struct fs))
  (hc1:P.eqGuardType P.depth T=false) (hc2:pJ op=true) (hsh:aEp P 100 T=some sh) (h:aQ P lk n ev (.eqg (cI op) sh x y) K):PS P o (.eqg (cI op) sh x y) lk n ev K:=by
 obtain⟨xs,ys,b,hx,hy,hb,hK⟩:=h;have hops:op=.eql\/op=.neq:=by cases op<;>simp[pJ]at hc2|-
 refine⟨_,_,_,hK,fun _=>⟨rfl,rfl⟩,(by intro h hh;cases hh),fun G m' w ρ _ lk2 hls hS hev _=>?_⟩;have h1:=evr hev hx (by simp[ROp.operands]);have h2:=evr hev hy (by simp[ROp.operands]);unfold AV.Rep at h1 h2;obtain⟨us,hu,hus⟩:=h1;obtain⟨vs,hv,hvs⟩:=h2;obtain⟨d,hd,ha⟩:∃d,P.underlying T=some d/\aX d=true:=by
  rcases hT with⟨m,e,h⟩|⟨fs,h⟩
  ·exact⟨_,h,rfl⟩
  ·exact⟨_,h,rfl⟩
 have hrun:(Op.equalIn 10000 T (.agg us) (.agg vs)).run P w=.ok b w:=
  aHc 100 T sh 10000 us.toList vs.toList _ _ b hsh (aDi hb hus hvs) ⟨d,hd,.inl ⟨ha,by simp⟩⟩ ⟨d,hd,.inl ⟨ha,by simp⟩⟩ (by omega)
 refine Does.val (v:=.bool (if cI op=true then !b else b)) (w':=w) ?_ (PPost.val hS (by unfold AV.Rep DV.Rep;rfl));rcases hops with rfl|rfl
 ·simp only[execOp,ho,hu,hv,Sem.run_bind,run_eqGuard_agg w _ _ _ _ _ _ hc1,Result.andThen_ok,run_eql_struct,hrun,Sem.run_pure];rfl
 ·simp only[execOp,ho,hu,hv,Sem.run_bind,run_eqGuard_agg w _ _ _ _ _ _ hc1,Result.andThen_ok,run_neq_struct,hrun,Sem.run_pure];rfl
theorem PPost.data{lk:aY}{n:Nat}(hS:Sim G m lk w)(vs:List Value)(h1:w'.os=w.os)(h2:TD w w')(h3:w'.output=w.output)(hsz:w.heap.size<=w'.heap.size)
  (hold:∀j,j<w.heap.size->w'.heap[j]?=w.heap[j]?) (hnew:∀j v,vs[j]?=some v->w'.cell? ⟨w.heap.size,j,none⟩=some v) {a:AV}
  (ha:∀G',Gh.le G G'->(∀j v,vs[j]?=some v->G' w.heap.size j=some v)->AV.Rep G' m a v):PPost G m lk n a [] [] w v w':=by
 let G':Gh:=fun b o=>if b=w.heap.size then vs[o]?else G b o
 have hle:Gh.le G G':=fun b o x hx=>by
  by_cases e:b=w.heap.size
  ·rw[qT hS (Nat.le_of_eq e.symm) o]at hx;cases hx
  ·show(if b=w.heap.size then vs[o]?else G b o)=some x;rw[if_neg e];exact hx
 have hne:∀b,b≠w.heap.size->∀o,G' b o=G b o:=fun b e o=>if_neg e;refine⟨G',m,⟨fun h b sz hm=>?_,?_,hS.injG,fun b o x hx=>?_,?_,hS.gl.mono hle,fun h b sz fp hm=>?_⟩,ha G' hle (fun j v hj=>by show(if w.heap.size=w.heap.size then vs[j]?else _)=_;rw[if_pos rfl];exact hj),⟨h1,h2,h3,hsz,fun b hb _=>hold b hb,fun b hb _ o=>hne b (by omega) o,hle⟩,fun _ _=>rfl,fun j _ _ hj=>by simp at hj⟩
 ·obtain⟨bl,hl,hb⟩:=hS.blk h b sz hm;have hlt:=hS.lt hm;rw[eY,cT];exact⟨bl,hl,hb.mono hle (HM.le.refl m) (hne b (by omega)) (hold b hlt)⟩
 ·rw[eY,cT];exact hS.nil
 ·by_cases e:b=w.heap.size
  ·subst e;have hx:(if w.heap.size=w.heap.size then vs[o]?else G w.heap.size o)=some x:=hx;rw[if_pos rfl]at hx;exact hnew o x hx
  ·rw[hne b e o]at hx;have hc:=hS.gh b o x hx;have hlt:b<w.heap.size:=World.block_lt_of_cell? w _ hc;unfold World.cell? at hc|-;rw[hold b hlt];exact hc
 ·rw[eY,cT];exact hS.dead
 ·obtain⟨bl,hl,hb⟩:=hS.blkx h b sz fp hm;rw[eY,cT];exact⟨bl,hl,hb.mono hle (HM.le.refl m) (fun c hc=>hne c (by have:=hb.lt c hc;omega)) (fun c hc=>hold c (hb.lt c hc)) (.all hold)⟩
theorem aGr{G:Gh}{f:Nat->Option Value}:∀(t:List UInt8) (o:Nat),(∀j c,t[j]?=some c->f (o+j)=some (.int .u8 (c.toNat:Nat)))->DV.rows G f 1 o (t.map fun c=>[DV.I .u8 (c.toNat:Nat)])
 |[],_,_=>by unfold DV.rows;trivial
 |c::t,o,h=>by
  rw[df];unfold DV.rows;refine⟨rfl,?_,aGr t (o+1) fun j d hj=>?_⟩
  ·unfold DV.cells;refine⟨⟨_,h 0 c rfl,by unfold DV.Rep;rfl⟩,by unfold DV.cells;trivial⟩
  ·have:=h (j+1) d hj;rwa[show o+1+j=o+(j+1) by omega]
theorem bCu{dst:TypeId}(ho:o.op=.convert src dst x)(hs:P.underlying src=some .string)(hd:P.underlying dst=some (.slice e))(he:P.underlying e=some (.int .u8))(h:aQ P lk n ev (.cvB x) K):PS P o (.cvB x) lk n ev K:=by
 obtain⟨t,hx,hK⟩:=h;refine⟨_,_,_,hK,(by intro hh;cases hh),(by intro h hh;cases hh),fun G m w ρ _ lk2 _ hS hev _=>?_⟩;have hr:=evr hev hx (by simp[ROp.operands]);unfold AV.Rep DV.Rep at hr;refine Does.val (v:=.slice (some ⟨w.heap.size,0,none⟩) (⟨t.toArray⟩:ByteArray).size (grownCap w (⟨t.toArray⟩:ByteArray).size 0 e)) (w':=Lib.bytesWorld w e ⟨t.toArray⟩) ?_ (PPost.data (w':=Lib.bytesWorld w e ⟨t.toArray⟩) hS (t.map fun c=>.int .u8 (c.toNat:Nat)) rfl ⟨rfl,Nat.le_succ _⟩ rfl (by rw[Lib.bytesWorld_size];omega) (fun j hj=>Lib.bytesWorld_at_old w e _ j hj) (fun j v hj=>?_) fun G' _ hG'=>?_)
 ·simp only[execOp,ho,hr,Sem.run_bind,Lib.run_convert_string_bytes w src dst e _ hs hd he,Result.andThen_ok,Sem.run_pure]
 ·rw[τ,ζ]at hj;obtain⟨c,hc,rfl⟩:=hj;have hlt:=(ω.1 hc).1;rw[Lib.bytesWorld_cell w e _ j (by simpa[ByteArray.size]using hlt)];simp only[List.getD,hc];rfl
 ·unfold AV.Rep DV.Rep;have h1:(⟨t.toArray⟩:ByteArray).size=t.length:=by simp[ByteArray.size]
  have h2:(t.map fun c=>[DV.I .u8 (c.toNat:Nat)]).length=t.length:=ι _;have h3:=grownCap_ge w (⟨t.toArray⟩:ByteArray).size 0 e;refine⟨some ⟨w.heap.size,0,none⟩,grownCap w (⟨t.toArray⟩:ByteArray).size 0 e,?_,?_,(fun h=>by cases h),fun _=>⟨w.heap.size,0,1,rfl,aGr t 0 fun j c hj=>?_⟩⟩
  ·rw[h1,h2]
  ·rw[h2,<-h1];exact h3
  ·rw[bq];exact hG' j _ (by rw[τ,hj];rfl)
theorem bAl{T:Nat}{k0:Nat}(ho:o.op=.buildSlice T k ps)(hr:aA P o=some (.bslice k0 xs))(h:aQ P lk n ev (.bsF k0 xs) K):PS P o (.bsF k0 xs) lk n ev K:=by
 simp only[aA,ho]at hr;split at hr
 case h_2=>cases hr
 rename_i e hT;simp only[ε]at hr;obtain⟨i,hi,hr⟩:=hr;split at hr
 case isFalse=>cases hr
 rename_i hc;cases hr;simp only[μ,beq_iff_eq,decide_eq_true_eq]at hc;obtain⟨⟨⟨hc1,hc2⟩,hc3⟩,hc4⟩:=hc;obtain⟨z,hz⟩:=du.1 hc4;have hk:k=ps.size:=by have:=congrArg List.length hc1;simpa using this.symm
 rcases h with⟨hnil,hK⟩|⟨hne,es,hes,hK⟩
 ·have hps:ps=#[]:=by
   have:ps.toList=[]:=by simpa using hnil
   rw[<-cm (xs:=ps),this]
  subst hps;have hk0:k=0:=by simpa using hk
  subst hk0;refine⟨_,_,_,hK,fun _=>⟨rfl,rfl⟩,(by intro h hh;cases hh),fun G m w ρ _ lk2 _ hS hev _=>?_⟩;refine Does.val (v:=.slice (some ⟨w.heap.size,0,none⟩) 0 0) (w':=w.alloc (.cells #[] e)) ?_ (PPost.garb hS _ ?_)
  ·simp[execOp,ho,Instr.buildSlice,run_underlying hT,bK hi,Instr.fill,newRow,Array.range_zero']
  ·unfold AV.Rep;refine⟨?_,_,rfl⟩;unfold DV.Rep;exact⟨_,0,rfl,by simp,fun _=>rfl,fun h=>absurd rfl h⟩
 refine⟨_,_,_,hK,fun _=>⟨rfl,rfl⟩,(by intro h hh;cases hh),fun G m w ρ _ lk2 _ hS hev _=>?_⟩;have hzc:∀x∈ps.toList.map (·.2),AV.Rep G m (ev x) (ρ x):=fun x hx=>hev x (by simpa[ROp.operands]using hx);have hkpos:0<k:=by
  rw[hk];rcases ez ps.size with h0|h0
  ·exfalso;apply hne;have:ps=#[]:=by simpa using h0
   subst this;rfl
  ·exact h0
 let css:List (List Value):=(ps.toList.map (·.2)).map fun x=>(ρ x).cells.toList;have hout3:=qS (lk:=fun _=>none) (ρ:=ρ) hS (fun h mt k es hh=>by cases hh) hes hzc (fun h hh hsome=>by cases hsome);have hsize:∀x∈ps.toList.map (·.2),(ρ x).cells.size=i.size:=hout3.1;have hzs:(ig (k*i.size)).map (z.cells[· %z.cells.size]!)=((ig (k*i.size)).map (z.cells[· %z.cells.size]!)):=rfl;let base:Array Value:=(ig (k*i.size)).map (z.cells[· %z.cells.size]!);have hbase:base.toList.length=k*i.size:=by simp[base]
 let rs:List (Nat×List Value):=(css.zipIdx 0).map fun p=>(p.2*i.size,p.1);have hcssl:css.length=k:=by simp[css,hk]
 have hparts:∀(j i':Nat) (v:Value),(ps.map fun(i,x)=>(i,ρ x)).toList[j]?=some (i',v)->i'=j/\j<k/\css[j]?=some v.cells.toList/\v.cells.size=i.size:=fun j i' v hj=>by
  rw[eu,τ]at hj;cases hx:ps.toList[j]?with
  |none=>rw[hx]at hj;cases hj
  |some p=>
   rw[hx]at hj;obtain⟨i2,x⟩:=p;simp only[c7,Option.some.injEq,Prod.mk.injEq]at hj;obtain⟨rfl,rfl⟩:=hj;have hlt:=(ω.1 hx).1;have h1:(dm k)[j]?=some i2:=by rw[<-hc1,τ,hx];rfl
   have hlt':j<k:=by rw[hk];simpa using hlt
   rw[jn hlt']at h1;cases h1;refine⟨rfl,hlt',by simp[css,hx],hsize x ?_⟩;exact db.2 ⟨_,cf hx,rfl⟩
 obtain⟨out,ho1,ho2⟩:=tV (fun j=>some (j*i.size,i.size)) (ps.map fun(i,x)=>(i,ρ x)).toList base rs (by simp[rs,hcssl,hk]) (fun j i' v hj=>by
  obtain⟨rfl,h1,h2,h3⟩:=hparts j i' v hj;refine⟨i'*i.size,?_,by rw[h3],?_⟩
  ·simp[rs,List.getElem?_zipIdx,h2]
  ·rw[h3];have:base.size=k*i.size:=by simpa using hbase
   rw[this,<-Nat.succ_mul];exact c8 _ h1)
 have hout:out.toList=css.flatten:=by
  rw[ho2];have:=aBb (k:=i.size) css 0 [] base.toList (fun c hc=>by
   simp only[css,db]at hc;obtain⟨x,hx,rfl⟩:=hc;simpa using hsize x (db.2 hx)) (by simp) (by rw[hbase,hcssl])
  simpa[rs]using this
 refine Does.val (v:=.slice (some ⟨w.heap.size,0,none⟩) k k) (w':=w.alloc (.cells out e)) ?_ ?_
 ·have hnz:¬(k*i.size=0):=by have:=Nat.mul_pos hkpos hc3;omega
  have hle:¬(16777216<k*i.size):=by omega
  have ho1':Instr.fill (fun j=>some (j*i.size,i.size)) ((ig (k*i.size)).map (z.cells[· %z.cells.size]!)) (ps.map fun(i,x)=>(i,ρ x)).toList=some out:=ho1;simp only[execOp,ho,Instr.buildSlice,Sem.run_bind,run_underlying hT,bK hi,Result.andThen_ok];simp only[show(2:Nat)^24=16777216 from rfl,hle,hnz,if_false,Sem.run_bind,kQ hi hz,Result.andThen_ok,Sem.run_pure,ho1'];simp[newRow]
 ·
  have hosz:out.size=k*i.size:=by
   have h1:out.toList.length=(css.flatten).length:=by rw[hout]
   have h2:(css.flatten).length=css.length*i.size:=by
    have:∀(l:List (List Value)),(∀c∈l,c.length=i.size)->l.flatten.length=l.length*i.size:=fun l=>by
     induction l with
     |nil=>simp
     |cons c l ih=>intro hl;simp[ih (fun d hd=>hl d (by simp[hd])),hl c (by simp),cz];omega
    exact this css (fun c hc=>by
     simp only[css,db]at hc;obtain⟨x,hx,rfl⟩:=hc;simpa using hsize x (db.2 hx))
   rw[h2,hcssl]at h1;simpa using h1
  refine PPost.data (w':=w.alloc (.cells out e)) hS out.toList rfl (.same rfl rfl) rfl (by rw[World.size_alloc];omega) (fun j hj=>heap_alloc_old w _ hj) (fun j v hj=>?_) fun G' hle hG'=>?_
  ·have:=heap_alloc_new w (.cells out e (0,0));unfold World.cell?;rw[this];simpa using hj
  ·have hl:es.length=k:=by rw[hout3.2.1];simp[hk]
   unfold AV.Rep DV.Rep;refine⟨⟨some ⟨w.heap.size,0,none⟩,k,by rw[hl],by omega,(fun h=>by cases h),fun _=>⟨w.heap.size,0,i.size,rfl,?_⟩⟩,some ⟨w.heap.size,0,none⟩,by rw[hl]⟩;refine(hout3.2.2 (fun o=>G' w.heap.size o) 0 (fun j hj=>?_)).mono hle (fun _ _ h=>h);rw[bq];have hj':j<out.toList.length:=by rw[hout];exact hj
   show G' w.heap.size j=(css.flatten)[j]?;rw[<-hout,ν hj'];exact hG' j _ (ν hj')
theorem bCv(ho:o.op=.makeInterface T x)(hT:P.underlying T=some (.struct fs))(h:aQ P lk n ev (.mkI T x) K):PS P o (.mkI T x) lk n ev K:=by
 obtain⟨hx,hK⟩:=h;refine⟨_,_,_,hK,fun _=>⟨rfl,rfl⟩,(by intro h hh;cases hh),fun G m w ρ _ lk2 _ hS hev _=>?_⟩;have hr:=evr hev hx (by simp[ROp.operands]);unfold AV.Rep at hr;obtain⟨vs,hv,hvs⟩:=hr;unfold AV.RepL at hvs;have:vs=#[]:=by simpa using hvs
 subst this;refine Does.val (v:=.iface T (.agg #[])) (w':=w) ?_ (PPost.val hS (by unfold AV.Rep DV.Rep;rfl));simp[execOp,ho,hv,Instr.makeInterface,run_underlying hT]
theorem aVp{ag:Option Nat}(ho:o.op=.load T x)(hr:aA P o=some (.load ag x))(h:aQ P lk n ev (.loadD ag x) K):PS P o (.loadD ag x) lk n ev K:=by
 have hp:aQ P (fun _=>none) n ev (.load ag x) (fun a nbs fz=>nbs=[]/\fz=[]/\K a nbs fz):=by show lQ _ ag (fun a=>([]:List Blk)=[]/\([]:List Hd)=[]/\K a [] []) (ev x);simp only[true_and];exact h
 obtain⟨a,nbs,fz,⟨rfl,rfl,hK⟩,_,_,hD⟩:=aIm ho hr hp;exact⟨a,[],[],hK,fun _=>⟨rfl,rfl⟩,(by intro h hh;cases hh),fun G m w ρ hρ lk2 _ hS hev hn=>hD G m w ρ hρ lk2 (fun _ y b hb=>by cases hb) hS hev hn⟩
theorem aY5{mx:Option Operand}(ho:o.op=.slice T x lo hi mx)(hT:P.underlying T=some (.slice e))(hr:aA P o=some (.sll k x lo hi mx))(h:aQ P lk n ev (.sllD k x lo hi mx) K):PS P o (.sllD k x lo hi mx) lk n ev K:=by
 have hp:aQ P (fun _=>none) n ev (.sll k x lo hi mx) (fun a nbs fz=>nbs=[]/\fz=[]/\K a nbs fz):=by
  have h:(match ev x with
   |.D (.L es)=>nV k ev lo hi mx (fun a=>K a [] []) (.D (.L es))
   |.fl es=>nV k ev lo hi mx (fun a=>K a [] []) (.fl es)
   |_=>False):=h
  show AV.live (fun _=>none) (ev x)=true/\nV k ev lo hi mx (fun a=>([]:List Blk)=[]/\([]:List Hd)=[]/\K a [] []) (ev x);simp only[true_and];split at h
  ·rename_i es hx;rw[hx];exact⟨rfl,h⟩
  ·rename_i es hx;rw[hx];exact⟨rfl,h⟩
  ·exact h.elim
 obtain⟨a,nbs,fz,⟨rfl,rfl,hK⟩,_,_,hD⟩:=aT9 ho hT hr hp;exact⟨a,[],[],hK,fun _=>⟨rfl,rfl⟩,(by intro h hh;cases hh),fun G m w ρ hρ lk2 _ hS hev hn=>hD G m w ρ hρ lk2 (fun _ y b hb=>by cases hb) hS hev hn⟩
theorem aQ9{i:Operand}(ho:o.op=.indexAddr T x i)(hT:P.underlying T=some (.slice e))(hr:aA P o=some (.iaddr k x i))(h:aQ P lk n ev (.iaddrD k x i) K):PS P o (.iaddrD k x i) lk n ev K:=by
 have hp:aQ P (fun _=>none) n ev (.iaddr k x i) (fun a nbs fz=>nbs=[]/\fz=[]/\K a nbs fz):=by
  obtain⟨kd,j,hj,h0,h'⟩:=h;split at h'
  ·rename_i es hx;obtain⟨e',he,hl,hK⟩:=h';refine⟨by rw[hx];rfl,kd,j,hj,h0,?_⟩;rw[hx];exact⟨e',he,hl,rfl,rfl,hK⟩
  ·rename_i es hx;obtain⟨e',he,hl,hK⟩:=h';refine⟨by rw[hx];rfl,kd,j,hj,h0,?_⟩;rw[hx];exact⟨e',he,hl,rfl,rfl,hK⟩
  ·exact h'.elim
 obtain⟨a,nbs,fz,⟨rfl,rfl,hK⟩,_,_,hD⟩:=aJs ho hT hr hp;exact⟨a,[],[],hK,fun _=>⟨rfl,rfl⟩,(by intro h hh;cases hh),fun G m w ρ hρ lk2 _ hS hev hn=>hD G m w ρ hρ lk2 (fun _ y b hb=>by cases hb) hS hev hn⟩
theorem bDg{ms:Array (String×TypeId)}(ho:o.op=.binOp op T x (.const .nilIface) yT)(hT:P.underlying T=some (.interface ms))(hc:pJ op=true)(h:aQ P lk n ev (.isn (cI op) x) K):PS P o (.isn (cI op) x) lk n ev K:=by
 obtain⟨v,hx,h⟩:=h;have hT':P.underlying T=some (.interface (P.methodsAt T)):=by simp[Program.methodsAt,hT]
 have hops:op=.eql\/op=.neq:=by cases op<;>simp[pJ]at hc|-
 split at h
 ·refine⟨_,_,_,h,fun _=>⟨rfl,rfl⟩,(by intro h hh;cases hh),fun G m w ρ hρ lk2 _ hS hev _=>?_⟩;have hr:=evr hev hx (by simp[ROp.operands]);unfold AV.Rep DV.Rep at hr;have he:(Op.equalIn 10000 T .nilIface .nilIface).run P w=.ok true w:=run_equalIn_nil_nil w 9999 T hT';refine Does.val (v:=.bool (!cI op)) (w':=w) ?_ (PPost.val hS (by unfold AV.Rep DV.Rep;rfl));rcases hops with rfl|rfl
  ·simp[execOp,ho,hr,hρ,eqGuard,binOp,Op.equal,Op.maxDepth,he,cI]
  ·simp[execOp,ho,hr,hρ,eqGuard,binOp,Op.equal,Op.maxDepth,he,cI]
 ·rename_i u x';refine⟨_,_,_,h,fun _=>⟨rfl,rfl⟩,(by intro h hh;cases hh),fun G m w ρ hρ lk2 _ hS hev _=>?_⟩;have hr:=evr hev hx (by simp[ROp.operands]);unfold AV.Rep DV.Rep at hr;have he:(Op.equalIn 10000 T (.iface u x') .nilIface).run P w=.ok false w:=run_equalIn_held_nil w 9999 T u x' hT';refine Does.val (v:=.bool (cI op)) (w':=w) ?_ (PPost.val hS (by unfold AV.Rep DV.Rep;rfl));rcases hops with rfl|rfl
  ·simp[execOp,ho,hr,hρ,eqGuard,binOp,Op.equal,Op.maxDepth,he,cI]
  ·simp[execOp,ho,hr,hρ,eqGuard,binOp,Op.equal,Op.maxDepth,he,cI]
 ·exact h.elim
theorem bA2{xT:TypeId}(ho:o.op=.typeAssert x xT T true)(hT:P.underlying T=some (.struct fs))(h:aQ P lk n ev (.tas T x) K):PS P o (.tas T x) lk n ev K:=by
 obtain⟨hx,hK⟩:=h;refine⟨_,_,_,hK,fun _=>⟨rfl,rfl⟩,(by intro h hh;cases hh),fun G m w ρ _ lk2 _ hS hev _=>?_⟩;have hr:=evr hev hx (by simp[ROp.operands]);unfold AV.Rep DV.Rep at hr;refine Does.val (v:=.tuple #[.agg #[],.bool true]) (w':=w) ?_ (PPost.val hS ?_)
 ·simp[execOp,ho,hr,Instr.typeAssert,run_underlying hT]
 ·unfold AV.Rep;refine⟨_,rfl,?_⟩;unfold AV.RepL;refine⟨_,_,rfl,?_,?_⟩
  ·unfold AV.Rep;exact⟨_,rfl,by unfold AV.RepL;rfl⟩
  ·unfold AV.RepL;exact⟨_,_,rfl,by unfold AV.Rep DV.Rep;rfl,by unfold AV.RepL;rfl⟩
end
section
variable{P:Program}{w:World}{kt:TypeId}{kd:KD}
end
section
variable{P:Program}{o:Oper}{lk:aY}{n:Nat}{ev:Operand->AV}{K:AV->List Blk->List Hd->Prop}
end
section
variable{P:Program}{o:Oper}{lk:aY}{n:Nat}{ev:Operand->AV}{K:AV->List Blk->List Hd->Prop}
theorem bB4{dst:TypeId}{k0 k:IntKind}(ho:o.op=.convert src dst x)(hs:P.underlying src=some (.int k0))(hd:P.underlying dst=some (.int k))(h:aQ P lk n ev (.cvI k x) K):PS P o (.cvI k x) lk n ev K:=by obtain⟨k',j,hx,hK⟩:=h;refine⟨_,_,_,hK,fun _=>⟨rfl,rfl⟩,(by intro h hh;cases hh),fun G m w ρ _ lk2 hls hS hev _=>?_⟩;have hr:=jL (evr hev hx (by simp[ROp.operands]));refine Does.val (v:=.int k (k.wrap j)) (w':=w) ?_ (PPost.val hS (by unfold AV.Rep DV.Rep;rfl));simp[execOp,ho,hr,convert,run_underlying hs,run_underlying hd,Conv.intToInt]
theorem aDw{lk2:aY}(hS:Sim G m lk2 w)(hls:LkSame lk lk2){a:AV}(hr:AV.Rep G m a v)(hl:AV.live lk a=true)(hk:a.len? false=some k):
  ∃p cap,v=.slice p k cap/\(p=none->k=0):=by
 unfold AV.len? at hk;split at hk
 ·cases hk;obtain⟨p,cap,hv,hcap,hn,_⟩:=yD hr;exact⟨p,cap,hv,fun e=>by have:=hn e;omega⟩
 ·cases hk;unfold AV.Rep at hr;obtain⟨p,cap,hv,hcap,hn,_⟩:=yD (m:=m) (by unfold AV.Rep;exact hr.1);exact⟨p,cap,hv,fun e=>by have:=hn e;omega⟩
 ·cases hk;obtain⟨loc,_,hsl⟩:=aC0 hS hls hr hl;rcases hsl with⟨p,hv,h0⟩|⟨b,sz,cap,_,hv,_⟩
  ·exact⟨p,0,by rw[hv,h0],fun _=>h0⟩
  ·exact⟨_,cap,hv,fun e=>by cases e⟩
 ·cases hk;obtain⟨loc,_,hsl⟩:=tT hS hls hr hl;obtain⟨b,sz,_,hv,_⟩:=hsl;exact⟨_,_,hv,fun e=>by cases e⟩
 ·simp_all
 ·cases hk
theorem zN(w:World)(d:Nat)(T:TypeId)(p:Option Addr)(k cap:Nat)(hd:P.underlying T=some (.slice e)):(Op.equalIn (d+1) T (.slice p k cap) (.slice none 0 0)).run P w=.ok p.isNone w:=by unfold Op.equalIn;simp only[Sem.run_bind,run_underlying hd,Result.andThen_ok];cases p<;>simp
theorem aB8(w:World)(d:Nat)(T:TypeId)(p:Option Addr)(hd:P.underlying T=some (.pointer e)):(Op.equalIn (d+1) T (.pointer p) (.pointer none)).run P w=.ok p.isNone w:=by unfold Op.equalIn;simp only[Sem.run_bind,run_underlying hd,Result.andThen_ok];cases p<;>simp
theorem bA9(ho:o.op=.binOp op T x y yT)(hd:P.underlying T=some (.pointer e))(hr:aA P o=some ro)(h:aQ P lk n ev ro K):PS P o ro lk n ev K:=by
 simp only[aA,ho,hd]at hr;split at hr
 case h_2=>cases hr
 have hops:op=.eql\/op=.neq:=by cases op<;>simp[pJ]at hr|-
 have hro:ro=.isp (cI op) x:=by rcases hops with rfl|rfl<;>simpa[pJ]using hr.symm
 subst hro;obtain⟨hl,h⟩:=h;have hrun:∀(ρ:Operand->Value) (_:∀v,ρ (.const v)=v) (w:World) (p:Option Addr),ρ x=.pointer p->(execOp ρ o).run P w=.ok (.value (.bool (if cI op=true then !p.isNone else p.isNone))) w:=fun ρ hρ w p hv=>by
  have hg:∀o',(eqGuard o' T x (.const (.pointer none)) (.pointer p) (.pointer none)).run P w=.ok () w:=fun o'=>by unfold eqGuard;split<;>simp
  have he:(Op.equal T (.pointer p) (.pointer none)).run P w=.ok p.isNone w:=by exact aB8 w 9999 T p hd
  have hb:∀o',o'=.eql\/o'=.neq->(binOp o' T (.pointer p) (.pointer none)).run P w=.ok (.bool (if cI o'=true then !p.isNone else p.isNone)) w:=fun o' h'=>by rcases h' with rfl|rfl<;>simp[binOp,he,cI]
  rcases hops with rfl|rfl<;>simp[execOp,ho,hv,hρ,hg,hb _ (.inl rfl),hb _ (.inr rfl),cI]
 generalize hx:ev x=ax at h hl;split at h
 ·refine⟨_,_,_,h,(by intro hh;cases hh),(by intro h hh;cases hh),fun G m w ρ hρ lk2 hls hS hev _=>?_⟩;have hr:=evr hev hx (by simp[ROp.operands]);obtain⟨b,sz,hloc,hp⟩:=sV hS (hls rfl) hr hl;refine Does.val (hrun ρ hρ w _ hp) (PPost.val hS ?_);unfold AV.Rep DV.Rep;cases cI op<;>rfl
 ·refine⟨_,_,_,h,(by intro hh;cases hh),(by intro h hh;cases hh),fun G m w ρ hρ lk2 hls hS hev _=>?_⟩;have hr:=evr hev hx (by simp[ROp.operands]);unfold AV.Rep DV.Rep at hr;refine Does.val (hrun ρ hρ w _ hr) (PPost.val hS ?_);unfold AV.Rep DV.Rep;cases cI op<;>rfl
 ·exact h.elim
theorem aTi(ho:o.op=.binOp op T x y yT)(hd:P.underlying T=some (.slice e))(hr:aA P o=some ro)(h:aQ P lk n ev ro K):PS P o ro lk n ev K:=by
 simp only[aA,ho,hd]at hr;split at hr
 case h_2=>cases hr
 have hops:op=.eql\/op=.neq:=by cases op<;>simp[pJ]at hr|-
 have hro:ro=.isnil (cI op) x:=by rcases hops with rfl|rfl<;>simpa[pJ]using hr.symm
 subst hro;obtain⟨hl,k,hk,h⟩:=h;have hrun:∀(ρ:Operand->Value) (_:∀v,ρ (.const v)=v) (w:World) (p:Option Addr) (cap:Nat),ρ x=.slice p k cap->(execOp ρ o).run P w=.ok (.value (.bool (if cI op=true then !p.isNone else p.isNone))) w:=fun ρ hρ w p cap hv=>by
  have hg:∀o',(eqGuard o' T x (.const (.slice none 0 0)) (.slice p k cap) (.slice none 0 0)).run P w=.ok () w:=fun o'=>by unfold eqGuard;split<;>simp
  have he:(Op.equal T (.slice p k cap) (.slice none 0 0)).run P w=.ok p.isNone w:=by exact zN w 9999 T p k cap hd
  have hb:∀o',o'=.eql\/o'=.neq->(binOp o' T (.slice p k cap) (.slice none 0 0)).run P w=.ok (.bool (if cI o'=true then !p.isNone else p.isNone)) w:=fun o' h'=>by rcases h' with rfl|rfl<;>simp[binOp,he,cI]
  rcases hops with rfl|rfl<;>simp[execOp,ho,hv,hρ,hg,hb _ (.inl rfl),hb _ (.inr rfl),cI]
 split at h
 ·refine⟨_,_,_,h,(by intro hh;cases hh),(by intro h hh;cases hh),fun G m w ρ hρ lk2 hls hS hev _=>?_⟩;obtain⟨p,cap,hv,_⟩:=aDw hS (hls rfl) (hev x (by simp[ROp.operands])) hl hk;exact Does.val (hrun ρ hρ w p cap hv) (PPost.val hS (by unfold AV.Rep;exact⟨_,rfl⟩))
 ·rename_i hk0;refine⟨_,_,_,h,(by intro hh;cases hh),(by intro h hh;cases hh),fun G m w ρ hρ lk2 hls hS hev _=>?_⟩;obtain⟨p,cap,hv,hn⟩:=aDw hS (hls rfl) (hev x (by simp[ROp.operands])) hl hk;refine Does.val (hrun ρ hρ w p cap hv) (PPost.val hS ?_);have:p.isNone=false:=by cases p with
   |none=>exact absurd (hn rfl) hk0
   |some a=>rfl
  unfold AV.Rep DV.Rep;rw[this];cases cI op<;>rfl
theorem aFd{G:Gh}{f:Nat->Option Value}:∀{ys:List (List DV)} {t:List UInt8} {vs:List Value} {o:Nat},mS ys=some t->DV.rows G f 1 o ys->vs.length=ys.length->(∀i,i<vs.length->f (o+i)=vs[i]?)->
  ∃ns:List Int,vs=ns.map (Value.int .u8)/\ns.map (fun n=>UInt8.ofNat n.toNat)=t
 |[],t,vs,o,hb,_,hl,_=>by
  simp only[mS,Option.some.injEq]at hb;exact⟨[],by simpa using hl,hb⟩
 |y::ys,t,[],o,hb,_,hl,_=>by simp at hl
 |y::ys,t,v::vs,o,hb,hrow,hl,hf=>by
  unfold mS at hb;split at hb
  ·rename_i heq;cases heq
  ·rename_i n r heq;cases heq;rw[ζ]at hb;obtain⟨t',hb,rfl⟩:=hb;unfold DV.rows at hrow;obtain⟨_,hc,hrow⟩:=hrow;unfold DV.cells at hc;obtain⟨⟨u,h1,h2⟩,_⟩:=hc;unfold DV.Rep at h2;have h3:=hf 0 (by simp);rw[e9,h1]at h3;simp only[fa,Option.some.injEq]at h3;obtain⟨ns,k1,k2⟩:=aFd hb hrow (by simpa using hl) (fun i hi=>by
    have:=hf (i+1) (by simpa using hi);rw[show o+1+i=o+(i+1) by omega,this];simp)
   exact⟨n::ns,by rw[df,<-k1,<-h3,h2],by rw[df,k2]⟩
  ·cases hb
theorem aGc:∀{ys:List (List DV)} {t:List UInt8},mS ys=some t->Uni 1 ys
 |[],_,_=>fun e he=>by cases he
 |y::ys,t,h=>by
  unfold mS at h;split at h
  ·rename_i heq;cases heq
  ·rename_i n r heq;cases heq;rw[ζ]at h;obtain⟨t',h,_⟩:=h;intro e he;rcases cq.1 he with rfl|he
   ·rfl
   ·exact aGc h e he
  ·cases h
theorem bBr{dst:TypeId}(ho:o.op=.convert src dst x)(hs:P.underlying src=some (.slice e))(he:P.underlying e=some (.int .u8))(hd:P.underlying dst=some .string)(h:aQ P lk n ev (.cvS x) K):PS P o (.cvS x) lk n ev K:=by
 obtain⟨ys,t,hx,ht,hns,hK⟩:=h;refine⟨_,_,_,hK,(by intro hh;cases hh),(by intro h hh;cases hh),fun G m w ρ _ lk2 hls hS hev _=>?_⟩;have hr:=hev x (by simp[ROp.operands]);obtain⟨c1,vs,c2,c3,c4⟩:=cZ (P:=P) hS (hls rfl).row hr hx (aGc ht);have hsl:∃p len cap,ρ x=.slice p len cap:=by
  unfold AV.content at hx;split at hx
  ·rename_i heq;rw[heq]at hr;obtain⟨a,cap,hv,_⟩:=yD hr;exact⟨a,_,cap,hv⟩
  ·rename_i heq;rw[heq]at hr;unfold AV.Rep at hr;obtain⟨_,a,hv⟩:=hr;exact⟨a,_,_,hv⟩
  ·rename_i hd' k off len heq;rw[heq]at hr;split at hx
   case h_2=>cases hx
   rename_i mt k2 es hl;obtain⟨mt',hl'⟩:=(hls rfl).row _ _ _ _ hl;unfold AV.Rep at hr;obtain⟨_,loc,hloc,hsl⟩:=hr;have hnd:loc≠.dead:=fun e=>by subst e;rw[hS.dead _ hloc]at hl';cases hl'
   rcases hsl hnd with⟨p,hv,rfl⟩|⟨b,sz,cap,rfl,hv,hcap,hsz⟩
   ·exact⟨_,_,_,hv⟩
   ·exact⟨_,_,_,hv⟩
  ·rename_i hd' k off len cap0 heq;rw[heq]at hr;split at hx
   case h_2=>cases hx
   rename_i mt k2 es hl;obtain⟨mt',hl'⟩:=(hls rfl).row _ _ _ _ hl;unfold AV.Rep at hr;obtain⟨_,loc,hloc,hsl⟩:=hr;have hnd:loc≠.dead:=fun e=>by subst e;rw[hS.dead _ hloc]at hl';cases hl'
   obtain⟨b,sz,rfl,hv,hcap,hsz⟩:=hsl hnd;exact⟨_,_,_,hv⟩
  ·rename_i heq;rw[heq]at hns;cases hns
  ·cases hx
 obtain⟨p,len,cap,hv⟩:=hsl;have hlen:len=ys.length:=by have:=c1 w;rw[hv]at this;simpa[Builtin.lenOf]using this
 obtain⟨ns,k1,k2⟩:=aFd (G:=G) (f:=fun i=>vs[i]?) (o:=0) ht (c4 G _ 0 (Gh.le.refl G) (fun i _=>by simp)) (by simpa using c2) (fun i _=>by simp);refine Does.val (v:=.string ⟨t.toArray⟩) (w':=w) ?_ (PPost.val hS (by unfold AV.Rep DV.Rep;rfl));have hconv:(convert src dst (.slice p len cap)).run P w=.ok (.string ⟨t.toArray⟩) w:=by
  cases p with
  |none=>
   rw[run_convert_bytes_nil w src e hs he len cap dst hd];have:vs=[]:=by have:=c3 w rfl;rw[hv]at this;simp[Builtin.firstCells]at this;simpa using this.symm
   subst this;have hns':ns=[]:=by simpa using k1.symm
   subst hns';rw[<-k2];rfl
  |some a=>
   rw[run_convert_bytes_string w src dst e _ len cap hs he hd,run_bytesToString w a len cap ns ?_,foldl_push_bytes,k2]
   ·simp[ByteArray.empty,ByteArray.emptyWithCapacity];rfl
   ·have:=c3 w rfl;rw[hv]at this;simpa[Builtin.firstCells,hlen,k1]using this
 simp[execOp,ho,hv,hconv]
end
theorem aNf(G:Gh)(v:Value):DV.Rep G (fC v) v:=by
 unfold fC;split
 ·simp[DV.Rep]
 ·simp[DV.Rep]
 ·simp[DV.Rep]
 ·simp only[DV.Rep];exact⟨none,0,rfl,π _,fun _=>rfl,fun h=>absurd rfl h⟩
 ·simp[DV.Rep]
theorem aE6(G:Gh)(f:Nat->Option Value):∀(zs:List Value) (o:Nat),(∀j,j<zs.length->f (o+j)=zs[j]?)->DV.cells G f o (zs.map fC)
 |[],_,_=>by simp[DV.cells]
 |z::zs,o,h=>by simp only[df];unfold DV.cells;refine⟨⟨z,by simpa using h 0 (by simp),aNf G z⟩,aE6 G f zs (o+1) (fun j hj=>?_)⟩;have:=h (j+1) (by simp;omega);simpa[show o+1+j=o+(j+1) by omega]using this
theorem vI(G:Gh)(f:Nat->Option Value)(zs:List Value):∀(n o:Nat),(∀j,j<n*zs.length->f (o+j)=zs[j%zs.length]?)->DV.rows G f zs.length o (br n (zs.map fC))
 |0,_,_=>by simp[DV.rows]
 |n+1,o,h=>by
  have hl:(n+1)*zs.length=zs.length+n*zs.length:=by rw[cz];omega
  simp only[iv];unfold DV.rows;refine⟨by simp,aE6 G f zs o (fun j hj=>?_),vI G f zs n (o+zs.length) (fun j hj=>?_)⟩
  ·rw[h j (by omega),Nat.mod_eq_of_lt hj]
  ·rw[gc,h (zs.length+j) (by omega),Nat.add_mod_left]
theorem bA7{lk:aY}{ev:Operand->AV}{K:AV->List Blk->List Hd->Prop}(ho:o.op=.makeSlice T x y)(ht:P.underlying T=some (.slice e))(hi:P.info? e=some i)(hz:i.zero=some z)(hz':z.cells.size=i.size)
  (h:aQ P lk n ev (.mks i.size i.bytes (z.cells.toList.map fC) x y) K):PS P o (.mks i.size i.bytes (z.cells.toList.map fC) x y) lk n ev K:=by
 obtain⟨k1,k2,l,c,hx,hy,h0,hlc,h63,hb,hK⟩:=h;refine⟨_,_,_,hK,(by intro hh;cases hh),(by intro h hh;cases hh),fun G m w ρ _ lk2 _ hS hev hn=>?_⟩;have hvx:=jL (hx▸hev x (by simp[ROp.operands]));have hvy:=jL (hy▸hev y (by simp[ROp.operands]));have hlc':l.toNat<=c.toNat:=by omega
 have hsz:(madeCells z.cells (c.toNat*i.size)).size=c.toNat*i.size:=size_madeCells _ _;refine Does.val (v:=.slice (some ⟨w.heap.size,0,none⟩) l.toNat c.toNat) (w':=w.alloc (.cells (madeCells z.cells (c.toNat*i.size)) e)) ?_ (PPost.new hS (by simpa using hn 0 (by simp)) _ _ _ (fun m' hm'=>?_) fun m' _ hm'=>?_)
 ·have:=run_make (P:=P) w T e i z ht hi hz k1 k2 l c h0 hlc hb h63;simp only[execOp,ho,hvx,hvy,Sem.run_bind,this];simp
 ·unfold BlkRep;have hm:l.toNat*i.size<=c.toNat*i.size:=c8 _ hlc';refine⟨_,e,heap_alloc_new _ _,rfl,by rw[hsz,ib];exact hm,?_,fun o=>qT hS (π _) o⟩;have hzl:z.cells.toList.length=i.size:=by simpa using hz'
  have:=vI G (fun o=>(madeCells z.cells (c.toNat*i.size))[o]?) z.cells.toList l.toNat 0 (fun j hj=>?_)
  ·rwa[hzl]at this
  ·rw[hzl]at hj;have hpos:0<i.size:=Nat.pos_of_ne_zero (fun e=>by rw[e]at hj;simp at hj);have hmm:j%z.cells.size<z.cells.size:=j0 _ (by rw[hz'];exact hpos);rw[bq];simp only[madeCells,jv,e7,cc];rw[jg,if_pos (d7 hj (c8 _ hlc'))];simp only[c7];rw[i7,cp,gm hmm];rfl
 ·unfold AV.Rep;refine⟨rfl,_,hm',fun _=>.inr ⟨_,_,c.toNat,rfl,by simp,hlc',by rw[hsz];simp⟩⟩
theorem aWt{lk:aY}{ev:Operand->AV}{K:AV->List Blk->List Hd->Prop}(ho:o.op=.call c)(hc:c.callee=.builtin .cap)(ha:c.args.toList=[x])(ht:c.argTypes.toList=[t])
  (hd:P.underlying t=some (.slice e)) (h:aQ P lk n ev (.capK x) K):PS P o (.capK x) lk n ev K:=by
 obtain⟨hl,cap,hx,hK⟩:=h;refine⟨_,_,_,hK,(by intro hh;cases hh),(by intro h hh;cases hh),fun G m w ρ _ lk2 hls hS hev _=>?_⟩;have ha':c.args=#[x]:=by rw[<-cm (xs:=c.args),ha]
 have ht':c.argTypes=#[t]:=by rw[<-cm (xs:=c.argTypes),ht]
 refine Does.val (v:=.int .i64 cap) (w':=w) ?_ (PPost.val hS (by unfold AV.Rep DV.Rep;rfl));simp only[execOp,ho,resolve,hc,ha',ht',invoke,builtin];rcases hx with⟨h,k,off,len,hx⟩|⟨es,hx,rfl⟩
 ·have hr:=hx▸hev x (by simp[ROp.operands]);obtain⟨loc,_,b,sz,_,hv,_⟩:=tT hS (hls rfl) hr (hx▸hl);simp[Builtin.cap_,run_underlying hd,hv,goInt]
 ·have hr:=hx▸hev x (by simp[ROp.operands]);unfold AV.Rep at hr;obtain⟨_,a,hv⟩:=hr;simp[Builtin.cap_,run_underlying hd,hv,goInt]
theorem aAx{k:IntKind}(ht:P.underlying t=some (.slice e))(hu:P.underlying u=some (.int kn))(hi:P.info? e=some i)(hz:i.zero=some z)(hz':z.cells.size=i.size)
 {s:Value} {a:Option Addr} {m:Nat} (hs:s=.slice a sLen sCap)
  (holds:(Builtin.firstCells i.size sLen s).run P w.drew=.ok olds w.drew)
  (hg:sCap<sLen+m) (hb:(sLen+m)*i.bytes<=140737488355328) (h63:((sLen+m:Nat):Int)<=9223372036854775807):
  ∃ rest:Array Value,(Builtin.append_ #[t,u] ty #[s,.int k (m:Int)]).run P w=.ok (.slice (some ⟨w.heap.size,0,none⟩) (sLen + m) (grownCap w (sLen + m) sCap e))
    (w.drew.alloc (.cells (olds++Builtin.zeroCells z.cells m++rest) e))/\rest.size=(grownCap w (sLen+m) sCap e-(sLen+m))*z.cells.size:=by
 refine⟨Builtin.zeroCells z.cells (grownCap w (sLen+m) sCap e-(sLen+m)),?_,size_zeroCells _ _⟩;have hfit:=growslice_fits (bytes:=i.bytes) hg hb;have hn:¬(sLen+m<=sCap):=by omega
 have hw:IntKind.i64.wrap (m:Int)=m:=by rw[IntKind.wrap_i64];omega
 have hneg:¬((m:Int)<0):=by omega
 have h48:m*i.bytes<=281474976710656:=cx (c8 _ (Nat.le_add_left m sLen)) (by omega);have h48i:¬(281474976710656<(m:Int)*(i.bytes:Int)):=by rw[<-Int.natCast_mul];omega
 have h63':¬(9223372036854775807<(sLen:Int)+(m:Int)):=by omega
 have h48':¬(281474976710656<Builtin.nextslicecap (sLen+m) sCap*i.bytes):=by omega
 subst hs;by_cases hm:m*i.size=0
 ·have hz0:Builtin.zeroCells z.cells m=#[]:=by unfold Builtin.zeroCells;rw[hz',hm];simp
  simp[Builtin.append_,sizeOf,typeInfo,zeroValue,run_underlying ht,run_underlying hu,hi,hz,asInt,asIntOf,hw,hneg,h48i,hm,Question.forced,newRow,grownCap];rw[if_neg hn,if_neg h63',if_neg h48',holds];simp[hz0]
 ·simp[Builtin.append_,sizeOf,typeInfo,zeroValue,run_underlying ht,run_underlying hu,hi,hz,asInt,asIntOf,hw,hneg,h48i,hm,Question.forced,newRow,grownCap];rw[if_neg hn,if_neg h63',if_neg h48',holds];simp
theorem aYo{lk:aY}{ev:Operand->AV}{K:AV->List Blk->List Hd->Prop}(ho:o.op=.call c)(hc:c.callee=.builtin .append)(ha:c.args.toList=[x,y])(hta:c.argTypes.toList=[t,u])
  (ht:P.underlying t=some (.slice e)) (hu:P.underlying u=some (.int kn)) (hi:P.info? e=some i) (hz:i.zero=some z) (hz':z.cells.size=i.size) (hbytes:0<i.bytes) (hsize:0<i.size)
  (h:aQ P lk n ev (.appZ i.size i.bytes (z.cells.toList.map fC) x y) K):PS P o (.appZ i.size i.bytes (z.cells.toList.map fC) x y) lk n ev K:=by
 obtain⟨hl,len,cap,kd,j,es,hx0,hy,h0,hle,hu1,hg,hb,hK⟩:=h;have ha':c.args=#[x,y]:=by rw[<-cm (xs:=c.args),ha]
 have ht':c.argTypes=#[t,u]:=by rw[<-cm (xs:=c.argTypes),hta]
 have hexec:∀(ρ:Operand->Value) (v:Value) (w w':World),(Builtin.append_ #[t,u] o.type #[ρ x,ρ y]).run P w=.ok v w'->(execOp ρ o).run P w=.ok (.value v) w':=fun ρ v w w' h=>by simp only[execOp,ho,resolve,hc,ha',ht',invoke,builtin,Sem.run_bind,Sem.run_pure,Result.andThen_ok];simp[h]
 refine⟨_,_,_,hK,(by intro hh;cases hh),(by intro h hh;cases hh),fun G m w ρ _ lk2 hls hS hev hn=>?_⟩;have hvy:=jL (hy▸hev y (by simp[ROp.operands]));have hut:Uni i.size (es.take len):=fun e he=>hu1 e (ex he);have hrx:=hev x (by simp[ROp.operands]);obtain⟨ad,hv⟩:∃ad,ρ x=.slice ad len cap:=by
  rcases hx0 with⟨hd,mt,hx,hlk⟩|⟨hx,rfl,rfl,rfl⟩
  ·obtain⟨loc,hloc,b,sz,rfl,hv,hcap,hsz⟩:=tT hS (hls rfl) (hx▸hrx) (hx▸hl);exact⟨_,hv⟩
  ·rw[hx]at hrx;unfold AV.Rep at hrx;exact hrx.2
 have hct:AV.content lk (ev x)=some (es.take len):=by
  rcases hx0 with⟨hd,mt,hx,hlk⟩|⟨hx,rfl,rfl,rfl⟩
  ·rw[hx];simp only[AV.content,hlk];simp[hle]
  ·rw[hx];rfl
 obtain⟨_,os,o2,o3,o4⟩:=cZ (P:=P) hS (hls rfl).row hrx hct hut;have hlen:(es.take len).length=len:=by simp;omega
 rw[hlen]at o2;have hfits:len+j.toNat<=9223372036854775807:=by have:=i0 (len+j.toNat) hbytes;omega
 have hjj:j=((j.toNat:Nat):Int):=by omega
 obtain⟨rest,hrun,hrest⟩:=aAx (ty:=o.type) (k:=kd) ht hu hi hz hz' hv (by have:=o3 w.drew rfl;rwa[hlen]at this) hg hb (by omega);rw[<-hjj,<-hvy]at hrun;refine Does.val (hexec ρ _ w _ hrun) ?_;refine PPost.of_drew ?_;have hge:=grownCap_ge w (len+j.toNat) cap e;have hzs:(Builtin.zeroCells z.cells j.toNat).size=j.toNat*i.size:=by rw[size_zeroCells,hz']
 have hszz:(os.toArray++Builtin.zeroCells z.cells j.toNat++rest).size=grownCap w (len+j.toNat) cap e*i.size:=by simp only[Array.size_append,i6,o2,hzs,hrest,hz'];rw[<-cz,<-cz];congr 1;omega
 have hS1:=hS.drew;refine PPost.new hS1 (by simpa using hn 0 (by simp)) _ _ _ (fun m' hm'=>?_) (fun m' hm' hmn=>?_)
 ·unfold BlkRep;refine⟨_,e,heap_alloc_new _ _,rfl,?_,?_,fun o=>qT hS1 (π _) o⟩
  ·rw[hszz,κ,hlen,ib];exact c8 _ hge
  ·refine DV.rows_append (o4 G _ 0 (Gh.le.refl G) (fun q hq=>?_)) ?_
   ·rw[bq,<-cc];simp only[ep];rw[a9,b6 (by simpa using hq)]
   ·have hzl:z.cells.toList.length=i.size:=by simpa using hz'
    have:=vI G (fun o=>(os.toArray++Builtin.zeroCells z.cells j.toNat++rest)[o]?) z.cells.toList j.toNat (0+(es.take len).length*i.size) (fun q hq=>?_)
    ·rwa[hzl]at this
    ·rw[hzl]at hq;have hpos:0<i.size:=hsize;have hmm:q%z.cells.size<z.cells.size:=j0 _ (by rw[hz'];exact hpos);show(os.toArray++Builtin.zeroCells z.cells j.toNat++rest)[0+(es.take len).length*i.size+q]?=_;rw[hlen,bq,Array.append_assoc,Array.getElem?_append_right (by simp[o2]),Array.getElem?_append_left (by simp[o2,hzs];omega)];simp only[i6,o2,cu];unfold Builtin.zeroCells;simp only[jv,e7,cc];rw[jg,if_pos (by rw[hz'];exact hq)];simp only[c7];rw[i7,cp,gm hmm];rfl
 ·unfold AV.Rep;refine⟨rfl,_,hmn,fun _=>.inr ⟨_,_,grownCap w (len+j.toNat) cap e,rfl,?_,hge,?_⟩⟩
  ·simp
  ·rw[hszz];simp
theorem uD{lk:aY}{ev:Operand->AV}{K:AV->List Blk->List Hd->Prop}(hr:aA P o=some ro)(h:aQ P lk n ev ro K):PS P o ro lk n ev K:=by
 cases ho:o.op
 case move x=>simp only[aA,ho,Option.some.injEq]at hr;subst hr;exact aZg (.inl ho) h
 case assign x=>simp only[aA,ho,Option.some.injEq]at hr;subst hr;exact aZg (.inr ho) h
 case pick c a b=>simp only[aA,ho,Option.some.injEq]at hr;subst hr;exact aXz ho h
 case makeMap T r=>
  cases r with
  |some _=>simp only[aA,ho]at hr;cases hr
  |none=>
   simp only[aA,ho,ζ]at hr;obtain⟨⟨kd,e⟩,_,rfl⟩:=hr;exact h.elim
 case lookup T x y ok=>
  simp only[aA,ho,ε,ζ]at hr;obtain⟨⟨kd,e⟩,hT,i,hi,z,hz,rfl⟩:=hr;obtain⟨k0,h1,h2⟩:=mX hT;exact h.elim
 case mapUpdate T x y z=>
  simp only[aA,ho,δ,ζ]at hr;obtain⟨_,_,_,rfl⟩:=hr;exact h.elim
 case insert T x y z=>
  simp only[aA,ho,δ,ζ]at hr;obtain⟨_,_,_,rfl⟩:=hr;exact h.elim
 case range T x=>
  simp only[aA,ho,ζ]at hr;obtain⟨_,_,rfl⟩:=hr;exact h.elim
 case next x b=>
  cases b with
  |true=>simp only[aA,ho]at hr;cases hr
  |false=>simp only[aA,ho,Option.some.injEq]at hr;subst hr;exact h.elim
 case entry x=>simp only[aA,ho,Option.some.injEq]at hr;subst hr;exact h.elim
 case alloc T=>exact bCd ho hr h
 case box T x=>
  simp only[aA,ho]at hr;split at hr
  ·cases hr;exact aYx ho h
  ·cases hr;exact bBj ho h
 case load T x=>exact aIm ho hr h
 case store T a x=>
  simp only[aA,ho,δ,ζ]at hr;obtain⟨_,i,_,rfl⟩:=hr;exact h.elim
 case binOp op T x y yT=>
  cases hd:P.underlying T with
  |none=>simp only[aA,ho,hd]at hr;cases hr
  |some d=>
   cases d
   case struct fs=>
    simp only[aA,ho,hd]at hr;rw[δ]at hr;obtain⟨hc,hr⟩:=hr;simp only[μ,dh]at hc;split at hr
    ·rename_i kds hk;cases hr;exact bBh ho hd hc.1.1 hc.1.2 hc.2 hk h
    ·rw[ζ]at hr;obtain⟨sh,hs,rfl⟩:=hr;exact aVc ho (.inr ⟨fs,hd⟩) hc.1.1 hc.2 hs h
   case array m e=>
    simp only[aA,ho,hd]at hr;split at hr
    ·rename_i k i he hi;rw[δ]at hr;obtain⟨hc,hr⟩:=hr;cases hr;simp only[μ,dh,beq_iff_eq]at hc;exact bB8 ho hd he hi hc.1.1 hc.1.2 hc.2 h
    ·rw[δ]at hr;obtain⟨hc,hr⟩:=hr;simp only[μ,dh]at hc;rw[ζ]at hr;obtain⟨sh,hs,rfl⟩:=hr;exact aVc ho (.inl ⟨_,_,hd⟩) hc.1 hc.2 hs h
   case bool=>exact bAq ho hd hr h
   case interface ms=>
    simp only[aA,ho,hd]at hr;split at hr
    ·rw[δ]at hr;obtain⟨hc,hr⟩:=hr;cases hr;exact bDg ho hd hc h
    ·cases hr
   case int k=>simp only[aA,ho,hd,Option.some.injEq]at hr;subst hr;exact aTb ho h
   case string=>simp only[aA,ho,hd,Option.some.injEq]at hr;subst hr;exact aTb ho h
   case slice e=>exact aTi ho hd hr h
   case pointer e=>exact bA9 ho hd hr h
   all_goals(simp only[aA,ho,hd]at hr;cases hr)
 case unOp op T x=>simp only[aA,ho,Option.some.injEq]at hr;subst hr;exact bFu ho h
 case fieldAddr T x k=>exact aLf ho hr h
 case field T x k=>exact aTe ho hr h
 case indexAddr T x i=>
  cases hd:P.underlying T with
  |none=>simp only[aA,ho,hd]at hr;cases hr
  |some d=>
   cases d
   case slice e=>exact aJs ho hd hr h
   case array m e=>
    simp only[aA,ho,hd,δ,ζ]at hr;obtain⟨hm,inf,hi,rfl⟩:=hr;exact aQ7 ho hd hm hi rfl h
   all_goals(simp only[aA,ho,hd]at hr;cases hr)
 case sliceToArrayPointer T x=>
  simp only[aA,ho]at hr;split at hr
  ·rename_i m e hd;cases hr;exact aY8 ho hd h
  ·cases hr
 case nilCheck x=>simp only[aA,ho,Option.some.injEq]at hr;subst hr;exact aOo ho h
 case index T x i=>
  cases hd:P.underlying T with
  |none=>simp only[aA,ho,hd]at hr;cases hr
  |some d=>
   cases d
   case string=>simp only[aA,ho,hd,Option.some.injEq]at hr;subst hr;exact bC3 ho hd h
   case array m e=>
    simp only[aA,ho,hd]at hr;split at hr
    case h_2=>cases hr
    rename_i d inf he hi;cases hr;exact aWm ho hd he hi rfl h
   all_goals(simp only[aA,ho,hd]at hr;cases hr)
 case slice T x lo hi mx=>
  cases hd:P.underlying T with
  |none=>simp only[aA,ho,hd]at hr;cases hr
  |some d=>
   cases d
   case string=>
    simp only[aA,ho,hd]at hr;split at hr
    case isFalse=>cases hr
    rename_i hm;cases hr;have:mx=none:=by simpa using hm
    subst this;exact bDe ho hd h
   case slice e=>exact aT9 ho hd hr h
   case array m e=>
    simp only[aA,ho,hd,δ,ε]at hr;obtain⟨hm,inf,hi,h1,hr⟩:=hr;cases hr;have:mx=none:=by simpa using hm
    subst this;exact aYd ho hd hi h1 h
   all_goals(simp only[aA,ho,hd]at hr;cases hr)
 case convert src dst x=>
  simp only[aA,ho]at hr;split at hr
  ·rename_i k0 k hs hd;cases hr;exact bB4 ho hs hd h
  ·rename_i e hs hd;split at hr
   ·rename_i he;cases hr;exact bBr ho hs he hd h
   ·cases hr
  ·rename_i e hs hd;split at hr
   ·rename_i he;cases hr;exact bCu ho hs hd he h
   ·cases hr
  ·cases hr
 case makeInterface T x=>
  simp only[aA,ho]at hr;split at hr
  ·rename_i fs hT;rw[δ]at hr;obtain⟨_,hr⟩:=hr;cases hr;exact bCv ho hT h
  ·cases hr
 case typeAssert x xT T ok=>
  simp only[aA,ho]at hr;split at hr
  ·rename_i fs hT;rw[δ]at hr;obtain⟨⟨hok,_⟩,hr⟩:=hr;subst hok;cases hr;exact bA2 ho hT h
  ·cases hr
 case panic x=>simp only[aA,ho,Option.some.injEq]at hr;subst hr;exact h.elim
 case makeSlice T x y=>
  cases hd:P.underlying T with
  |none=>simp only[aA,ho,hd]at hr;cases hr
  |some d=>
   cases d
   case slice e=>
    simp only[aA,ho,hd,ε,δ]at hr;obtain⟨i,hi,z,hz,hz',hr⟩:=hr;cases hr;exact bA7 ho hd hi hz (by simpa using hz') h
   all_goals(simp only[aA,ho,hd]at hr;cases hr)
 case extract x i=>simp only[aA,ho,Option.some.injEq]at hr;subst hr;exact bA8 ho h
 case makeFunc fn first caps=>
  cases fn
  case func f=>exact bDf ho hr h
  all_goals(simp only[aA,ho]at hr;cases hr)
 case build T ps=>
  cases hd:P.underlying T with
  |none=>simp only[aA,ho,hd]at hr;cases hr
  |some d=>
   cases hi:P.info? T with
   |none=>simp only[aA,ho,hd,hi]at hr;cases d<;>cases hr
   |some i=>
    cases d
    case struct fs=>exact aV4 ho hd hi hr h
    case array m e=>
     simp only[aA,ho,hd,hi,ε,ζ]at hr;obtain⟨fi,hfi,z,hz,rfl⟩:=hr;exact aRm ho hd hi hz hfi h
    all_goals(simp only[aA,ho,hd,hi]at hr;cases hr)
 case buildSlice T k ps=>exact aRo ho hr h
 case call c=>
  cases hc:c.callee
  case value f=>simp only[aA,ho,hc,Option.some.injEq]at hr;subst hr;exact aY2 ho hc h
  case invoke r nm=>simp only[aA,ho,hc]at hr;cases hr
  case builtin b=>
   cases b
   case len=>
    simp only[aA,ho,hc]at hr;split at hr
    case h_2=>cases hr
    rename_i x t ha ht;split at hr
    ·rename_i hd;cases hr;exact aWd ho hc ha ht (by simp[hd]) h
    ·rename_i e hd;cases hr;exact aWd ho hc ha ht (by simp[hd]) h
    ·rename_i k0 e hd;cases hr;exact h.elim
    ·cases hr
   case delete=>
    exfalso;simp only[aA,ho,hc]at hr;split at hr
    ·simp only[δ,ζ]at hr;obtain⟨_,_,_,rfl⟩:=hr;exact h.elim
    ·cases hr
   case min=>
    simp only[aA,ho,hc]at hr;split at hr
    case h_2=>cases hr
    rename_i x y ha;cases hr;exact bAa ho (by rw[hc];rfl) ha h
   case max=>
    simp only[aA,ho,hc]at hr;split at hr
    case h_2=>cases hr
    rename_i x y ha;cases hr;exact bAa ho (by rw[hc];rfl) ha h
   case cap=>
    simp only[aA,ho,hc]at hr;split at hr
    case h_2=>cases hr
    rename_i x t ha ht;split at hr
    ·rename_i e hd;cases hr;exact aWt ho hc ha ht hd h
    ·cases hr
   case clear=>
    exfalso;simp only[aA,ho,hc]at hr;split at hr
    ·split at hr
     ·simp only[ε,δ]at hr;obtain⟨_,_,_,_,_,hr⟩:=hr;cases hr;exact h.elim
     ·cases hr
    ·cases hr
   case copy=>
    exfalso;simp only[aA,ho,hc]at hr;split at hr
    ·split at hr
     ·simp only[ζ]at hr;obtain⟨_,_,hr⟩:=hr;cases hr;exact h.elim
     ·cases hr
    ·cases hr
   case append=>
    simp only[aA,ho,hc]at hr;split at hr
    case h_2=>cases hr
    rename_i x y t u ha ht;split at hr
    case h_1=>
     rename_i e kn hd1 hd2;simp only[ε,δ,μ,decide_eq_true_eq,beq_iff_eq]at hr;obtain⟨i,hi,z,hz,⟨⟨h1,h2⟩,h3⟩,hr⟩:=hr;cases hr;exact aYo ho hc ha ht hd1 hd2 hi hz h3 h2 h1 h
    case h_3=>cases hr
    rename_i e d _ hd1 hd2;simp only[ε]at hr;obtain⟨i,hi,hr⟩:=hr;rw[δ]at hr;obtain⟨hcond,hr⟩:=hr;cases hr;simp only[μ,decide_eq_true_eq]at hcond;obtain⟨⟨⟨h1,h2⟩,h3⟩,h4⟩:=hcond;refine aNc ho hc ha ht hd1 hd2 ?_ hi h4 h3 h;cases d
    case string=>exact .inl rfl
    case slice=>exact .inr ⟨_,rfl⟩
    all_goals(simp at h1)
   all_goals(simp only[aA,ho,hc]at hr;cases hr)
 all_goals(simp only[aA,ho]at hr;cases hr)
def FR(r:Option Nat):Fence:={Fence.wide with round:=r}
theorem lP(r:Option Nat)(f:FuncId):(FR r).fn f:=trivial
theorem aU5(r:Option Nat):(FR r).round=r:=rfl
theorem aPo{f:FuncId}(h:Calls P f args w R):CallsIn (FR r) n P f args w R:=
 (callsIn_wide (n:=n)).2 h
theorem aAg{f:FuncId}(h:CallsIn (FR r) n P f args w R):Calls P f args w R:=
 (callsIn_wide (n:=n)).1 h
theorem Does.noDefer{R:Value->World->Prop}(h:Does P o ρ w R):∀c,o.op≠.defer c:=fun c ho=>by
 unfold Does at h;simp only[execOp,ho,Sem.run_bind]at h;cases hr:(resolve ρ c o.type).run P w with
 |ok d w'=>rw[hr]at h;simp[Result.andThen]at h
 |halt x w'=>rw[hr]at h;simp[Result.andThen]at h
theorem kY{R:Value->World->Prop}{next:Act->World->Prop}{Q:Exit->Act->World->Prop}(h:Does P o a.eval w R)
  (hn:∀v w',R v w'->next (a.put o.dst v) w'):o.wpIn (FR r) n P a w next Q:=by
 have hnd:=h.noDefer;unfold Does at h;unfold Oper.wpIn;refine⟨fun f _=>lP r f,?_⟩;rw[Oper.semAt_eq _ _ _ hnd];split at h
 ·rename_i v w' e;rw[e];exact hn _ _ h
 ·rename_i w' e;rw[e];exact hn _ _ h
 ·rename_i f args w' e;rw[e];refine⟨fun hd=>by simp[FR,Fence.wide]at hd,aPo (h.mono ?_)⟩;rintro e w'' ⟨v,rfl,hr⟩;exact hn _ _ hr
 ·exact h.elim
section
variable{F:Fence}{n:Nat}{P:Program}{Q:Exit->Act->World->Prop}{a:Act}{w:World}
theorem aKa{b:Frame}{k:List Item}{c:Code}:step P (lone (b.atR a (.code (.scope c)::k)) cs w)=.next (lone (b.atR a (.code c::.inScope c::k)) cs w):=
 step_lone_go (by simp[stepG,stepG.exec,Frame.atR])
theorem aFs{b:Frame}{k:List Item}{c:Code}:step P (lone (b.atR a (.inScope c::k)) cs w)=.next (lone (b.atR a k) cs w):=
 step_lone_go (by simp[stepG,stepG.exec,Frame.atR])
theorem vS{c:Code}(h:c.wpIn F n P (Exit.noGoto Q) a w):(Code.scope c).wpIn F n P Q a w:=by
 intro b k cs hro hb hr;obtain⟨e,a₁,w₁,hq,harr⟩:=h b (.inScope c::k) cs hro hb hr;have h1:StepsIn (Machine.fenced P F) P (lone (b.atR a (.code (.scope c)::k)) cs w) (lone (b.atR a (.code c::.inScope c::k)) cs w):=.one (fenced_calm hb hr rfl) aKa;cases e with
 |normal=>exact⟨.normal,a₁,w₁,hq,(h1.trans harr).trans (.one (fenced_calm hb hr rfl) aFs)⟩
 |exit id=>
  refine⟨.exit id,a₁,w₁,hq,fun k' hk=>h1.trans (harr.1 k' (by simp[exitTo,hk])),fun hr' hk=>?_⟩;obtain⟨k₁,g1,g2⟩:=harr.2 hr' (by simp[exitTo,hk]);exact⟨k₁,g1,h1.trans g2⟩
 |goto l=>exact hq.elim
 |ret=>exact⟨_,a₁,w₁,hq,.of_steps h1 harr⟩
 |panic ch=>exact⟨_,a₁,w₁,hq,.of_steps h1 harr⟩
 |outgrown=>exact⟨_,a₁,w₁,hq,.of_steps h1 harr⟩
end
def upd{α:Type}(f:Nat->α)(i:Nat)(v:α):Nat->α:=fun j=>if j=i then v else f j
structure AState where
 env:Nat->AV
 bs:Nat->Option Blk
 own:Nat->Option Blk
 nx:Nat
variable{s:AState}{K:AState->Prop}
def AState.lk(s:AState):aY
 |.B i=>s.bs i
 |.O i=>s.own i
def AState.ev(s:AState):Operand->AV:=evA s.env
def cE(env:Nat->AV)(dst:Option Nat)(a:AV):Nat->AV:=
 match dst with
 |some d=>upd env d a
 |none=>env
def oF(own:Nat->Option Blk)(n:Nat):List Blk->Nat->Option Blk
 |[]=>own
 |b::bs=>oF (upd own n (some b)) (n+1) bs
def aW9(bs:Nat->Option Blk)(fz:List Hd):Nat->Option Blk:=match fz with
 |[]=>bs
 |fz=>fun i=>if Hd.B i∈fz then(bs i).map Blk.frz else bs i
def aKm(own:Nat->Option Blk)(fz:List Hd):Nat->Option Blk:=match fz with
 |[]=>own
 |fz=>fun i=>if Hd.O i∈fz then(own i).map Blk.frz else own i
def AState.put(s:AState)(dst:Option Nat)(a:AV)(nbs:List Blk)(fz:List Hd):AState:=
 {env:=cE s.env dst a,bs:=aW9 s.bs fz,own:=oF (aKm s.own fz) s.nx nbs,nx:=s.nx+nbs.length}
def AState.setBlk(s:AState)(h:Hd)(b:Option Blk):AState:=
 match h with
 |.B i=>{s with bs:=upd s.bs i b}
 |.O i=>{s with own:=upd s.own i b}
def AV.un:AV:=.D (.C undef)
def mF(s:AState)(sz:Nat)(xv:AV)(K:AState->Prop):AV->Prop
 |.ptr h off=>∃cs ys,s.lk h=some (.box cs)/\xv.cells?=some ys/\ys.length=sz/\off+sz<=cs.length/\K (s.setBlk h (some (.box (cs.take off++ys++cs.drop (off+sz)))))
 | .eptr h k ix off=>((k ≠ 1\/sz=1)/\∃ es e ys ds,s.lk h=some (.row true k es)/\es[ix]?=some e/\xv.cells?=some ys/\AV.data ys=some ds/\ds.length=sz/\off + sz <= e.length /\
   K (s.setBlk h (some (.row true k (es.set ix (e.take off++ds++e.drop (off+sz)))))))\/
  k=1/\off=0/\sz≠1/\∃es ys ds,s.lk h=some (.row true 1 es)/\xv.cells?=some ys/\AV.data ys=some ds/\ds.length=sz/\ix+sz<=es.length/\
   K (s.setBlk h (some (.row true 1 (es.take ix++(ds.map fun d=>[d])++es.drop (ix+sz)))))
 |_=>False
def DV.one:DV->Bool
 |.C v=>v.oneCell'
 |_=>true
def aCc(es:List (List DV)):Bool:=es.all fun e=>e.all DV.one
def oM(s:AState)(k bytes:Nat)(y:Operand)(dst:Option Nat)(K:AState->Prop):AV->Prop
 | .sl h k' off len=>k'=k/\off=0/\∃ mt es ys,s.lk h=some (.row mt k es)/\len=es.length/\AV.content s.lk (s.ev y)=some ys/\Uni k es/\Uni k ys/\aCc ys=true/\(len + ys.length) * bytes <= 140737488355328 /\
   K ((s.setBlk h none).put dst (.sl (.O s.nx) k 0 (len+ys.length)) [.row mt k (es++ys)] [])
 |.fl []=>dst.isSome=true/\∃ys,AV.content s.lk (s.ev y)=some ys/\Uni k ys/\ys.length*bytes<=140737488355328/\K (s.put dst (.sl (.O s.nx) k 0 ys.length) [.row true k ys] (fzL s.lk (AV.rows (s.ev y))))
 | .fl (e :: es)=>∃ ys,AV.content s.lk (s.ev y)=some ys/\Uni k (e :: es)/\Uni k ys/\((e :: es).length + ys.length) * bytes <= 140737488355328 /\
   (if ys=[]then K (s.put dst (.fl (e::es)) [] [])else K (s.put dst (.sl (.O s.nx) k 0 ((e::es).length+ys.length)) [.row true k (e::es++ys)] (fzL s.lk (AV.rows (s.ev y)))))
 |_=>False
def aBe(s:AState)(k:Nat)(zs:List DV)(dst:Option Nat)(K:AState->Prop):AV->Prop
 |.sl h k' off len=>k'=k/\∃es,s.lk h=some (.row true k es)/\off+len<=es.length/\K ((s.setBlk h (some (.row true k (es.take off++br len zs++es.drop (off+len))))).put dst .any [] [])
 |_=>False
def aGl(s:AState)(k:Nat)(y:Operand)(dst:Option Nat)(K:AState->Prop):AV->Prop
 | .sl h k' off len=>k'=k/\∃ es ys,s.lk h=some (.row true k es)/\off + len <= es.length/\AV.content s.lk (s.ev y)=some ys/\Uni k ys/\aCc (ys.take (min ys.length len))=true /\
   K ((s.setBlk h (some (.row true k (es.take off++ys.take (min ys.length len)++es.drop (off+min ys.length len))))).put dst (.D (.I .i64 (min ys.length len:Nat))) [] [])
 | .slk h k' off len _=>k'=k/\∃ es ys,s.lk h=some (.row true k es)/\off + len <= es.length/\AV.content s.lk (s.ev y)=some ys/\Uni k ys/\aCc (ys.take (min ys.length len))=true /\
   K ((s.setBlk h (some (.row true k (es.take off++ys.take (min ys.length len)++es.drop (off+min ys.length len))))).put dst (.D (.I .i64 (min ys.length len:Nat))) [] [])
 |_=>False
def aAm(h:Hd):List Hd->Nat->Option Nat
 |[],_=>none
 |x::xs,i=>if x=h then some i else aAm h xs (i+1)
theorem vE{h:Hd}:∀{l:List Hd} {n i:Nat},aAm h l n=some i->n<=i/\l[i-n]?=some h
 |[],_,_,q=>by cases q
 |x::xs,n,i,q=>by
  unfold aAm at q;split at q
  ·rename_i e;cases q;simp[e]
  ·obtain⟨h1,h2⟩:=vE q;refine⟨by omega,?_⟩;rw[show i-n=(i-(n+1))+1 by omega];simpa using h2
theorem aHb{h:Hd}:∀{l:List Hd} {n:Nat},aAm h l n=none->h∉l
 |[],_,_=>by simp
 |x::xs,n,q=>by
  unfold aAm at q;split at q
  ·cases q
  ·rename_i e;have:=aHb q;simp only[cq,not_or];exact⟨fun q=>e q.symm,this⟩
def vU(hs:List Hd)(h:Hd):Option Hd:=(aAm h hs 0).map .B
def pQ(lk:aY)(hs:List Hd):List (Option Blk):=hs.map fun h=>(lk h).map (Blk.conv lk (vU hs))
def Blk.rows:Blk->List Hd
 |.box cs=>AV.rowsL cs
 |_=>[]
def Blk.isIt:Blk->Bool
 |.it=>true
 |_=>false
def qV(lk:aY):List Hd->List Hd
 |[]=>[]
 |h::hs=>(match lk h with|some b=>Blk.rows b|none=>[])++qV lk hs
theorem aB1{lk:aY}{x h:Hd}{b:Blk}:∀{hs:List Hd},h∈hs->lk h=some b->x∈Blk.rows b->x∈qV lk hs
 |[],hm,_,_=>by cases hm
 |y::ys,hm,hl,hx=>by
  unfold qV;rcases cq.1 hm with rfl|hm
  ·exact bu _ (by rw[hl];exact hx)
  ·exact bp _ (aB1 hm hl hx)
def fzE(lk:aY)(hs:List Hd)(args:List AV):List Hd:=(fzL lk (AV.rowsL args++qV lk hs)).filter fun h=>decide (h∉hs)
def bQ(s:AState)(ψ:Hd->Hd):List Hd->List (Option Blk)->AState
 |h::hs,b::bs=>bQ (s.setBlk h (b.map (Blk.ren ψ))) ψ hs bs
 |_,_=>s
def eE(s:AState)(hs:List Hd)(args:List AV)(dst:Option Nat)(r:AV)(bs':List (Option Blk))(nbs:List Blk):AState:=
 (bQ (s.put none .un [] (fzE s.lk hs args)) (aZ hs s.nx) hs bs').put dst (AV.ren (aZ hs s.nx) r) (nbs.map (Blk.ren (aZ hs s.nx))) []
def aFw(nx:Nat):List Hd->Bool
 |[]=>true
 |.O j::r=>decide (j<nx)&&aFw nx r
 |.B _::r=>aFw nx r
theorem aHi{nx j:Nat}:∀{hs:List Hd},aFw nx hs=true->.O j∈hs->j<nx
 |[],_,h=>by cases h
 |.O k::r,q,h=>by
  simp only[aFw,μ,decide_eq_true_eq]at q;rcases cq.1 h with e|h
  ·cases e;exact q.1
  ·exact aHi q.2 h
 |.B k::r,q,h=>by
  rcases cq.1 h with e|h
  ·cases e
  ·exact aHi (hs:=r) q h
theorem aPc{h:Hd}:∀{l:List Hd} {n i:Nat},l.Nodup->l[i]?=some h->aAm h l n=some (n+i)
 |[],_,_,_,q=>by simp at q
 |x::xs,n,0,_,q=>by
  simp only[fa,Option.some.injEq]at q;unfold aAm;rw[if_pos q];rfl
 |x::xs,n,i+1,hn,q=>by simp only[List.getElem?_cons_succ]at q;unfold aAm;rw[if_neg (fun e:x=h=>(eq.1 hn).1 (by rw[e];exact cf q)),aPc (eq.1 hn).2 q];congr 1;omega
def aFa(P:Program)(s:AState)(dst:Option Nat)(K:AState->Prop)(args:List AV):AV->Prop
 | .clo fn caps=>∃ hs r bs' nbs,hs.Nodup/\aFw s.nx hs=true/\(∀ h ∈ hs,(s.lk h).isSome=true)/\(∀ h ∈ hs,(s.lk h).any Blk.isIt=false)/\bs'.length=hs.length /\
   ACall P fn (AV.convL s.lk (vU hs) (args++caps)) (pQ s.lk hs) r bs' nbs/\K (eE s hs (args++caps) dst r bs' nbs)
 |_=>False
mutual
def AV.hfree:AV->Bool
 |.D _=>true
 |.fl _=>true
 |.agg cs=>AV.hfreeL cs
 |_=>false
def AV.hfreeL:List AV->Bool
 |[]=>true
 |a::as=>AV.hfree a&&AV.hfreeL as
end
def bD7(s:AState)(z:AV)(K:MV->AState->Prop):Prop:=
 (z.hfree=true/\K (.v z) s)\/∃h k mt es,z=.sl h k 0 es.length/\s.lk h=some (.row mt k es)/\(K (.o k es) (s.setBlk h none)\/mt=true/\K (.ow k es) (s.setBlk h none))
def bG7(es:List (AV×MV))(r:Option (Nat×MV))(key:AV)(mv:MV):List (AV×MV):=match r with
 |some (j,_)=>es.set j (key,mv)
 |none=>es++[(key,mv)]
def aZp(s:AState)(kd:KD)(y z:Operand)(K:AState->Prop):AV->Prop
 |.mref h=>(s.ev y).isK kd=true/\bD7 s (s.ev z) fun mv s1=>∃es it r,s.lk h=some (.mp kd es it)/\wN (s.ev y) es=some r/\K (s1.setBlk h (some (.mp kd (bG7 es r (s.ev y) mv) none)))
 |_=>False
def aP3(key:AV):List AV->Option (List AV)
 |[]=>some []
 |x::r=>match key.keq x,aP3 key r with
  |some true,some l=>some l
  |some false,some l=>some (x::l)
  |_,_=>none
def bEz(key:AV):Option (Hd×List AV×List AV)->Option (Option (Hd×List AV×List AV))
 |none=>some none
 |some (h,_,rem)=>match aP3 key rem with
  |some r=>some (some (h,[],r))
  |none=>none
def bG9(s:AState)(kd:KD)(y:Operand)(K:AState->Prop):AV->Prop
 |.mref h=>(s.ev y).isK kd=true/\∃es it r it',s.lk h=some (.mp kd es it)/\wN (s.ev y) es=some r/\bEz (s.ev y) it=some it'/\K (s.setBlk h (some (.mp kd (match r with|some (j,_)=>es.eraseIdx j|none=>es) it')))
 |_=>False
def bHk(s:AState)(kd:KD)(dst:Option Nat)(K:AState->Prop):AV->Prop
 |.mref h=>∃es it,s.lk h=some (.mp kd es it)/\K ((s.setBlk h (some (.mp kd es (some (.O s.nx,[],es.map (·.1)))))).put dst (.itr h (.O s.nx)) [.it] [])
 |_=>False
def bC8(s:AState)(kd:KD)(z:AV)(k:Nat)(ok:Bool)(y:Operand)(dst:Option Nat)(K:AState->Prop):AV->Prop
 |.mref h=>(s.ev y).isK kd=true/\ok=false/\∃es it r,s.lk h=some (.mp kd es it)/\wN (s.ev y) es=some r/\
  match r with
  |some (j,.o k' rs)=>k'=k/\∃k2,es[j]?=some (k2,.o k rs)/\K ((s.setBlk h (some (.mp kd (es.set j (k2,.v (.D (.L rs)))) it))).put dst (.sl (.O s.nx) k 0 rs.length) [.row false k rs] [])
  |some (j,.ow k' rs)=>k'=k/\∃k2,es[j]?=some (k2,.ow k rs)/\K ((s.setBlk h (some (.mp kd (es.set j (k2,.v .any)) it))).put dst (.sl (.O s.nx) k 0 rs.length) [.row true k rs] [])
  |some _=>False
  |none=>z=.D (.L [])/\∃mt,K ((s.setBlk h (some (.mp kd es it))).put dst (.sl (.O s.nx) k 0 0) [.row mt k []] [])
 |_=>False
def bG8(s:AState)(dst:Option Nat)(K:AState->Prop):AV->Prop
 |.itr h hi=>(s.lk hi).isSome=true/\∃kd es cur rem j k2 k rs,s.lk h=some (.mp kd es (some (hi,[cur],rem)))/\cur.isK kd=true/\wN cur es=some (some (j,.ow k rs))/\es[j]?=some (k2,.ow k rs)/\
  K ((s.setBlk h (some (.mp kd (es.set j (k2,.v .any)) (some (hi,[],rem))))).put dst (.tup [cur,.sl (.O s.nx) k 0 rs.length]) [.row true k rs] [])
 |_=>False
def mH(P:Program)(s:AState)(ro:RO)(K:AState->Prop):Prop:=
 match ro.op with
 |.store sz a x=>mF s sz (s.ev x) K (s.ev a)\/mF (s.put none .un [] (fzL s.lk (AV.rows (s.ev x)))) sz (AV.conv s.lk (fun _=>none) (s.ev x)) K (s.ev a)
 |.appE k bytes x y=>oM s k bytes y ro.dst K (s.ev x)
 |.callE f args=>aFa P s ro.dst K (args.map s.ev) (s.ev f)
 |.clr k zs x=>aBe s k zs ro.dst K (s.ev x)
 |.cpy k x y=>aGl s k y ro.dst K (s.ev x)
 |.mtake kd z k ok x y=>False
 |.mput kd x y z=>False
 |.mdel kd x y=>False
 |.rng kd x=>False
 |.entT x=>False
 |op=>aQ P s.lk s.nx s.ev op fun a nbs fz=>K (s.put ro.dst a nbs fz)
def iL(P:Program):List RO->AState->(AState->Prop)->Prop
 |[],s,K=>K s
 |ro::r,s,K=>
  match ro.guard with
  |none=>mH P s ro fun s'=>iL P r s' K
  |some (t,want)=>
   match s.env t with
   |.D (.B c)=>(c=want->mH P s ro fun s'=>iL P r s' K)/\(¬c=want->iL P r (s.put ro.dst .un [] []) K)
   |.D (.C (.tuple _))=>iL P r (s.put ro.dst .un [] []) K
   |_=>False
def _root_.Go.Obj.isD:Obj->Bool
 |.cells _ _ _=>true
 |.map _ _=>true
 |.mapIter _ _ _ _=>true
 |_=>false
def KeepO(w w':World):Prop:=∀(b:Nat) (o:Obj),w.heap[b]?=some o->o.isD=false->w'.heap[b]?=some o
theorem KeepO.refl(w:World):KeepO w w:=fun _ _ h _=>h
theorem Fr.keep(h:Fr oh og G G' w w')(hc:∀b,oh b->∃o,w.heap[b]?=some o/\o.isD=true):KeepO w w':=fun b o hb hn=>by
 by_cases ho:oh b
 ·obtain⟨o',e,e2⟩:=hc b ho;rw[e]at hb;cases hb;rw[e2]at hn;cases hn
 ·rw[h.heap b (bx.1 hb).1 ho];exact hb
theorem BlkRep.data(hb:BlkRep G m bl b sz w):∃o,w.heap[b]?=some o/\o.isD=true:=by
 cases bl with
 |box cs=>obtain⟨vs,T,h1,_⟩:=hb;exact⟨_,h1,rfl⟩
 |row mt k es=>cases mt<;>(obtain⟨vs,T,h1,_⟩:=hb;exact⟨_,h1,rfl⟩)
 |_=>exact hb.elim
theorem BlkX.data{fp:List Nat}(hb:BlkX G m bl b sz fp w):∀c∈b::fp,∃o,w.heap[c]?=some o/\o.isD=true:=by
 have key:(∃o,w.heap[b]?=some o/\o.isD=true)/\∀c∈fp,∃o,w.heap[c]?=some o/\o.isD=true:=by
  cases bl with
  |nst k es=>obtain⟨_,vs,T,h1,_,_,h4,_⟩:=hb;exact⟨⟨_,h1,rfl⟩,fun c hc=>let⟨_,_,h5⟩:=h4.lt c hc;⟨_,h5,rfl⟩⟩
  |sb T us es=>obtain⟨_,_,v,h1,h4,_⟩:=hb;exact⟨⟨_,h1,rfl⟩,fun c hc=>let⟨_,_,h5⟩:=h4.lt c hc;⟨_,h5,rfl⟩⟩
  |mp kd es i=>obtain⟨_,_,arr,clk,h1,_,_,h4,_⟩:=hb;exact⟨⟨_,h1,rfl⟩,fun c hc=>let⟨_,_,h5⟩:=h4.lt c hc;⟨_,h5,rfl⟩⟩
  |it=>obtain⟨_,rfl,_,_,_,_,h1⟩:=hb;exact⟨⟨_,h1,rfl⟩,fun c hc=>by cases hc⟩
  |_=>exact hb.elim
 intro c hc;rcases cq.1 hc with rfl|hc
 ·exact key.1
 ·exact key.2 c hc
theorem Sim.data{G:Gh}{m:HM}{lk:aY}{w:World}(h:Sim G m lk w){b:Nat}(ho:Own m b):∃o,w.heap[b]?=some o/\o.isD=true:=by
 obtain⟨x,l,hx,hl⟩:=ho;cases l with
 |dead=>cases hl
 |none=>cases hl
 |at_ b' sz=>
  obtain⟨bl,_,hb⟩:=h.blk x b' sz hx;rw[bo.1 hl];exact hb.data
 |atx b' sz fp=>
  obtain⟨bl,_,hb⟩:=h.blkx x b' sz fp hx;exact hb.data b hl
def AV.isSl:AV->Bool
 |.fl _=>true
 |.sl _ _ _ _=>true
 |.slk _ _ _ _ _=>true
 |_=>false
structure Ent where
 w0:World
 G0:Gh
 m0:HM
 N:Nat
 cv:Nat->Value:=fun _=>undef
 J:AV->World->Prop:=fun _ _=>True
 Jkeep:∀x w w',J x w->KeepO w w'->J x w':=by exact fun _ _ _ _ _=>trivial
 Jany:∀x w,J x w->J .any w:=by exact fun _ _ _=>trivial
 Jsl:∀x w y,AV.isSl x=true->J x w->J y w:=by exact fun _ _ _ _ _=>trivial
 Jren:∀x w ψ,J x w->J (AV.ren ψ x) w:=by exact fun _ _ _ _=>trivial
 Jconv:∀x w lk φ,J x w->J (AV.conv lk φ x) w:=by exact fun _ _ _ _ _=>trivial
 sk:Nat:=0
 nd:Bool:=false
 dt:List Deferred:=[]
 Jput:∀x w r o,J x w->w0.heap.size+sk<=r->J x (w.putObj r o):=by exact fun _ _ _ _ _ _=>trivial
 Jsz:∀x w,J x w->w0.heap.size<=w.heap.size->w0.heap.size+sk<=w.heap.size:=by exact fun _ _ _ h=>h
def Ent.val(E:Ent)(a:Act)(t:Nat):Value:=if t<E.N then a.tmps.getD t undef else E.cv (t-E.N)
theorem Ent.val_lt{E:Ent}{t:Nat}(h:t<E.N):E.val a t=a.tmps.getD t undef:=if_pos h
theorem Ent.val_ge{E:Ent}{t:Nat}(h:E.N<=t):E.val a t=E.cv (t-E.N):=if_neg (by omega)
def Marks(B:Nat)(nd:Bool)(ds:List Deferred)(w:World):Prop:=(∀d∈ds,∃r,d={target:=.collected r,args:=#[]}/\B<=r/\w.heap[r]?=some (.deferred (some [])))/\ds.Nodup/\(nd=true->ds=[])
theorem Marks.nil:Marks B nd [] w:=⟨fun _ h=>(by cases h),List.nodup_nil,fun _=>rfl⟩
theorem Marks.keep(h:Marks B nd ds w)(hk:KeepO w w'):Marks B nd ds w':=
 ⟨fun d hd=>let⟨r,h1,h2,h3⟩:=h.1 d hd;⟨r,h1,h2,hk r _ h3 rfl⟩,h.2⟩
def Marks1(dt:List Deferred)(B:Nat)(nd:Bool)(ds:List Deferred)(w:World):Prop:=∃ms,ds=ms++dt/\Marks B nd ms w
theorem jC:Marks1 [] B nd ds w↔Marks B nd ds w:=
 ⟨fun⟨ms,h,h'⟩=>by rw[bj]at h;rw[h];exact h',fun h=>⟨ds,by simp,h⟩⟩
theorem Marks1.keep{dt:List Deferred}{B:Nat}{nd:Bool}{ds:List Deferred}{w w':World}(h:Marks1 dt B nd ds w)(hk:KeepO w w'):Marks1 dt B nd ds w':=
 let⟨ms,h1,h2⟩:=h;⟨ms,h1,h2.keep hk⟩
structure AtS (E:Ent) (G:Gh) (m:HM) (s:AState) (a:Act) (w:World):Prop where
 sim:Sim G m s.lk w
 env:∀t,AV.Rep G m (s.env t) (E.val a t)
 size:a.tmps.size=E.N
 defers:Marks1 E.dt (E.w0.heap.size+E.sk) E.nd a.defers w
 jok:E.J (s.env E.N) w
 fresh:∀i,s.nx<=i->m (.O i)=none
 frame:Fr (Own E.m0) (Own E.m0) E.G0 G E.w0 w
 base:∀i,SameB (E.m0 (.B i)) (m (.B i))
 own:∀h l b,m h=some l->b∈l.blks->E.w0.heap.size<=b\/Own E.m0 b
 noO:True
 nxOk:∀i,s.nx<=i->s.own i=none
def ASim(E:Ent)(s:AState)(a:Act)(w:World):Prop:=∃G m,AtS E G m s a w
theorem Fr.step{oh' og':Nat->Prop}{G0:Gh}{w0:World}(h:Fr oh og G0 G w0 w)(h':Fr oh' og' G G' w w')(h1:∀b,b<w0.heap.size->oh' b->oh b)(h2:∀b,b<w0.heap.size->og' b->og b):
    Fr oh og G0 G' w0 w':=
  ⟨h'.os.trans h.os,h.tape.trans h'.tape,h'.output.trans h.output,cx h.size h'.size,
   fun b hb ho=>(h'.heap b (d7 hb h.size) (fun q=>ho (h1 b hb q))).trans (h.heap b hb ho),
   fun b hb ho o=>(h'.gh b (d7 hb h.size) (fun q=>ho (h2 b hb q)) o).trans (h.gh b hb ho o),h.le.trans h'.le⟩
theorem AtS.ownOld{E:Ent}(h:AtS E G m s a w)(hb:b<E.w0.heap.size)(ho:Own m b):Own E.m0 b:=by
 obtain⟨x,l,hx,hl⟩:=ho;rcases h.own x l b hx hl with h1|h1
 ·omega
 ·exact h1
theorem oI:∀(bs:List Blk) (own:Nat->Option Blk) (n i:Nat),oF own n bs i=if n<=i/\i<n+bs.length then bs[i-n]?else own i
 |[],own,n,i=>by simp only[oF,List.length_nil,e9];rw[if_neg (by omega)]
 |b::bs,own,n,i=>by
  unfold oF;rw[oI bs _ (n+1) i];by_cases h1:n+1<=i/\i<n+1+bs.length
  ·rw[if_pos h1,if_pos (by simp;omega),show i-n=(i-(n+1))+1 by omega];rfl
  ·rw[if_neg h1];unfold upd;by_cases h2:i=n
   ·subst h2;simp
   ·rw[if_neg h2,if_neg (by simp;omega)]
theorem iE(s:AState)(dst:Option Nat)(a:AV)(nbs:List Blk)(fz:List Hd):(s.put dst a nbs fz).lk=lkN (lkF s.lk fz) s.nx nbs:=by
 funext h;cases h with
 |B i=>
  show aW9 s.bs fz i=_;unfold aW9 lkN lkF;cases fz with
  |nil=>simp;rfl
  |cons x fz=>rfl
 |O i=>
  show oF (aKm s.own fz) s.nx nbs i=_;rw[oI];unfold lkN lkF;simp only;split
  ·rfl
  ·unfold aKm;cases fz with
   |nil=>simp;rfl
   |cons x fz=>rfl
theorem aS7(t:Nat)(hd:∀d,dst=some d->d<a.tmps.size):(a.put dst v).tmps.getD t undef=if dst=some t then v else a.tmps.getD t undef:=by
 cases dst with
 |none=>simp[Act.put]
 |some d=>
  have:=hd d rfl;by_cases e:d=t
  ·subst e;simp[Act.put,this]
  ·simp[Act.put,Array.getElem?_setIfInBounds_ne e,e]
theorem zQ{E:Ent}(t:Nat)(hs:a.tmps.size=E.N)(hd:∀d,dst=some d->d<E.N):E.val (a.put dst v) t=if dst=some t then v else E.val a t:=by
 by_cases ht:t<E.N
 ·rw[Ent.val_lt ht,Ent.val_lt ht,aS7 t (by rw[hs];exact hd)]
 ·rw[Ent.val_ge (by omega),Ent.val_ge (by omega),if_neg (fun e=>ht (hd t e))]
theorem aQg{N:Nat}{x:AV}(hd:∀d,dst=some d->d<N):(s.put dst x nbs fz).env N=s.env N:=by
 show cE s.env dst x N=_;cases dst with
 |none=>rfl
 |some d=>show upd s.env d x N=_;unfold upd;rw[if_neg (by have:=hd d rfl;omega)]
theorem qA:(a.put dst v).tmps.size=a.tmps.size:=by cases dst<;>simp[Act.put]
theorem nC:(a.put dst v).defers=a.defers:=by cases dst<;>rfl
theorem mP(h:∀i,s.nx<=i->s.own i=none){a:AV}(i:Nat)(hi:(s.put dst a nbs fz).nx<=i):(s.put dst a nbs fz).own i=none:=by
 have hi':s.nx+nbs.length<=i:=hi;show oF (aKm s.own fz) s.nx nbs i=none;rw[oI,if_neg (by omega)];unfold aKm;cases fz with
 |nil=>exact h i (by omega)
 |cons x fz=>simp only;split<;>simp[h i (by omega)]
def _root_.Go.Operand.inN(N:Nat):Operand->Bool
 |.tmp t=>decide (t<N)
 |_=>true
theorem AtS.step{E:Ent}{G:Gh}{m:HM}{s:AState}{a:Act}{w:World}(h:AtS E G m s a w){x:AV}{nbs:List Blk}{fz:List Hd}{v:Value}{w':World}{dst:Option Nat}(hd:∀d,dst=some d->d<E.N)
  (hp:PPost G m s.lk s.nx x nbs fz w v w'):ASim E (s.put dst x nbs fz) (a.put dst v) w':=by
 obtain⟨G',m',hS,hr,hF,hold,hnew⟩:=hp;have hm:HM.le m m':=fun hh loc hx=>.inl (.inl (by
  rw[hold hh (fun j hj e=>by subst e;rw[h.fresh _ (by omega)]at hx;cases hx)];exact hx))
 have hk:KeepO w w':=hF.keep (fun b q=>q.elim);refine⟨G',m',?_,?_,by rw[qA];exact h.size,by rw[nC];exact h.defers.keep hk,by rw[aQg hd];exact E.Jkeep _ _ _ h.jok hk,?_,?_,?_,?_,h.noO,fun i hi=>mP h.nxOk i hi⟩
 ·rw[iE];exact hS
 ·intro t;rw[zQ t h.size hd];show AV.Rep G' m' (cE s.env dst x t) _;cases dst with
  |none=>simp only[cE];simpa using AV.Rep.mono hF.le hm _ _ (h.env t)
  |some d=>
   simp only[cE,upd];by_cases e:t=d
   ·subst e;simpa using hr
   ·rw[if_neg e,if_neg (fun h=>e (Option.some.inj h).symm)];exact AV.Rep.mono hF.le hm _ _ (h.env t)
 ·intro i hi;have hi':s.nx+nbs.length<=i:=hi;rw[hold (.O i) (fun j hj e=>by cases e;omega)];exact h.fresh i (by omega)
 ·exact h.frame.step hF (fun b _ q=>q.elim) (fun b hb q=>h.ownOld hb q)
 ·intro i;rw[hold (.B i) (fun j hj e=>by cases e)];exact h.base i
 ·intro x l b hi hl;by_cases hc:∃j,j<nbs.length/\x=.O (s.nx+j)
  ·obtain⟨j,hj,rfl⟩:=hc;exact .inl (cx h.frame.size (hnew j l b hj hi hl))
  ·rw[hold x (fun j hj e=>hc ⟨j,hj,e⟩)]at hi;exact h.own x l b hi hl
theorem AtS.skip{E:Ent}(h:AtS E G m s a w)(hd:∀d,dst=some d->d<E.N):ASim E (s.put dst .un [] []) (a.put dst undef) w:=
 h.step hd (PPost.val h.sim (by unfold AV.un AV.Rep DV.Rep;rfl))
theorem AtS.evs{E:Ent}(h:AtS E G m s a w)(x:Operand)(hx:x.inN E.N=true):AV.Rep G m (s.ev x) (a.eval x):=by
 cases x with
 |tmp t=>
  have:=h.env t;rw[Ent.val_lt (by simpa[Operand.inN]using hx)]at this;exact this
 |const v=>exact uE G m v
 |global g=>
  show AV.Rep G m (match aFy g with|some ds=>.rop ds|none=>.any) (.pointer (some ⟨g,0,none⟩));cases hg:aFy g with
  |none=>unfold AV.Rep;trivial
  |some ds=>unfold AV.Rep;exact⟨g,0,rfl,h.sim.gl g ds hg⟩
 |func f=>
  show AV.Rep G m (.clo f []) _;unfold AV.Rep;exact⟨#[],rfl,by simp[AV.RepL]⟩
theorem bH(s:AState)(h:Hd)(b:Option Blk)(x:Hd):(s.setBlk h b).lk x=if x=h then b else s.lk x:=by
 cases h with
 |B i=>
  cases x with
  |B j=>
   show upd s.bs i b j=_;unfold upd;by_cases e:j=i
   ·subst e;simp
   ·rw[if_neg e,if_neg (fun h=>e (by cases h;rfl))];rfl
  |O j=>show s.own j=_;rw[if_neg (fun h=>by cases h)];rfl
 |O i=>
  cases x with
  |O j=>
   show upd s.own i b j=_;unfold upd;by_cases e:j=i
   ·subst e;simp
   ·rw[if_neg e,if_neg (fun h=>e (by cases h;rfl))];rfl
  |B j=>show s.bs j=_;rw[if_neg (fun h=>by cases h)];rfl
theorem eC(s:AState)(h:Hd)(b:Option Blk):(s.setBlk h b).env=s.env:=by cases h<;>rfl
theorem bY(s:AState)(h:Hd)(b:Option Blk):(s.setBlk h b).nx=s.nx:=by cases h<;>rfl
theorem Fr.setRow{oh og:Nat->Prop}{G:Gh}{w:World}{g:Nat}(hg:oh g)(cs:Array Value):Fr oh og G G w (w.setRow g cs):=
 ⟨rfl,.same rfl rfl,rfl,by simp,fun b _ hb=>setRow_other w g b cs (fun e=>hb (e▸hg)),fun _ _ _ _=>rfl,Gh.le.refl G⟩
theorem Sim.write(hS:Sim G m s.lk w)(hm:m hd=some (.at_ b sz)){vs':Array Value}
  (hb:w.heap[b]?=some (.cells vs T (0,0))) (hno:∀o,G b o=none) (hbl:∀w':World,w'.heap[b]?=some (.cells vs' T (0,0))->BlkRep G m bl b sz w'):
  Sim G m (s.setBlk hd (some bl)).lk (w.setRow b vs')/\Fr (Own m) (fun _=>False) G G w (w.setRow b vs'):=by
 have hnew:=setRow_heap w b vs vs' T (0,0) hb;have hki:KeepIt m w (w.setRow b vs'):=fun _ b' _ _ _ _ _ _ _ hb'=>setRow_other w b b' vs' (fun e=>by rw[e,hb]at hb';cases hb');refine⟨⟨?_,?_,hS.injG,?_,?_,hS.gl,fun x b' sz' fp hx=>?_⟩,Fr.setRow (.at_ hm) vs'⟩
 rotate_right
 ·have e:x≠hd:=fun e=>by subst e;rw[hm]at hx;cases hx
  obtain⟨bl',hl,hb'⟩:=hS.blkx x b' sz' fp hx;rw[bH,if_neg e];exact⟨bl',hl,hb'.mono (Gh.le.refl G) (HM.le.refl m) (fun _ _ _=>rfl) (fun c hc=>setRow_other w b c vs' (fun eb=>e (hS.injG x hd _ _ c hx hm hc (bo.2 eb)))) hki⟩
 ·intro x b' sz' hx;rw[bH];by_cases e:x=hd
  ·subst e;rw[if_pos rfl];have:Loc.at_ b' sz'=Loc.at_ b sz:=by rw[hm]at hx;exact(Option.some.inj hx).symm
   cases this;exact⟨bl,rfl,hbl _ hnew⟩
  ·rw[if_neg e];obtain⟨bl',hl,hb'⟩:=hS.blk x b' sz' hx;have hne:b'≠b:=fun eb=>e (hS.inj x hd b sz' sz (eb▸hx) hm);exact⟨bl',hl,hb'.mono (Gh.le.refl G) (HM.le.refl m) (fun _=>rfl) (setRow_other w b b' vs' hne)⟩
 ·intro x hx;rw[bH,if_neg (fun e=>by subst e;rw[hm]at hx;cases hx)];exact hS.nil x hx
 ·intro b' o v hv;have hne:b'≠b:=fun e=>by subst e;rw[hno o]at hv;cases hv
  rw[cell_setRow_other w b vs' _ hne];exact hS.gh b' o v hv
 ·intro x hx;rw[bH,if_neg (fun e=>by subst e;rw[hm]at hx;cases hx)];exact hS.dead x hx
section
variable{P:Program}{o:Oper}
theorem aAw{a:Operand}(ho:o.op=.store T a x)(hi:P.info? T=some i){T':TypeId}
  (ha:ρ a=.pointer (some ⟨b,off,none⟩)) (hsz:(ρ x).cells.size=i.size) (hone:∀u∈(ρ x).cells,u.oneCell'=true) (hb:w.heap[b]?=some (.cells vs T' (0,0))) (hle:off+i.size<=vs.size):
  (execOp ρ o).run P w=.ok .skip (w.setRow b (vs.toList.take off++(ρ x).cells.toList++vs.toList.drop (off+i.size)).toArray):=by have:=run_storeCells_at P b off T' (ρ x).cells.toList 0 vs w hb (by simpa[hsz]using hle) (fun v hv=>hone v (by simpa using hv));simp only[e9]at this;simp only[execOp,ho,Instr.storeAt,Instr.sureAddr,ha,storeVar,Sem.run_bind,Sem.run_pure,Result.andThen_ok,bK hi,hsz,ne_eq,not_true_eq_false,if_false,this];simp[hsz]
theorem aKu:∀{ys:List AV} {ds:List DV},AV.data ys=some ds->ds.length=ys.length
 |[],ds,h=>by unfold AV.data at h;cases h;rfl
 |y::ys,ds,h=>by
  cases y<;>unfold AV.data at h<;>first|cases h|skip
  simp only[ζ]at h;obtain⟨ds',hds',rfl⟩:=h;simp[aKu hds']
theorem aMr{a:Operand}{xv:AV}{ix:Nat}{ys:List AV}{ds:List DV}(ho:o.op=.store T a x)(hi:P.info? T=some i)
  (hl:s.lk hd=some (.row true 1 es)) (hc:xv.cells?=some ys) (hds:AV.data ys=some ds) (hlen:ds.length=i.size) (hle:ix+i.size<=es.length)
  (hK:K (s.setBlk hd (some (.row true 1 (es.take ix++(ds.map fun d=>[d])++es.drop (ix+i.size)))))):∃hd' bl,K (s.setBlk hd' (some bl))/\(∃b0,s.lk hd'=some b0)/\
   ∀(G:Gh) (m:HM) (w:World) (ρ:Operand->Value),Sim G m s.lk w->AV.Rep G m (.eptr hd 1 ix 0) (ρ a)->AV.Rep G m xv (ρ x)->
    ∃w',(execOp ρ o).run P w=.ok .skip w'/\Sim G m (s.setBlk hd' (some bl)).lk w'/\Fr (Own m) (fun _=>False) G G w w':=by
 refine⟨_,_,hK,⟨_,hl⟩,fun G m w ρ hS ha hx=>?_⟩;unfold AV.Rep at ha;obtain⟨_,loc,hloc,hp⟩:=ha;have hnd:loc≠.dead:=fun e=>by subst e;rw[hS.dead _ hloc]at hl;cases hl
 obtain⟨b,sz,rfl,hp'⟩:=hp hnd;rw[dk,e9]at hp';obtain⟨bl,hl',hb⟩:=hS.blk _ _ _ hloc;rw[hl]at hl';cases hl';unfold BlkRep at hb;obtain⟨vs,T',h1,h2,h3,h4,h5⟩:=hb;rw[dk]at h3;obtain⟨hrx,hone⟩:=AV.Rep_cells hc hx;have hxl:=AV.RepL_length hrx;have hdl:=aKu hds;have hxs:(ρ x).cells.size=i.size:=by rw[<-hlen,hdl,hxl];simp
 refine⟨_,aAw ho hi hp' hxs hone h1 (by omega),?_⟩;refine hS.write hloc h1 h5 (fun w' hw'=>?_);have htk:(es.take ix).length=ix:=by simp;omega
 unfold BlkRep;refine⟨_,T',hw',?_,?_,?_,h5⟩
 ·simp[hxs];omega
 ·simp[hlen];omega
 ·let vs':List Value:=vs.toList.take ix++(ρ x).cells.toList++vs.toList.drop (ix+i.size);have ht:(vs.toList.take ix).length=ix:=by simp;omega
  have hsame:∀p,(p<ix\/ix+i.size<=p)->vs'[p]?=vs[p]?:=fun p hp=>by
   show(vs.toList.take ix++(ρ x).cells.toList++vs.toList.drop (ix+i.size))[p]?=_;rcases hp with hp|hp
   ·rw[a9,b6 (by omega),dq hp,cc]
   ·rw[cg (by simp[hxs];omega),en];simp only[κ,ht,e7,hxs];rw[cc];congr 1;omega
  have hnewc:∀p,p<i.size->vs'[ix+p]?=(ρ x).cells.toList[p]?:=fun p hp=>by show(vs.toList.take ix++(ρ x).cells.toList++vs.toList.drop (ix+i.size))[ix+p]?=_;rw[a9,cg (by omega),ht,cu,b6 (by simp[hxs];exact hp)]
  show DV.rows G (fun o=>vs'.toArray[o]?) 1 0 _;have hfun:(fun(o:Nat)=>vs'.toArray[o]?)=fun(o:Nat)=>vs'[o]?:=by funext o;simp
  rw[hfun];refine DV.rows_append (DV.rows_append (DV.rows_congr (fun p hp=>?_) (DV.rows_take ix h4)) ?_) ?_
  ·rw[htk]at hp;rw[bq];exact hsame p (.inl (by omega))
  ·rw[htk,bq,dk];exact aAn (AV.Rep_data hrx hds _ _ (fun p hp=>by rw[hnewc p (by simpa[hxs]using hp)]))
  ·have hl2:(es.take ix++ds.map fun d=>[d]).length=ix+i.size:=by simp[hlen];omega
   rw[hl2,bq,dk];have:=DV.rows_drop (ix+i.size) h4;rw[bq,dk]at this;exact DV.rows_congr (fun p hp=>hsame _ (.inr (by omega))) this
theorem aBs{a:Operand}{aa xv:AV}(ho:o.op=.store T a x)(hi:P.info? T=some i)
  (h:mF s i.size xv K aa):∃hd bl,K (s.setBlk hd (some bl))/\(∃b0,s.lk hd=some b0)/\
   ∀(G:Gh) (m:HM) (w:World) (ρ:Operand->Value),Sim G m s.lk w->AV.Rep G m aa (ρ a)->AV.Rep G m xv (ρ x)->
    ∃w',(execOp ρ o).run P w=.ok .skip w'/\Sim G m (s.setBlk hd (some bl)).lk w'/\Fr (Own m) (fun _=>False) G G w w':=by
 unfold mF at h;split at h
 ·rename_i hd off;obtain⟨cs,ys,hl,hc,hlen,hle,hK⟩:=h;refine⟨_,_,hK,⟨_,hl⟩,fun G m w ρ hS ha hx=>?_⟩;unfold AV.Rep at ha;obtain⟨_,loc,hloc,hp⟩:=ha;have hnd:loc≠.dead:=fun e=>by subst e;rw[hS.dead _ hloc]at hl;cases hl
  obtain⟨b,sz,rfl,hp'⟩:=hp hnd;obtain⟨bl,hl',hb⟩:=hS.blk _ _ _ hloc;rw[hl]at hl';cases hl';unfold BlkRep at hb;obtain⟨vs,T',h1,h2,h3,h4⟩:=hb;obtain⟨hrx,hone⟩:=AV.Rep_cells hc hx;have hvl:=AV.RepL_length h3;have hxl:=AV.RepL_length hrx;have hxs:(ρ x).cells.size=i.size:=by rw[<-hlen,hxl];simp
  refine⟨_,aAw ho hi hp' hxs hone h1 (by simp at hvl;omega),?_⟩;refine hS.write hloc h1 h4 (fun w' hw'=>?_);unfold BlkRep;refine⟨_,T',hw',?_,?_,h4⟩
  ·simp at hvl|-;omega
  ·show AV.RepL G m _ (vs.toList.take off++(ρ x).cells.toList++vs.toList.drop (off+i.size));exact AV.RepL_append (AV.RepL_append (AV.RepL_take off h3) hrx) (AV.RepL_drop _ h3)
 ·rename_i hd k ix off;rcases h with⟨_,es,e,ys,ds,hl,he,hc,hds,hlen,hle,hK⟩|⟨rfl,rfl,hs1,es,ys,ds,hl,hc,hds,hlen,hle,hK⟩
  rotate_left
  ·obtain⟨z1,z2,z3,z4,z5⟩:=aMr ho hi hl hc hds hlen hle hK;exact⟨z1,z2,z3,z4,fun G m w ρ q1 q2 q3=>z5 G m w ρ q1 q2 q3⟩
  refine⟨_,_,hK,⟨_,hl⟩,fun G m w ρ hS ha hx=>?_⟩;unfold AV.Rep at ha;obtain⟨_,loc,hloc,hp⟩:=ha;have hnd:loc≠.dead:=fun e=>by subst e;rw[hS.dead _ hloc]at hl;cases hl
  obtain⟨b,sz,rfl,hp'⟩:=hp hnd;obtain⟨bl,hl',hb⟩:=hS.blk _ _ _ hloc;rw[hl]at hl';cases hl';unfold BlkRep at hb;obtain⟨vs,T',h1,h2,h3,h4,h5⟩:=hb;obtain⟨hrx,hone⟩:=AV.Rep_cells hc hx;have hxl:=AV.RepL_length hrx;have hdl:ds.length=ys.length:=by
   clear hK hlen hle hrx hc hxl
   induction ys generalizing ds with
   |nil=>unfold AV.data at hds;cases hds;rfl
   |cons y ys ih=>
    cases y<;>unfold AV.data at hds<;>first|cases hds|skip
    simp only[ζ]at hds;obtain⟨ds',hds',rfl⟩:=hds;simp[ih _ hds']
  have hxs:(ρ x).cells.size=i.size:=by rw[<-hlen,hdl,hxl];simp
  obtain⟨hek,hcell⟩:=DV.rows_get h4 he;have hixlt:=(ω.1 he).1;have hix:(ix+1)*k<=es.length*k:=c8 _ hixlt;rw[cz,Nat.one_mul]at hix;refine⟨_,aAw ho hi hp' hxs hone h1 (by omega),?_⟩;refine hS.write hloc h1 h5 (fun w' hw'=>?_);unfold BlkRep;refine⟨_,T',hw',?_,by rw[List.length_set];exact h3,?_,h5⟩
  ·simp[hxs];omega
  ·
   let vs':List Value:=vs.toList.take (ix*k+off)++(ρ x).cells.toList++vs.toList.drop (ix*k+off+i.size);have hsame:∀p,(p<ix*k+off\/ix*k+off+i.size<=p)->vs'[p]?=vs[p]?:=fun p hp=>by
    show(vs.toList.take (ix*k+off)++(ρ x).cells.toList++vs.toList.drop (ix*k+off+i.size))[p]?=_;have ht:(vs.toList.take (ix*k+off)).length=ix*k+off:=by simp;omega
    rcases hp with hp|hp
    ·rw[a9,b6 (by omega),dq hp,cc]
    ·rw[cg (by simp[hxs];omega),en];simp only[κ,ht,e7,hxs];rw[cc];congr 1;omega
   have hnewc:∀p,p<i.size->vs'[ix*k+off+p]?=(ρ x).cells.toList[p]?:=fun p hp=>by
    show(vs.toList.take (ix*k+off)++(ρ x).cells.toList++vs.toList.drop (ix*k+off+i.size))[ix*k+off+p]?=_;have ht:(vs.toList.take (ix*k+off)).length=ix*k+off:=by simp;omega
    rw[a9,cg (by omega),ht,cu,b6 (by simp[hxs];exact hp)]
   have hset:es.set ix (e.take off++ds++e.drop (off+i.size))=es.take ix++((e.take off++ds++e.drop (off+i.size))::es.drop (ix+1)):=List.set_eq_take_append_cons_drop .. |>.trans (by rw[if_pos hixlt]);show DV.rows G (fun o=>vs'.toArray[o]?) k 0 _;rw[hset];have hfun:(fun(o:Nat)=>vs'.toArray[o]?)=fun(o:Nat)=>vs'[o]?:=by funext o;simp
   rw[hfun];refine DV.rows_append (DV.rows_congr (fun p hp=>?_) (DV.rows_take ix h4)) ?_
   ·have:(es.take ix).length=ix:=by simp;omega
    rw[this]at hp;rw[bq];exact hsame p (.inl (by omega))
   ·have htl:(es.take ix).length=ix:=by simp;omega
    rw[htl,bq];unfold DV.rows;refine⟨by simp[hlen];omega,?_,?_⟩
    ·have hc1:=DV.cells_take off hcell;have hc2:=DV.cells_drop (off+i.size) hcell;rw[bq]at hc1 hc2;refine DV.cells_append (DV.cells_append (DV.cells_congr (fun p hp=>?_) hc1) ?_) (DV.cells_congr (o:=ix*k+(off+i.size)) (fun p hp=>?_) hc2)
     ·exact hsame _ (.inl (by simp at hp;omega))
     ·have hto:(e.take off).length=off:=by simp;omega
      rw[hto];exact AV.Rep_data hrx hds _ _ (fun p hp=>by rw[hnewc p (by simpa[hxs]using hp)])
     ·have hl2:(e.take off++ds).length=off+i.size:=by simp[hlen];omega
      rw[hl2];exact hsame _ (.inr (by omega))
    ·have:=DV.rows_drop (ix+1) h4;rw[bq,cz,Nat.one_mul]at this;exact DV.rows_congr (fun p hp=>hsame _ (.inr (by omega))) this
 ·exact h.elim
theorem jB(h:∀i,s.nx<=i->s.own i=none){bl:Option Blk}(hb0:∃b0,s.lk hd=some b0)(i:Nat)(hi:s.nx<=i):(s.setBlk hd bl).own i=none:=by
 cases hd with
 |B j=>exact h i hi
 |O j=>
  show upd s.own j bl i=none;unfold upd;by_cases e:i=j
  ·subst e;obtain⟨b0,hb0⟩:=hb0;have:s.own i=some b0:=hb0;rw[h i hi]at this;cases this
  ·rw[if_neg e];exact h i hi
end
def aDx(G:Gh)(m:HM)(s:AState)(dst:Option Nat)(s':AState)(w:World)(v:Value)(w':World):Prop:=
 ∃G' m',Sim G' m' s'.lk w'/\(∀d,dst=some d->AV.Rep G' m' (s'.env d) v)/\Fr (Own m) (Own m) G G' w w'/\HM.le m m'/\
  (∀i,SameB (m (.B i)) (m' (.B i)))/\
  (∀j,(j<s.nx\/s'.nx<=j)->SameB (m (.O j)) (m' (.O j)))/\
  (∀h l b,m' h=some l->b∈l.blks->w.heap.size<=b\/Own m b)
structure EOk (P:Program) (o:Oper) (xs:List Operand) (dst:Option Nat) (s s':AState):Prop where
 env:∀t,dst≠some t->s'.env t=s.env t
 nx:s.nx<=s'.nx
 own:(∀i,s.nx<=i->s.own i=none)->∀i,s'.nx<=i->s'.own i=none
 run:∀(G:Gh) (m:HM) (w:World) (ρ:Operand->Value),(∀v,ρ (.const v)=v)->Sim G m s.lk w->(∀x∈xs,AV.Rep G m (s.ev x) (ρ x))->(∀j,s.nx<=j->j<s'.nx->m (.O j)=none)->
  Does P o ρ w (aDx G m s dst s' w)
structure EOkX (P:Program) (o:Oper) (xs:List Operand) (dst:Option Nat) (s s':AState) (X:HM->World->World->Prop):Prop where
 env:∀t,dst≠some t->s'.env t=s.env t
 nx:s.nx<=s'.nx
 own:(∀i,s.nx<=i->s.own i=none)->∀i,s'.nx<=i->s'.own i=none
 run:∀(G:Gh) (m:HM) (w:World) (ρ:Operand->Value),(∀v,ρ (.const v)=v)->Sim G m s.lk w->(∀x∈xs,AV.Rep G m (s.ev x) (ρ x))->(∀j,s.nx<=j->j<s'.nx->m (.O j)=none)->
  Does P o ρ w fun v w'=>aDx G m s dst s' w v w'/\X m w w'
theorem EOkX.ok{s':AState}{X:HM->World->World->Prop}(h:EOkX P o xs dst s s' X):EOk P o xs dst s s':=
 ⟨h.env,h.nx,h.own,fun G m w ρ h1 h2 h3 h4=>(h.run G m w ρ h1 h2 h3 h4).mono fun _ _ h=>h.1⟩
def OwnAt(m:HM)(h:Hd)(b:Nat):Prop:=∃l,m h=some l/\b∈l.blks
theorem OwnAt.at_{m:HM}{h:Hd}{b sz:Nat}(hm:m h=some (.at_ b sz)):OwnAt m h b:=⟨_,hm,bo.2 rfl⟩
theorem OwnAt.own(q:OwnAt m h b):Own m b:=let⟨l,q1,q2⟩:=q;⟨h,l,q1,q2⟩
def aFn(h:Hd)(m:HM)(w w':World):Prop:=∀b,b<w.heap.size->¬OwnAt m h b->w'.heap[b]?=w.heap[b]?
theorem Fr.at_(hF:Fr (OwnAt m h) og G G' w w'):Fr (Own m) og G G' w w'/\aFn h m w w':=⟨hF.mono (fun _ _ ⟨l,q1,q2⟩=>⟨h,l,q1,q2⟩) (fun _ _ q=>q),fun b hb ho=>hF.heap b hb ho⟩
theorem AtS.eff{E:Ent}{s':AState}(h:AtS E G m s a w)(hd:∀d,dst=some d->d<E.N)(hx:∀x∈xs,x.inN E.N=true)(hE:EOk P o xs dst s s'):
  Does P o a.eval w fun v w'=>ASim E s' (a.put dst v) w':=by
 refine(hE.run G m w a.eval (fun _=>rfl) h.sim (fun x hm=>h.evs x (hx x hm)) (fun j hj _=>h.fresh j hj)).mono fun v w' hp=>?_;obtain⟨G',m',hS,hr,hF,hle,hB,hO,hnew⟩:=hp;have hk:KeepO w w':=hF.keep (fun b q=>h.sim.data q);refine⟨G',m',hS,fun t=>?_,by rw[qA];exact h.size,by rw[nC];exact h.defers.keep hk,by rw[hE.env _ (fun e=>Nat.lt_irrefl _ (hd _ e))];exact E.Jkeep _ _ _ h.jok hk,fun i hi=>?_,h.frame.step hF (fun b hb q=>h.ownOld hb q) (fun b hb q=>h.ownOld hb q),fun i=>(h.base i).trans (hB i),fun x l b hi hl=>?_,h.noO,hE.own h.nxOk⟩
 ·rw[zQ t h.size hd];by_cases e:dst=some t
  ·rw[if_pos e];exact hr t e
  ·rw[if_neg e,hE.env t e];exact AV.Rep.mono hF.le hle _ _ (h.env t)
 ·exact(hO i (.inr hi)).none (h.fresh i (cx hE.nx hi))
 ·rcases hnew x l b hi hl with h1|h1
  ·exact .inl (cx h.frame.size h1)
  ·rcases Nat.lt_or_ge b E.w0.heap.size with h2|h2
   ·exact .inr (h.ownOld h2 h1)
   ·exact .inl h2
theorem Sim.kill{lk:aY}(hS:Sim G m lk w)(h:Hd):Sim G (aL m h .dead) (fun x=>if x=h then none else lk x) w:=by
 have hle:HM.le m (aL m h .dead):=fun x loc hx=>by
  unfold aL;by_cases e:x=h
  ·rw[if_pos e];exact .inr rfl
  ·rw[if_neg e];exact .inl (.inl hx)
 have get:∀{x loc},aL m h .dead x=some loc->loc≠.dead->x≠h/\m x=some loc:=fun{x loc} hx hl=>by
  unfold aL at hx;split at hx
  ·cases hx;exact absurd rfl hl
  ·exact⟨‹_›,hx⟩
 refine⟨fun x b sz hx=>?_,fun x hx=>?_,fun x y l l' b hx hy hb hb'=>?_,hS.gh,fun x hx=>?_,hS.gl,fun x b sz fp hx=>?_⟩
 rotate_right
 ·obtain⟨e,hx⟩:=get hx (by simp);obtain⟨bl,h1,h2⟩:=hS.blkx x b sz fp hx;exact⟨bl,by rw[if_neg e];exact h1,h2.mono (Gh.le.refl G) hle (fun _ _ _=>rfl) (fun _ _=>rfl) (KeepIt.refl _ _)⟩
 ·obtain⟨e,hx⟩:=get hx (by simp);obtain⟨bl,h1,h2⟩:=hS.blk x b sz hx;exact⟨bl,by rw[if_neg e];exact h1,h2.mono (Gh.le.refl G) hle (fun _=>rfl) rfl⟩
 ·obtain⟨e,hx⟩:=get hx (by simp);obtain⟨mt,k,h1⟩:=hS.nil x hx;exact⟨mt,k,by rw[if_neg e];exact h1⟩
 ·exact hS.injG x y l l' b (get hx (fun e=>by subst e;cases hb)).2 (get hy (fun e=>by subst e;cases hb')).2 hb hb'
 ·by_cases e:x=h
  ·rw[if_pos e]
  ·rw[if_neg e];unfold aL at hx;rw[if_neg e]at hx;exact hS.dead x hx
theorem Sim.move{lk:aY}(hS:Sim G m lk w){h':Hd}(hn:m h'=none){loc:Loc}(hm:m h=some loc)(hd:loc≠.dead):
  Sim G (aL (aL m h .dead) h' loc) (fun x=>if x=h' then lk h else if x=h then none else lk x) w/\HM.le m (aL (aL m h .dead) h' loc):=by
 have hne:h'≠h:=fun e=>by rw[e,hm]at hn;cases hn
 have hle:HM.le m (aL (aL m h .dead) h' loc):=fun x l hx=>by
  unfold aL;by_cases e1:x=h'
  ·rw[e1,hn]at hx;cases hx
  ·rw[if_neg e1];by_cases e:x=h
   ·rw[if_pos e];exact .inr rfl
   ·rw[if_neg e];exact .inl (.inl hx)
 have get:∀{x l},aL (aL m h .dead) h' loc x=some l->l≠.dead->(x=h'/\m h=some l)\/(x≠h'/\x≠h/\m x=some l):=fun{x l} hx hl=>by
  unfold aL at hx;split at hx
  ·cases hx;exact .inl ⟨‹_›,hm⟩
  ·split at hx
   ·cases hx;exact absurd rfl hl
   ·exact .inr ⟨‹_›,‹_›,hx⟩
 have hb':∀{bl b sz},BlkRep G m bl b sz w->BlkRep G (aL (aL m h .dead) h' loc) bl b sz w:=fun hb=>hb.mono (Gh.le.refl G) hle (fun _=>rfl) rfl;refine⟨⟨fun x b sz hx=>?_,fun x hx=>?_,fun x y l l' b hx hy hb hb2=>?_,hS.gh,fun x hx=>?_,hS.gl,fun x b sz fp hx=>?_⟩,hle⟩
 rotate_right
 ·have hbx:∀{bl b sz fp},BlkX G m bl b sz fp w->BlkX G (aL (aL m h .dead) h' loc) bl b sz fp w:=fun hb=>hb.mono (Gh.le.refl G) hle (fun _ _ _=>rfl) (fun _ _=>rfl) (KeepIt.refl _ _);rcases get hx (by simp)with⟨e,h1⟩|⟨e1,e2,h1⟩
  ·obtain⟨bl,h2,h3⟩:=hS.blkx _ _ _ _ h1;exact⟨bl,by rw[if_pos e];exact h2,hbx h3⟩
  ·obtain⟨bl,h2,h3⟩:=hS.blkx _ _ _ _ h1;exact⟨bl,by rw[if_neg e1,if_neg e2];exact h2,hbx h3⟩
 ·rcases get hx (by simp)with⟨e,h1⟩|⟨e1,e2,h1⟩
  ·obtain⟨bl,h2,h3⟩:=hS.blk _ _ _ h1;exact⟨bl,by rw[if_pos e];exact h2,hb' h3⟩
  ·obtain⟨bl,h2,h3⟩:=hS.blk _ _ _ h1;exact⟨bl,by rw[if_neg e1,if_neg e2];exact h2,hb' h3⟩
 ·rcases get hx (by simp)with⟨e,h1⟩|⟨e1,e2,h1⟩
  ·obtain⟨mt,k,h2⟩:=hS.nil _ h1;exact⟨mt,k,by rw[if_pos e];exact h2⟩
  ·obtain⟨mt,k,h2⟩:=hS.nil _ h1;exact⟨mt,k,by rw[if_neg e1,if_neg e2];exact h2⟩
 ·rcases get hx (fun e=>by subst e;cases hb)with⟨e,h1⟩|⟨e1,e2,h1⟩<;>rcases get hy (fun e=>by subst e;cases hb2)with⟨f,h2⟩|⟨f1,f2,h2⟩
  ·rw[e,f]
  ·exact absurd (hS.injG _ _ l l' b h1 h2 hb hb2).symm f2
  ·exact absurd (hS.injG _ _ l l' b h1 h2 hb hb2) e2
  ·exact hS.injG _ _ l l' b h1 h2 hb hb2
 ·unfold aL at hx;split at hx
  ·cases hx;exact absurd rfl hd
  ·rename_i e1;rw[if_neg e1];split at hx
   ·rename_i e2;rw[if_pos e2]
   ·rename_i e2;rw[if_neg e2];exact hS.dead x hx
section
variable{P:Program}{o:Oper}
theorem aCj(ht:P.underlying t=some (.slice e))(hu:P.underlying u=some d)(hd:d=.string\/∃e',d=.slice e')(hi:P.info? e=some i)
 {x:Value} {m:Nat} {T':TypeId} (hlen:∀w1:World,(Builtin.lenOf x).run P w1=.ok m w1)
  (hnews:(Builtin.firstCells i.size m x).run P w=.ok news.toArray w) (hle:sLen+m<=sCap) (hb:w.heap[b]?=some (.cells vs T' (0,0))) (hsz:off+sLen*i.size+news.length<=vs.size) (hone:∀u∈news,u.oneCell'=true):
  (Builtin.append_ #[t,u] ty #[.slice (some ⟨b,off,none⟩) sLen sCap,x]).run P w=.ok (.slice (some ⟨b,off,none⟩) (sLen+m) sCap)
   (w.setRow b (vs.toList.take (off+sLen*i.size)++news++vs.toList.drop (off+sLen*i.size+news.length)).toArray):=by
 have hst:=run_storeCells_at P b (off+sLen*i.size) T' news 0 vs w hb (by simpa using hsz) hone;simp only[e9]at hst;rcases hd with rfl|⟨e',rfl⟩
 ·simp[Builtin.append_,sizeOf,typeInfo,run_underlying ht,run_underlying hu,hi,hlen,hle,hnews,Addr.add_lit,hst]
 ·simp[Builtin.append_,sizeOf,typeInfo,run_underlying ht,run_underlying hu,hi,hlen,hle,hnews,Addr.add_lit,hst]
theorem aGz{G:Gh}{f:Nat->Option Value}:∀{ds:List DV} {o:Nat},DV.cells G f o ds->ds.all DV.one=true->∀j v,j<ds.length->f (o+j)=some v->v.oneCell'=true
 |[],_,_,_,j,_,hj,_=>by simp at hj
 |d::ds,o,hc,h1,j,v,hj,hv=>by
  unfold DV.cells at hc;obtain⟨⟨u,hu,hr⟩,hc⟩:=hc;simp only[iw,μ]at h1
  match j with
  |0=>
   rw[e9,hu]at hv;cases hv;cases d with
   |C x=>unfold DV.Rep at hr;subst hr;exact h1.1
   |L es=>unfold DV.Rep at hr;obtain⟨a,cap,rfl,_⟩:=hr;rfl
   |B _=>unfold DV.Rep at hr;subst hr;rfl
   |I _ _=>unfold DV.Rep at hr;subst hr;rfl
   |S _=>unfold DV.Rep at hr;subst hr;rfl
  |j+1=>exact aGz hc h1.2 j v (by simpa using hj) (by rw[<-hv];congr 1;omega)
theorem aDs{G:Gh}{f:Nat->Option Value}{k:Nat}:∀{es:List (List DV)} {o:Nat},DV.rows G f k o es->aCc es=true->∀j v,j<es.length*k->f (o+j)=some v->v.oneCell'=true
 |[],_,_,_,j,_,hj,_=>by simp at hj
 |e::es,o,hr,h1,j,v,hj,hv=>by
  unfold DV.rows at hr;obtain⟨hk,hc,hr⟩:=hr;simp only[aCc,iw,μ]at h1;by_cases hlt:j<k
  ·exact aGz hc h1.1 j v (by omega) hv
  ·have:(e::es).length*k=k+es.length*k:=by simp[cz];omega
   exact aDs hr h1.2 (j-k) v (by omega) (by rw[<-hv];congr 1;omega)
theorem EOk.of_ps{P:Program}{o:Oper}(h:PS P o ro s.lk s.nx s.ev fun a nbs fz=>K (s.put dst a nbs fz)):∃s',K s'/\EOk P o ro.operands dst s s':=by
 obtain⟨a,nbs,fz,hK,_,hfz,hrun⟩:=h;have hn0:∀h loc j {m:HM},(∀j,s.nx<=j->j<s.nx+nbs.length->m (.O j)=none)->m h=some loc->j<nbs.length->h≠.O (s.nx+j):=fun h loc j m hn hm hj e=>by rw[e,hn _ (by omega) (by omega)]at hm;cases hm
 refine⟨_,hK,⟨fun t ht=>?_,ge _ _,fun hown j hj=>mP hown j hj,fun G m w ρ hρ hS hev hn=>?_⟩⟩
 ·show cE s.env dst a t=_;cases dst with
  |none=>rfl
  |some dd=>simp only[cE,upd];rw[if_neg (fun q=>ht (by rw[q]))]
 ·have hn':∀j,s.nx<=j->j<s.nx+nbs.length->m (.O j)=none:=hn;refine(hrun G m w ρ hρ s.lk (Need.refl _ _ _) hS hev (fun j hj=>hn' _ (by omega) (by omega))).mono fun v w' hp=>?_;obtain⟨G',m',h1,h2,h3,h4,h5⟩:=hp;refine⟨G',m',by rw[iE];exact h1,fun d hd=>?_,h3.mono (fun _ _ q=>q.elim) (fun _ _ q=>q),fun x loc hx=>.inl (.inl ?_),fun i=>.inl (h4 _ (fun j _ e=>by cases e)),fun j hj=>.inl (h4 _ (fun i hi e=>?_)),fun x l b hj hl=>?_⟩
  ·subst hd;show AV.Rep G' m' (upd s.env d a d) v;unfold upd;rw[if_pos rfl];exact h2
  ·rw[h4 x (fun j hj=>hn0 x loc j hn' hx hj)];exact hx
  ·cases e;have:(s.put dst a nbs fz).nx=s.nx+nbs.length:=rfl;rw[this]at hj;omega
  ·by_cases hc:∃j,j<nbs.length/\x=.O (s.nx+j)
   ·obtain⟨j,hlt,rfl⟩:=hc;exact .inl (h5 j l b hlt hj hl)
   ·rw[h4 _ (fun i hi e=>hc ⟨i,hi,e⟩)]at hj;exact .inr ⟨_,l,hj,hl⟩
theorem Sim.nilRow(hS:Sim G m s.lk w)(hn:m (.O s.nx)=none)(d:Option Nat)(a:AV)(k:Nat):Sim G (aL m (.O s.nx) .none) (s.put d a [.row true k []] []).lk w:=by
 have hlk:∀x,(s.put d a [.row true k []] []).lk x=if x=.O s.nx then some (.row true k [])else s.lk x:=fun x=>by
  rw[iE,cT];unfold lkN;cases x with
  |B j=>simp
  |O j=>
   by_cases e:j=s.nx
   ·subst e;simp
   ·have e1:¬(s.nx<=j/\j<s.nx+[Blk.row true k []].length):=by simp;omega
    simp only[e1,if_false,Hd.O.injEq,e]
 have hle:HM.le m (aL m (.O s.nx) .none):=fun x loc hx=>by
  unfold aL;by_cases e:x=.O s.nx
  ·rw[e,hn]at hx;cases hx
  ·rw[if_neg e];exact .inl (.inl hx)
 have get:∀{x loc},aL m (.O s.nx) .none x=some loc->(x=.O s.nx/\loc=.none)\/(x≠.O s.nx/\m x=some loc):=fun{x loc} hx=>by
  unfold aL at hx;split at hx
  ·cases hx;exact .inl ⟨‹_›,rfl⟩
  ·exact .inr ⟨‹_›,hx⟩
 refine⟨fun x b sz hx=>?_,fun x hx=>?_,fun x y l l' b hx hy hb hb'=>?_,hS.gh,fun x hx=>?_,hS.gl,fun x b sz fp hx=>?_⟩
 rotate_right
 ·rcases get hx with⟨_,h⟩|⟨e,h⟩
  ·cases h
  ·obtain⟨bl,h1,h2⟩:=hS.blkx x b sz fp h;exact⟨bl,by rw[hlk,if_neg e];exact h1,h2.mono (Gh.le.refl G) hle (fun _ _ _=>rfl) (fun _ _=>rfl) (KeepIt.refl _ _)⟩
 ·rcases get hx with⟨_,h⟩|⟨e,h⟩
  ·cases h
  ·obtain⟨bl,h1,h2⟩:=hS.blk x b sz h;exact⟨bl,by rw[hlk,if_neg e];exact h1,h2.mono (Gh.le.refl G) hle (fun _=>rfl) rfl⟩
 ·rcases get hx with⟨e,_⟩|⟨e,h⟩
  ·exact⟨true,k,by rw[hlk,if_pos e]⟩
  ·obtain⟨mt,k',h1⟩:=hS.nil x h;exact⟨mt,k',by rw[hlk,if_neg e];exact h1⟩
 ·rcases get hx with⟨_,rfl⟩|⟨_,h⟩
  ·cases hb
  ·rcases get hy with⟨_,rfl⟩|⟨_,h'⟩
   ·cases hb'
   ·exact hS.injG x y _ _ b h h' hb hb'
 ·rcases get hx with⟨_,h⟩|⟨e,h⟩
  ·cases h
  ·rw[hlk,if_neg e];exact hS.dead x h
def AState.own0(s:AState)(t k:Nat):AState:=s.put (some t) (.sl (.O s.nx) k 0 0) [.row true k []] []
theorem Sim.writeR(hS:Sim G m s.lk w)(hm:m hd=some (.at_ b sz)){ws:Array Value}(hb:w.heap[b]?=some (.cells ws T (0,0))){mt:Bool}(hrep:BlkRep G m (.row mt k es) b sz w)(hl:s.lk hd=some (.row mt k es))
 (hn:news.length=ys.length*k) (hlen:es.length*k+ys.length*k<=sz) (hrows:∀(G2:Gh) (f:Nat->Option Value) (o:Nat),Gh.le G G2->(∀j,j<news.length->f (o+j)=news[j]?)->DV.rows G2 f k o ys):
  ∃G1,Sim G1 m (s.setBlk hd (some (.row mt k (es++ys)))).lk (w.setRow b (ws.toList.take (0+es.length*k)++news++ws.toList.drop (0+es.length*k+news.length)).toArray)/\Fr (OwnAt m hd) (Own m) G G1 w (w.setRow b (ws.toList.take (0+es.length*k)++news++ws.toList.drop (0+es.length*k+news.length)).toArray):=by
 obtain⟨h1,h2,h3⟩:w.heap[b]?=some (.cells ws T (0,0))/\ws.size=sz/\es.length*k<=sz:=by cases mt<;>(unfold BlkRep at hrep;obtain⟨vs,T',q1,q2,q3,_⟩:=hrep;rw[hb]at q1;cases q1;exact⟨hb,q2,q3⟩)
 simp only[bq];have htl:(ws.toList.take (es.length*k)).length=es.length*k:=by simp;omega
 have hold:∀p,p<es.length*k->(ws.toList.take (es.length*k)++news++ws.toList.drop (es.length*k+news.length)).toArray[p]?=ws[p]?:=fun p hp=>by rw[f7,a9,b6 (by omega),dq hp,cc]
 have hnew:∀p,p<news.length->(ws.toList.take (es.length*k)++news++ws.toList.drop (es.length*k+news.length)).toArray[es.length*k+p]?=news[p]?:=fun p hp=>by rw[f7,a9,cg (by omega),b6 (by omega)];congr 1;omega
 have hsz:(ws.toList.take (es.length*k)++news++ws.toList.drop (es.length*k+news.length)).toArray.size=sz:=by simp;omega
 generalize(ws.toList.take (es.length*k)++news++ws.toList.drop (es.length*k+news.length)).toArray=vs' at*;cases mt with
 |true=>
  unfold BlkRep at hrep;obtain⟨vs,T',q1,q2,q3,q4,q5⟩:=hrep;rw[hb]at q1;cases q1;obtain⟨r1,r2⟩:=hS.write hm hb q5 (vs':=vs') (bl:=.row true k (es++ys)) (fun w' hw'=>by
   unfold BlkRep;refine⟨_,T,hw',hsz,by rw[κ,cz];exact hlen,?_,q5⟩;refine DV.rows_append (DV.rows_congr (fun p hp=>?_) q4) (hrows G _ _ (Gh.le.refl G) (fun p hp=>?_))
   ·rw[bq];exact hold p hp
   ·rw[bq];exact hnew p hp)
  exact⟨G,r1,Fr.setRow (OwnAt.at_ hm) _⟩
 |false=>
  unfold BlkRep at hrep;obtain⟨vs,T',q1,q2,q3,q4,q5⟩:=hrep;rw[hb]at q1;cases q1;let G':Gh:=fun c o=>if c=b/\es.length*k<=o/\o<es.length*k+ys.length*k then vs'[o]?else G c o
  have hle:Gh.le G G':=fun c o v hv=>by
   show(if c=b/\es.length*k<=o/\o<es.length*k+ys.length*k then vs'[o]?else G c o)=some v;split
   ·rename_i hc;rw[hc.1,q5 o hc.2.1]at hv;cases hv
   ·exact hv
  have hother:∀c,c≠b->∀o,G' c o=G c o:=fun c hne o=>by show(if c=b/\_ then vs'[o]?else G c o)=_;rw[if_neg (fun hc=>hne hc.1)]
  have hsame:∀o,o<es.length*k->G' b o=G b o:=fun o ho=>by show(if b=b/\es.length*k<=o/\o<es.length*k+ys.length*k then vs'[o]?else G b o)=_;rw[if_neg (fun hc=>by omega)]
  have hnewG:∀p,p<ys.length*k->G' b (es.length*k+p)=vs'[es.length*k+p]?:=fun p hp=>by show(if b=b/\es.length*k<=es.length*k+p/\es.length*k+p<es.length*k+ys.length*k then vs'[es.length*k+p]?else G b _)=_;rw[if_pos ⟨rfl,by omega,by omega⟩]
  have hheap:=setRow_heap w b ws vs' T (0,0) hb;have hki:KeepIt m w (w.setRow b vs'):=fun _ b' _ _ _ _ _ _ _ hb'=>setRow_other w b b' vs' (fun e=>by rw[e,hb]at hb';cases hb');refine⟨G',⟨fun x b' sz' hx=>?_,fun x hx=>?_,hS.injG,fun b' o v hv=>?_,fun x hx=>?_,hS.gl.mono hle,fun x b' sz' fp hx=>?_⟩,⟨rfl,.same rfl rfl,rfl,by simp,fun c _ hc=>setRow_other w b c vs' (fun e=>hc (e▸.at_ hm)),fun c _ hc o=>hother c (fun e=>hc (e▸.at_ hm)) o,hle⟩⟩
  ·rw[bH];by_cases e:x=hd
   ·subst e;rw[if_pos rfl];have:Loc.at_ b' sz'=Loc.at_ b sz:=by rw[hm]at hx;exact(Option.some.inj hx).symm
    cases this;refine⟨_,rfl,?_⟩;unfold BlkRep;refine⟨_,T,hheap,hsz,by rw[κ,cz];exact hlen,?_,fun o ho=>?_⟩
    ·refine DV.rows_append (DV.rows_congr (fun p hp=>?_) (DV.rows.mono hle (fun _ _ h=>h) _ _ _ q4)) (hrows G' _ _ hle (fun p hp=>?_))
     ·rw[bq];exact hsame p hp
     ·rw[bq,hnewG p (by omega)];exact hnew p hp
    ·rw[κ,cz]at ho;show(if b=b/\es.length*k<=o/\o<es.length*k+ys.length*k then vs'[o]?else G b o)=none;rw[if_neg (fun hc=>by omega)];exact q5 o (by omega)
   ·rw[if_neg e];obtain⟨bl',hl',hb'⟩:=hS.blk x b' sz' hx;have hne:b'≠b:=fun eb=>e (hS.inj x hd b sz' sz (eb▸hx) hm);exact⟨bl',hl',hb'.mono hle (HM.le.refl m) (hother b' hne) (setRow_other w b b' vs' hne)⟩
  ·rw[bH,if_neg (fun e=>by subst e;rw[hm]at hx;cases hx)];exact hS.nil x hx
  ·by_cases hc:b'=b
   ·subst hc;rw[mW hheap];by_cases h4:es.length*k<=o/\o<es.length*k+ys.length*k
    ·have:G' b' o=vs'[o]?:=by show(if b'=b'/\es.length*k<=o/\o<es.length*k+ys.length*k then vs'[o]?else G b' o)=_;rw[if_pos ⟨rfl,h4⟩]
     rw[<-this];exact hv
    ·have:G' b' o=G b' o:=by show(if b'=b'/\es.length*k<=o/\o<es.length*k+ys.length*k then vs'[o]?else G b' o)=_;rw[if_neg (fun hc=>h4 hc.2)]
     rw[this]at hv;have hlt:o<es.length*k:=Nat.lt_of_not_le fun h=>by rw[q5 o h]at hv;cases hv
     have:=hS.gh b' o v hv;rw[mW hb]at this;rw[hold o hlt];exact this
   ·rw[hother b' hc]at hv;rw[cell_setRow_other w b vs' _ hc];exact hS.gh b' o v hv
  ·rw[bH,if_neg (fun e=>by subst e;rw[hm]at hx;cases hx)];exact hS.dead x hx
  ·have e:x≠hd:=fun e=>by subst e;rw[hm]at hx;cases hx
   obtain⟨bl',hl',hb'⟩:=hS.blkx x b' sz' fp hx;have hne:∀c∈b'::fp,c≠b:=fun c hc eb=>e (hS.injG x hd _ _ c hx hm hc (bo.2 eb));rw[bH,if_neg e];exact⟨bl',hl',hb'.mono hle (HM.le.refl m) (fun c hc=>hother c (hne c hc)) (fun c hc=>setRow_other w b c vs' (hne c hc)) hki⟩
theorem aYt{hd':Hd}{k' len:Nat}(hx:s.ev x=.sl hd' k' off len)(ho:o.op=.call c)(hc:c.callee=.builtin .append)(ha:c.args.toList=[x,y])(hta:c.argTypes.toList=[t,u])
  (ht:P.underlying t=some (.slice e)) (hu:P.underlying u=some d) (hd:d=.string\/∃e',d=.slice e') (hi:P.info? e=some i) (hz:i.zero.any (fun z=>z.cells.size==i.size)=true) (hbytes:0<i.bytes)
  (h:oM s i.size i.bytes y dst K (.sl hd' k' off len)):∃s',K s'/\EOkX P o [x,y] dst s s' (aFn hd'):=by
 obtain⟨z,hz,hz'⟩:=(ju _ _).1 hz;have hz':z.cells.size=i.size:=by simpa using hz'
 have ha':c.args=#[x,y]:=by rw[<-cm (xs:=c.args),ha]
 have ht':c.argTypes=#[t,u]:=by rw[<-cm (xs:=c.argTypes),hta]
 have hexec:∀(ρ:Operand->Value) (v:Value) (w w':World),(Builtin.append_ #[t,u] o.type #[ρ x,ρ y]).run P w=.ok v w'->(execOp ρ o).run P w=.ok (.value v) w':=fun ρ v w w' h=>by simp only[execOp,ho,resolve,hc,ha',ht',invoke,builtin,Sem.run_bind,Sem.run_pure,Result.andThen_ok];simp[h]
 unfold oM at h;obtain⟨rfl,rfl,mt,es,ys,hl,rfl,hy,hu1,hu2,hone,hb,hK⟩:=h;have hlk:∀(a:AV) (bl:Blk) (xx:Hd),(((s.setBlk hd' none).put dst a [bl] []).lk xx)=if xx=.O s.nx then some bl else if xx=hd' then none else s.lk xx:=fun a bl xx=>by
  rw[iE,cT,bY];unfold lkN;cases xx with
  |B j=>simp[bH]
  |O j=>
   by_cases e:j=s.nx
   ·subst e;simp
   ·have e1:¬(s.nx<=j/\j<s.nx+[bl].length):=by simp;omega
    simp only[e1,if_false,bH,Hd.O.injEq,e]
 refine⟨_,hK,⟨fun tt htt=>?_,by show s.nx<=(s.setBlk hd' none).nx+1;rw[bY];omega,fun hown j hj=>?_,fun G m w ρ hρ hS hev hn=>?_⟩⟩
 ·show cE (s.setBlk hd' none).env dst _ tt=_;rw[eC];cases dst with
  |none=>rfl
  |some dd=>simp only[cE,upd];rw[if_neg (fun q=>htt (by rw[q]))]
 ·exact mP (fun j hj=>jB hown ⟨_,hl⟩ j (by rw[bY]at hj;exact hj)) j hj
 ·have hn0:m (.O s.nx)=none:=hn s.nx (π _) (by show s.nx<(s.setBlk hd' none).nx+1;rw[bY];omega);have hrx:=hev x (by simp);rw[hx]at hrx;have hry:=hev y (by simp);unfold AV.Rep at hrx;obtain⟨_,loc,hloc,hsl⟩:=hrx;have hnd:loc≠.dead:=fun e=>by subst e;rw[hS.dead _ hloc]at hl;cases hl
  obtain⟨c1,vs,c2,c3,c4⟩:=cZ (P:=P) (lk:=s.lk) hS (fun _ mt _ _ h=>⟨mt,h⟩) hry hy hu2;have honev:∀v∈vs,v.oneCell'=true:=fun v hv=>by obtain⟨j,hj⟩:=d5 hv;have hjl:=(ω.1 hj).1;exact aDs (c4 G (fun j=>vs[j]?) 0 (Gh.le.refl G) (fun _ _=>by simp)) hone j v (by omega) (by simpa using hj)
  have hkill:=hS.kill hd';have hdv:∀{G':Gh} {m':HM} {v:Value},AV.Rep G' m' (.sl (.O s.nx) i.size 0 (es.length+ys.length)) v->∀dd,dst=some dd->AV.Rep G' m' (((s.setBlk hd' none).put dst (.sl (.O s.nx) i.size 0 (es.length+ys.length)) [.row mt i.size (es++ys)] []).env dd) v:=fun{G' m' v} h dd hdd=>by show AV.Rep G' m' (cE _ dst _ dd) v;rw[hdd];simp only[cE,upd,if_true];exact h
  have fin:∀{G':Gh} {m':HM} {v:Value} {w':World},Sim G' m' ((s.setBlk hd' none).put dst (.sl (.O s.nx) i.size 0 (es.length+ys.length)) [.row mt i.size (es++ys)] []).lk w'->
    AV.Rep G' m' (.sl (.O s.nx) i.size 0 (es.length+ys.length)) v->Fr (OwnAt m hd') (Own m) G G' w w'->(∀xx,xx≠.O s.nx->m' xx=aL m hd' .dead xx)->(∀l b,m' (.O s.nx)=some l->b∈l.blks->w.heap.size<=b\/Own m b)->
    aDx G m s dst ((s.setBlk hd' none).put dst (.sl (.O s.nx) i.size 0 (es.length+ys.length)) [.row mt i.size (es++ys)] []) w v w'/\aFn hd' m w w':=fun{G' m' v w'} hS' hr' hF0 hold hnew=>by
   obtain⟨hF',hX⟩:=hF0.at_;have hcase:∀xx,xx≠.O s.nx->SameB (m xx) (m' xx):=fun xx hxx=>by
    rw[hold xx hxx];unfold aL;by_cases e2:xx=hd'
    ·rw[if_pos e2];exact .inr (.inl ⟨by rw[e2,hloc];simp,rfl⟩)
    ·rw[if_neg e2];exact .inl rfl
   refine⟨⟨G',m',hS',hdv hr',hF',fun xx l hxx=>?_,fun j=>hcase _ (by intro e;cases e),fun j hj=>hcase _ (fun e=>?_),fun x l b hj hl=>?_⟩,hX⟩
   ·have hne:xx≠.O s.nx:=fun e=>by rw[e,hn0]at hxx;cases hxx
    exact(hcase xx hne).le hxx
   ·cases e;rcases hj with h|h
    ·omega
    ·have:(s.setBlk hd' none).nx+1<=s.nx:=h;rw[bY]at this;omega
   ·by_cases e:x=.O s.nx
    ·subst e;exact hnew l b hj hl
    ·rw[hold x e]at hj;unfold aL at hj;split at hj
     ·cases hj;cases hl
     ·exact .inr ⟨_,l,hj,hl⟩
  have hnhd:Hd.O s.nx≠hd':=fun e=>by rw[<-e,hn0]at hloc;cases hloc
  have grow:∀(a:Option Addr) (cap:Nat) (olds:List Value),ρ x=.slice a es.length cap->olds.length=es.length*i.size->(Builtin.firstCells i.size es.length (ρ x)).run P w.drew=.ok olds.toArray w.drew->
    (∀(f:Nat->Option Value),(∀j,j<olds.length->f (0+j)=olds[j]?)->DV.rows G f i.size 0 es)->cap<es.length+ys.length->Does P o ρ w (fun v w'=>aDx G m s dst ((s.setBlk hd' none).put dst (.sl (.O s.nx) i.size 0 (es.length+ys.length)) [.row mt i.size (es++ys)] []) w v w'/\aFn hd' m w w'):=fun a cap olds hv ho2 ho3 ho4 hlt=>by
   have hfits:es.length+ys.length<=9223372036854775807:=by have:=i0 (es.length+ys.length) hbytes;omega
   rw[hv]at ho3;obtain⟨rest,hrun,hrest⟩:=qI (ty:=o.type) ht hu hd hi hz rfl c1 ho3 (c3 w.drew rfl) hlt hb (by omega);rw[<-hv]at hrun;refine Does.val (hexec ρ _ w _ hrun) ?_;have hge:=grownCap_ge w (es.length+ys.length) cap e;have hsz:(olds.toArray++vs.toArray++rest).size=grownCap w (es.length+ys.length) cap e*i.size:=by simp only[Array.size_append,i6,ho2,c2,hrest,hz'];rw[<-cz,<-cz];congr 1;omega
   have hbl:∀m':HM,BlkRep G m' (.row true i.size (es++ys)) w.heap.size (olds.toArray++vs.toArray++rest).size (w.drew.alloc (.cells (olds.toArray++vs.toArray++rest) e)):=fun m'=>by
    unfold BlkRep;refine⟨_,e,heap_alloc_new _ _,rfl,?_,?_,fun o=>qT hS (π _) o⟩
    ·rw[hsz,κ];exact c8 _ hge
    ·refine DV.rows_append (ho4 _ (fun j hj=>?_)) (c4 G _ _ (Gh.le.refl G) (fun j hj=>?_))
     ·rw[bq,<-cc];simp only[ep];rw[a9,b6 (by simpa using hj)]
     ·rw[<-cc];simp only[ep];rw[a9,cg (by simp[ho2]),b6 (by simp[ho2];omega)];congr 1;simp[ho2]
   obtain⟨G',m',h1,h2,h3,h4,h5⟩:=PPost.new (a:=.sl (.O s.nx) i.size 0 (es.length+ys.length)) (v:=.slice (some ⟨w.heap.size,0,none⟩) (es.length+ys.length) (grownCap w (es.length+ys.length) cap e)) (hkill.drew) (n:=s.nx) (by unfold aL;rw[if_neg hnhd];exact hn0) (.row true i.size (es++ys)) (olds.toArray++vs.toArray++rest) e (fun m' _=>hbl m') (fun m' _ hmn=>by
    unfold AV.Rep;refine⟨rfl,_,hmn,fun _=>.inr ⟨_,_,grownCap w (es.length+ys.length) cap e,rfl,?_,hge,?_⟩⟩
    ·simp
    ·rw[hsz];simp)
   have hb5:∀b,b<w.heap.size->∀sz,m' (.O s.nx)≠some (.at_ b sz):=fun b hb sz e=>by have:=h5 0 _ b (by simp) e (bo.2 rfl);have:w.drew.heap.size=w.heap.size:=rfl;omega
   have hlk1:lkN (lkF (fun x=>if x=hd' then none else s.lk x) []) s.nx [Blk.row true i.size (es++ys)]=fun xx=>if xx=.O s.nx then some (.row true i.size (es++ys))else if xx=hd' then none else s.lk xx:=by
    funext xx;rw[cT];unfold lkN;cases xx with
    |B j=>simp
    |O j=>
     by_cases e:j=s.nx
     ·subst e;simp
     ·have e1:¬(s.nx<=j/\j<s.nx+[Blk.row true i.size (es++ys)].length):=by simp;omega
      simp only[e1,if_false,Hd.O.injEq,e]
   rw[hlk1]at h1;obtain⟨G2,g1,g2,g3⟩:∃G2,Sim G2 m' (fun xx=>if xx=.O s.nx then some (.row mt i.size (es++ys))else if xx=hd' then none else s.lk xx) (w.drew.alloc (.cells (olds.toArray++vs.toArray++rest) e))/\Gh.le G' G2/\∀b,b<w.heap.size->∀o,G2 b o=G' b o:=by
    cases mt with
    |true=>exact⟨G',h1,Gh.le.refl _,fun _ _ _=>rfl⟩
    |false=>
     obtain⟨G2,g1,g2,g3⟩:=h1.freeze1 (.O s.nx);refine⟨G2,?_,g2,fun b hb o=>g3 b (hb5 b hb) o⟩;have:(fun xx=>if xx=.O s.nx then some (Blk.row false i.size (es++ys))else if xx=hd' then none else s.lk xx)=fun x=>if x=.O s.nx then((if x=.O s.nx then some (Blk.row true i.size (es++ys))else if x=hd' then none else s.lk x).map Blk.frz)else(if x=.O s.nx then some (Blk.row true i.size (es++ys))else if x=hd' then none else s.lk x):=by
      funext xx;by_cases e:xx=.O s.nx
      ·simp only[e,if_true,c7,Blk.frz]
      ·simp only[e,if_false]
     rw[this];exact g1
   refine fin ?_ (AV.Rep.mono g2 (HM.le.refl _) _ _ h2) ⟨h3.os,⟨h3.tape.1,cx (Nat.le_succ _) h3.tape.2⟩,h3.output,h3.size,fun b hb hq=>h3.heap b hb (fun q=>q),fun b hb hq o=>(g3 b hb o).trans (h3.gh b hb (fun⟨y',l,q,ql⟩=>hq ?_) o),h3.le.trans g2⟩ (fun xx hxx=>h4 xx (fun j hj e=>by
    have:j=0:=by simpa using hj
    subst this;exact hxx e)) (fun l b hq hl=>.inl (h5 0 l b (by simp) hq hl))
   ·have:((s.setBlk hd' none).put dst (.sl (.O s.nx) i.size 0 (es.length+ys.length)) [.row mt i.size (es++ys)] []).lk=fun xx=>if xx=.O s.nx then some (.row mt i.size (es++ys))else if xx=hd' then none else s.lk xx:=by funext xx;exact hlk _ _ _
    rw[this];exact g1
   ·unfold aL at q;split at q
    ·cases q;cases ql
    ·exact⟨y',l,q,ql⟩
  have moved:∀{G1:Gh} {w':World} {v:Value},Sim G1 m (s.setBlk hd' (some (.row mt i.size (es++ys)))).lk w'->aJ5 loc i.size 0 (es.length+ys.length) v->Fr (OwnAt m hd') (Own m) G G1 w w'->
    aDx G m s dst ((s.setBlk hd' none).put dst (.sl (.O s.nx) i.size 0 (es.length+ys.length)) [.row mt i.size (es++ys)] []) w v w'/\aFn hd' m w w':=fun{G1 w' v} hS1 hsl1 hF1=>by
   obtain⟨hS2,_⟩:=hS1.move hn0 hloc hnd;refine fin (m':=aL (aL m hd' .dead) (.O s.nx) loc) ?_ ?_ hF1 (fun xx hxx=>by
    show(if xx=.O s.nx then _ else _)=_;rw[if_neg hxx]) (fun l b hq hl=>?_)
   ·have:((s.setBlk hd' none).put dst (.sl (.O s.nx) i.size 0 (es.length+ys.length)) [.row mt i.size (es++ys)] []).lk=fun xx=>if xx=.O s.nx then(s.setBlk hd' (some (.row mt i.size (es++ys)))).lk hd' else if xx=hd' then none else(s.setBlk hd' (some (.row mt i.size (es++ys)))).lk xx:=by funext xx;rw[hlk,bH,bH,if_pos rfl];by_cases e:xx=hd'<;>simp[e]
    rw[this];exact hS2
   ·unfold AV.Rep;refine⟨?_,loc,by unfold aL;rw[if_pos rfl],fun _=>hsl1⟩;rcases hsl1 with⟨a,rfl,_⟩|⟨b,sz,cap,_,rfl,_⟩<;>rfl
   ·unfold aL at hq;rw[if_pos rfl]at hq;cases hq;exact .inr ⟨_,_,hloc,hl⟩
  have hsame:ys=[]->Sim G m (s.setBlk hd' (some (.row mt i.size (es++ys)))).lk w:=fun hys=>by
   refine hS.congr (fun xx _=>?_);rw[bH];by_cases e:xx=hd'
   ·rw[if_pos e,e,hl,hys,bj]
   ·rw[if_neg e]
  obtain⟨o1,os,o2,o3,o4⟩:=cZ (P:=P) (lk:=s.lk) (y:=.sl hd' i.size 0 es.length) (v:=ρ x) hS (fun _ mt _ _ h=>⟨mt,h⟩) (by unfold AV.Rep;exact⟨‹_›,loc,hloc,hsl⟩) (by unfold AV.content;simp[hl]) hu1;rcases hsl hnd with⟨a,hv,h0⟩|⟨b,sz,cap,rfl,hv,hcap,hsz⟩
  ·by_cases hys:ys=[]
   ·have hvs:vs=[]:=by rw[hys]at c2;simpa using c2
    refine Does.val (hexec ρ (ρ x) w w ?_) (moved (hsame hys) ?_ (Fr.refl _ _ _ _))
    ·rw[hv];refine lY ht hu hd hi (by rw[hys]at c1;simpa using c1) ?_ (π _);have:=c3 w rfl;rw[hys,hvs]at this;simpa using this
    ·exact .inl ⟨a,hv,by rw[h0,hys];rfl⟩
   ·have hpos:0<ys.length:=List.length_pos_iff.2 hys;exact grow a 0 os (by rw[hv,h0]) o2 (o3 w.drew rfl) (fun f hf=>o4 G f 0 (Gh.le.refl G) hf) (by omega)
  ·by_cases hroom:es.length+ys.length<=cap
   ·obtain⟨bl,hl',hb'⟩:=hS.blk _ _ _ hloc;rw[hl]at hl';cases hl';obtain⟨ws,T',g1,g2,g3⟩:∃ws T',w.heap[b]?=some (.cells ws T' (0,0))/\ws.size=sz/\es.length*i.size<=sz:=by cases mt<;>(unfold BlkRep at hb';obtain⟨ws,T',g1,g2,g3,_⟩:=hb';exact⟨ws,T',g1,g2,g3⟩)
    have hv':ρ x=.slice (some ⟨b,0,none⟩) es.length cap:=by rw[hv];simp
    have hlens:0+es.length*i.size+vs.length<=ws.size:=by rw[c2,g2,bq,<-cz];exact cx (c8 _ hroom) (by simpa using hsz)
    have hrun:=aCj (P:=P) (ty:=o.type) ht hu hd hi c1 (c3 w rfl) hroom g1 hlens honev;rw[<-hv']at hrun;obtain⟨G1,hw1,hw2⟩:=hS.writeR hloc g1 hb' hl (news:=vs) c2 (by rw[<-g2,<-c2];omega) (fun G2 f o h1 h2=>c4 G2 f o h1 h2);exact Does.val (hexec ρ _ w _ hrun) (moved (by simpa using hw1) (.inr ⟨b,sz,cap,rfl,by simp,hroom,by simpa using hsz⟩) (by simpa using hw2))
   ·exact grow _ cap os hv o2 (o3 w.drew rfl) (fun f hf=>o4 G f 0 (Gh.le.refl G) hf) (by omega)
theorem aY7(ho:o.op=.call c)(hc:c.callee=.builtin .append)(ha:c.args.toList=[x,y])(hta:c.argTypes.toList=[t,u])
  (ht:P.underlying t=some (.slice e)) (hu:P.underlying u=some d) (hd:d=.string\/∃e',d=.slice e') (hi:P.info? e=some i) (hz:i.zero.any (fun z=>z.cells.size==i.size)=true) (hbytes:0<i.bytes)
  (h:oM s i.size i.bytes y dst K (s.ev x)):∃s',K s'/\EOk P o [x,y] dst s s':=by
 obtain⟨z,hz,hz'⟩:=(ju _ _).1 hz;have hz':z.cells.size=i.size:=by simpa using hz'
 have ha':c.args=#[x,y]:=by rw[<-cm (xs:=c.args),ha]
 have ht':c.argTypes=#[t,u]:=by rw[<-cm (xs:=c.argTypes),hta]
 have hexec:∀(ρ:Operand->Value) (v:Value) (w w':World),(Builtin.append_ #[t,u] o.type #[ρ x,ρ y]).run P w=.ok v w'->(execOp ρ o).run P w=.ok (.value v) w':=fun ρ v w w' h=>by simp only[execOp,ho,resolve,hc,ha',ht',invoke,builtin,Sem.run_bind,Sem.run_pure,Result.andThen_ok];simp[h]
 generalize hx:s.ev x=ax at h;unfold oM at h;split at h
 case h_4=>exact h.elim
 case h_2=>
  obtain⟨hsome,ys,e2,h1,h3,h4⟩:=h;obtain⟨dd,rfl⟩:=du.1 hsome;refine⟨_,h4,?_⟩;obtain⟨s1,hK1,hE⟩:=EOk.of_ps (dst:=some dd) (K:=fun s1=>s1=s.put (some dd) (.sl (.O s.nx) i.size 0 ys.length) [.row true i.size ys] (fzL s.lk (AV.rows (s.ev y)))) (ro:=.app i.size i.bytes x y) (aNc ho hc ha hta ht hu hd hi (by rw[hz];simpa using hz') hbytes (K:=fun a nbs fz=>s.put (some dd) a nbs fz=s.put (some dd) (.sl (.O s.nx) i.size 0 ys.length) [.row true i.size ys] (fzL s.lk (AV.rows (s.ev y)))) ⟨[],hx,ys,e2,by simp[Uni],h1,by simpa using h3,by simp⟩);rw[<-hK1];exact hE
 case h_3=>
  rename_i e0 es0;generalize he0:e0::es0=es at*;obtain⟨ys,e2,h1,h2,h3,h4⟩:=h;refine EOk.of_ps (ro:=.app i.size i.bytes x y) (aNc ho hc ha hta ht hu hd hi (by rw[hz];simpa using hz') hbytes (K:=fun a nbs fz=>K (s.put dst a nbs fz)) ⟨es,hx,ys,e2,h1,h2,h3,?_⟩);have hne:es≠[]:=by rw[<-he0];simp
  simpa[hne]using h4
 rename_i hd' k' off len;obtain⟨s',hK,hE⟩:=aYt (o:=o) hx ho hc ha hta ht hu hd hi (by rw[hz];simpa using hz') hbytes h;exact⟨s',hK,hE.ok⟩
end
theorem aBj{ψ:Hd->Hd}:∀(hs:List Hd) (bs:List (Option Blk)) (s:AState),(bQ s ψ hs bs).env=s.env
 |[],_,_=>by unfold bQ;rfl
 |_::_,[],_=>by unfold bQ;rfl
 |h::hs,b::bs,s=>by unfold bQ;rw[aBj hs bs,eC]
theorem xQ{ψ:Hd->Hd}:∀(hs:List Hd) (bs:List (Option Blk)) (s:AState),(bQ s ψ hs bs).nx=s.nx
 |[],_,_=>by unfold bQ;rfl
 |_::_,[],_=>by unfold bQ;rfl
 |h::hs,b::bs,s=>by unfold bQ;rw[xQ hs bs,bY]
theorem oY{ψ:Hd->Hd}{x:Hd}:∀(hs:List Hd) (bs:List (Option Blk)) (s:AState),x∉hs->(bQ s ψ hs bs).lk x=s.lk x
 |[],_,_,_=>by unfold bQ;rfl
 |_::_,[],_,_=>by unfold bQ;rfl
 |h::hs,b::bs,s,hx=>by simp only[cq,not_or]at hx;unfold bQ;rw[oY hs bs _ hx.2,bH,if_neg hx.1]
theorem aC4{ψ:Hd->Hd}{x:Hd}:∀(hs:List Hd) (bs:List (Option Blk)) (s:AState) (i:Nat),hs.Nodup->bs.length=hs.length->hs[i]?=some x->(bQ s ψ hs bs).lk x=((bs[i]?).join).map (Blk.ren ψ)
 |[],_,_,_,_,_,hi=>by simp at hi
 |_::_,[],_,_,_,hl,_=>by simp at hl
 |h::hs,b::bs,s,0,hn,hl,hi=>by
  simp only[fa,Option.some.injEq]at hi;subst hi;unfold bQ;rw[oY hs bs _ (eq.1 hn).1,bH,if_pos rfl];simp
 |h::hs,b::bs,s,i+1,hn,hl,hi=>by unfold bQ;rw[aC4 hs bs _ i (eq.1 hn).2 (by simpa using hl) (by simpa using hi)];simp
section
variable{P:Program}{o:Oper}
theorem aGh{vals:List AV}{hs:List Hd}{r:AV}{bs':List (Option Blk)}(hnd:hs.Nodup)(hok:aFw s.nx hs=true)(hits:∀h∈hs,(s.lk h).any Blk.isIt=false)(hlen:bs'.length=hs.length):
  (∀t,dst≠some t->(eE s hs vals dst r bs' nbs).env t=s.env t)/\s.nx<=(eE s hs vals dst r bs' nbs).nx/\((∀i,s.nx<=i->s.own i=none)->∀i,(eE s hs vals dst r bs' nbs).nx<=i->(eE s hs vals dst r bs' nbs).own i=none)/\
  ∀(G:Gh) (m:HM) (w:World) (vs:Array Value),Sim G m s.lk w->AV.RepL G m vals vs.toList->(∀j,s.nx<=j->j<(eE s hs vals dst r bs' nbs).nx->m (.O j)=none)->
   ∃G1 m1,Sim G1 m1 (fK (pQ s.lk hs) []) w/\(∀i,m1 (.O i)=none)/\AV.RepL G1 m1 (AV.convL s.lk (vU hs) vals) vs.toList/\∀v w',nO w G1 m1 (fK bs' nbs) r v w'->aDx G m s dst (eE s hs vals dst r bs' nbs) w v w':=by
 have hnew:∀x,x∈hs->∀j,x≠.O (s.nx+j):=fun x hx j e=>by have:=aHi hok (e▸hx);omega
 have hsF:(s.put none .un [] (fzE s.lk hs vals)).nx=s.nx:=rfl;have hlkF:(s.put none .un [] (fzE s.lk hs vals)).lk=lkF s.lk (fzE s.lk hs vals):=by rw[iE,eY]
 have hnx':(eE s hs vals dst r bs' nbs).nx=s.nx+nbs.length:=by show(bQ _ _ hs bs').nx+(nbs.map _).length=_;rw[xQ,hsF,ι]
 have hlk':(eE s hs vals dst r bs' nbs).lk=lkN (bQ (s.put none .un [] (fzE s.lk hs vals)) (aZ hs s.nx) hs bs').lk s.nx (nbs.map (Blk.ren (aZ hs s.nx))):=by unfold eE;rw[iE,cT,xQ,hsF]
 have hlkN:∀j bl,nbs[j]?=some bl->(eE s hs vals dst r bs' nbs).lk (.O (s.nx+j))=some (bl.ren (aZ hs s.nx)):=fun j bl hj=>by have hlt:=(ω.1 hj).1;rw[hlk'];simp only[lkN,ι];rw[if_pos ⟨by omega,by omega⟩,cu,τ,hj];rfl
 have hlkO:∀x,(∀j,j<nbs.length->x≠.O (s.nx+j))->(eE s hs vals dst r bs' nbs).lk x=(bQ (s.put none .un [] (fzE s.lk hs vals)) (aZ hs s.nx) hs bs').lk x:=fun x hx=>by
  rw[hlk'];cases x with
  |B i=>rfl
  |O i=>
   simp only[lkN,ι];rw[if_neg (fun hc=>hx (i-s.nx) (by omega) (by rw[show s.nx+(i-s.nx)=i by omega]))]
 refine⟨fun t ht=>?_,by rw[hnx'];omega,fun hown j hj=>?_,fun G m w vs hS hrep hn=>?_⟩
 ·show cE (bQ _ _ hs bs').env dst _ t=_;rw[aBj];cases dst with
  |none=>rfl
  |some d=>simp only[cE,upd];rw[if_neg (fun e=>ht (by rw[e]))];rfl
 ·rw[hnx']at hj;have h1:=hlkO (.O j) (fun k hk e=>by cases e;omega);have:(eE s hs vals dst r bs' nbs).own j=(eE s hs vals dst r bs' nbs).lk (.O j):=rfl;rw[this,h1,oY _ _ _ (fun hx=>hnew _ hx (j-s.nx) (by rw[show s.nx+(j-s.nx)=j by omega])),hlkF];unfold lkF;have h0:s.lk (.O j)=none:=hown j (by omega);rw[h0];split<;>rfl
 ·rw[hnx']at hn;obtain⟨G1,hS1,hle1,hG1⟩:=hS.freeze (fzE s.lk hs vals);have hphi:∀hd hd' loc,vU hs hd=some hd'->m hd=some loc->(fun x=>match x with|Hd.B i=>(hs[i]?).bind m|Hd.O _=>none:HM) hd'=some loc:=fun hd hd' loc hp hm=>by unfold vU at hp;rw[ζ]at hp;obtain⟨i,hi,rfl⟩:=hp;obtain⟨_,h2⟩:=vE hi;show(hs[i]?).bind m=_;rw[show hs[i]?=some hd by simpa using h2];exact hm
  have hrowF:∀hd mt k es,s.lk hd=some (.row mt k es)->∃mt',lkF s.lk (fzE s.lk hs vals) hd=some (.row mt' k es):=fun hd mt k es hh=>by
   unfold lkF;split
   ·exact⟨false,by rw[hh];rfl⟩
   ·exact⟨mt,hh⟩
  have hfz:∀hd mt k es,(hd∈AV.rowsL vals\/hd∈qV s.lk hs)->vU hs hd=none->(s.lk hd).isSome=true->lkF s.lk (fzE s.lk hs vals) hd=some (.row mt k es)->mt=false:=fun hd mt k es hmem hp hsome hr=>by
   have hnh:hd∉hs:=by unfold vU at hp;rw[Option.map_eq_none_iff]at hp;exact aHb hp
   have hin:hd∈fzE s.lk hs vals:=ξ.2 ⟨vM (List.mem_append.2 hmem) hsome,by simpa using hnh⟩;unfold lkF at hr;rw[if_pos hin]at hr;cases hx:s.lk hd with
   |none=>rw[hx]at hr;cases hr
   |some bl=>
    rw[hx]at hr;cases bl with
    |row mt' k' es'=>cases hr;rfl
    |_=>cases hr
  have hrep1:=AV.convL_rep (lk:=s.lk) hS1 hrowF hphi vals _ (fun hd hh mt k es hp hsome hr=>hfz hd mt k es (.inl hh) hp hsome hr) (AV.RepL.mono hle1 (HM.le.refl m) _ _ hrep);have hnotF:∀x,x∈hs->lkF s.lk (fzE s.lk hs vals) x=s.lk x:=fun x hx=>by unfold lkF;rw[if_neg (fun hin=>by have:=(ξ.1 hin).2;simp[hx]at this)]
  have hget0:∀{x loc},(fun x=>match x with|Hd.B i=>(hs[i]?).bind m|Hd.O _=>none:HM) x=some loc->∃i hd,x=.B i/\hs[i]?=some hd/\m hd=some loc:=fun{x loc} hx=>by
   cases x with
   |O i=>cases hx
   |B i=>
    have hx:(hs[i]?).bind m=some loc:=hx;rw[ε]at hx;obtain⟨hd,h1,h2⟩:=hx;exact⟨i,hd,rfl,h1,h2⟩
  have hlk0:∀i hd,hs[i]?=some hd->fK (pQ s.lk hs) [] (.B i)=(s.lk hd).map (Blk.conv s.lk (vU hs)):=fun i hd hi=>by show((pQ s.lk hs)[i]?).join=_;unfold pQ;rw[τ,hi];rfl
  have hblk0:∀hd bl b sz,hd∈hs->s.lk hd=some bl->BlkRep G1 m bl b sz w->BlkRep G1 (fun x=>match x with|Hd.B i=>(hs[i]?).bind m|Hd.O _=>none:HM) (Blk.conv s.lk (vU hs) bl) b sz w:=fun hd bl b sz hin hl hb=>by
   cases bl with
   |row mt k es=>cases mt<;>exact hb
   |box cs=>
    obtain⟨us,T,g1,g2,g3,g4⟩:=hb;exact⟨us,T,g1,g2,AV.convL_rep hS1 hrowF hphi cs _ (fun x hx mt k es a b' c'=>hfz x mt k es (.inr (aB1 hin hl hx)) a b' c') g3,g4⟩
   |_=>exact hb.elim
  have hS0:Sim G1 (fun x=>match x with|Hd.B i=>(hs[i]?).bind m|Hd.O _=>none:HM) (fK (pQ s.lk hs) []) w:=by
   refine⟨fun x b sz hx=>?_,fun x hx=>?_,fun x y l l' b hx hy hb hb'=>?_,hS1.gh,fun x hx=>?_,hS1.gl,fun x b sz fp hx=>?_⟩
   rotate_right
   ·obtain⟨i,hd,rfl,h1,h2⟩:=hget0 hx;obtain⟨bl,h3,h4⟩:=hS1.blkx _ _ _ _ h2;rw[hnotF hd (cf h1)]at h3;exact⟨_,by rw[hlk0 i hd h1,h3];rfl,h4.conv hphi⟩
   ·obtain⟨i,hd,rfl,h1,h2⟩:=hget0 hx;obtain⟨bl,h3,h4⟩:=hS1.blk _ _ _ h2;rw[hnotF hd (cf h1)]at h3;exact⟨_,by rw[hlk0 i hd h1,h3];rfl,hblk0 hd bl b sz (cf h1) h3 h4⟩
   ·obtain⟨i,hd,rfl,h1,h2⟩:=hget0 hx;obtain⟨mt,k,h3⟩:=hS.nil _ h2;exact⟨mt,k,by rw[hlk0 i hd h1,h3];rfl⟩
   ·obtain⟨i,hd,rfl,h1,h2⟩:=hget0 hx;obtain⟨j,hd',rfl,h1',h2'⟩:=hget0 hy;have:=hS.injG _ _ l l' b h2 h2' hb hb';subst this;have hlt:=(ω.1 h1).1;rw[(List.getElem?_inj hlt hnd).1 (h1.trans h1'.symm)]
   ·obtain⟨i,hd,rfl,h1,h2⟩:=hget0 hx;rw[hlk0 i hd h1,hS.dead _ h2];rfl
  refine⟨G1,_,hS0,fun _=>rfl,hrep1,fun v w' hp=>?_⟩;obtain⟨G2,m2,hS2,hr2,hfr,hB,hO,hO3⟩:=hp;have hOwn0:∀b,Own (fun x=>match x with|Hd.B i=>(hs[i]?).bind m|Hd.O _=>none:HM) b->∃hd l,hd∈hs/\m hd=some l/\b∈l.blks:=fun b ⟨x,l,hx,hl⟩=>by obtain⟨i,hd,_,h1,h2⟩:=hget0 hx;exact⟨hd,l,cf h1,h2,hl⟩
  have hhs0:∀i hd,hs[i]?=some hd->(fun x=>match x with|Hd.B i=>(hs[i]?).bind m|Hd.O _=>none:HM) (.B i)=m hd:=fun i hd hi=>by show(hs[i]?).bind m=_;rw[hi];rfl
  have hOwnM:∀b,Own (fun x=>match x with|Hd.B i=>(hs[i]?).bind m|Hd.O _=>none:HM) b->Own m b:=fun b hb=>by obtain⟨hd,l,_,h,hl⟩:=hOwn0 b hb;exact⟨hd,l,h,hl⟩
  obtain⟨m',hm'⟩:∃m':HM,m'=fun x=>match aAm x hs 0 with
   |some i=>m2 (.B i)
   |none=>match x with
    |.O k=>if s.nx<=k/\k<s.nx+nbs.length then m2 (.O (k-s.nx))else m (.O k)
    |.B k=>m (.B k):=⟨_,rfl⟩
  have mh:∀i hd,hs[i]?=some hd->m' hd=m2 (.B i):=fun i hd hi=>by rw[hm'];simp only[aPc (n:=0) hnd hi,bq]
  have hno:∀x,x∉hs->aAm x hs 0=none:=fun x hx=>by
   cases e:aAm x hs 0 with
   |none=>rfl
   |some i=>
    obtain⟨_,h2⟩:=vE e;exact absurd (cf h2) hx
  have mn:∀j,j<nbs.length->m' (.O (s.nx+j))=m2 (.O j):=fun j hj=>by rw[hm'];simp only[hno _ (fun hx=>hnew _ hx j rfl)];rw[if_pos ⟨by omega,by omega⟩,cu]
  have mo:∀x,x∉hs->(∀j,j<nbs.length->x≠.O (s.nx+j))->m' x=m x:=fun x hx hh=>by
   rw[hm'];simp only[hno x hx];cases x with
   |B k=>rfl
   |O k=>
    show(if _ then _ else _)=_;rw[if_neg (fun hc=>hh (k-s.nx) (by omega) (by rw[show s.nx+(k-s.nx)=k by omega]))]
  have hn':∀j,j<nbs.length->m (.O (s.nx+j))=none:=fun j hj=>hn _ (by omega) (by omega);have hdead:∀i hd,hs[i]?=some hd->SameB (m hd) (m2 (.B i)):=fun i hd hi=>by have:=hB i;rw[hhs0 i hd hi]at this;exact this
  have hle':HM.le m m':=fun x loc hx=>by
   by_cases hin:x∈hs
   ·obtain⟨i,hi⟩:=d5 hin;have q:=hdead i x hi;rw[<-mh i x hi]at q;exact q.le hx
   ·rw[mo x hin (fun j hj e=>by rw[e,hn' j hj]at hx;cases hx)];exact .inl (.inl hx)
  have hO2:∀i loc,m2 (.O i)=some loc->i<nbs.length:=fun i loc hi=>by
   cases hx:nbs[i]?with
   |none=>rw[hO3 i hx]at hi;cases hi
   |some bl=>exact(ω.1 hx).1
  have hB2:∀i loc,m2 (.B i)=some loc->∃hd,hs[i]?=some hd:=fun i loc hi=>by
   cases hx:hs[i]?with
   |some hd=>exact⟨hd,rfl⟩
   |none=>
    have h0:(fun x=>match x with|Hd.B i=>(hs[i]?).bind m|Hd.O _=>none:HM) (.B i)=none:=by show(hs[i]?).bind m=none;rw[hx];rfl
    rw[(hB i).none h0]at hi;cases hi
  have hback:∀x loc,m2 x=some loc->m' (aZ hs s.nx x)=some loc:=fun x loc hx=>by
   cases x with
   |B i=>
    obtain⟨hd,hi⟩:=hB2 i loc hx;have:aZ hs s.nx (.B i)=hd:=by show hs.getD i (.B i)=hd;rw[List.getD_eq_getElem?_getD,hi];rfl
    rw[this,mh i hd hi];exact hx
   |O i=>show m' (.O (s.nx+i))=_;rw[mn i (hO2 i loc hx)];exact hx
  have hsplit:∀x loc,m' x=some loc->(x∉hs/\(∀j,j<nbs.length->x≠.O (s.nx+j))/\m x=some loc)\/(∃i,hs[i]?=some x/\m2 (.B i)=some loc)\/(∃j,j<nbs.length/\x=.O (s.nx+j)/\m2 (.O j)=some loc):=fun x loc hx=>by
   by_cases hin:x∈hs
   ·obtain⟨i,hi⟩:=d5 hin;rw[mh i x hi]at hx;exact .inr (.inl ⟨i,hi,hx⟩)
   ·by_cases hc:∃j,j<nbs.length/\x=.O (s.nx+j)
    ·obtain⟨j,hj,rfl⟩:=hc;rw[mn j hj]at hx;exact .inr (.inr ⟨j,hj,rfl,hx⟩)
    ·have hc':∀j,j<nbs.length->x≠.O (s.nx+j):=fun j hj e=>hc ⟨j,hj,e⟩;rw[mo x hin hc']at hx;exact .inl ⟨hin,hc',hx⟩
  have hnotOwn:∀x l b,x∉hs->m x=some l->b∈l.blks->¬Own (fun x=>match x with|Hd.B i=>(hs[i]?).bind m|Hd.O _=>none:HM) b:=fun x l b hin hx hb ho=>by obtain⟨hd,l',hmem,hmd,hb'⟩:=hOwn0 b ho;exact hin (hS.injG _ _ l l' b hx hmd hb hb'▸hmem)
  have hki:KeepIt m w w':=fun x b sz fp hx u c d e hb=>by
   obtain⟨bl,g1,g2⟩:=hS.blkx x b sz fp hx;have hit:bl=.it:=by
    cases bl with
    |nst k es=>obtain⟨_,_,_,g3,_⟩:=g2;rw[hb]at g3;cases g3
    |sb T us es=>obtain⟨_,_,_,g3,_⟩:=g2;rw[hb]at g3;cases g3
    |mp kd es i=>obtain⟨_,_,_,_,g3,_⟩:=g2;rw[hb]at g3;cases g3
    |it=>rfl
    |_=>exact g2.elim
   have hin:x∉hs:=fun q=>by have:=hits x q;rw[g1,hit]at this;cases this
   exact hfr.heap b (bx.1 hb).1 (hnotOwn x _ b hin hx List.mem_cons_self)
  have hlkIn:∀i x,hs[i]?=some x->(eE s hs vals dst r bs' nbs).lk x=((bs'[i]?).join).map (Blk.ren (aZ hs s.nx)):=fun i x hi=>by rw[hlkO x (fun j hj=>hnew x (cf hi) j),aC4 hs bs' _ i hnd hlen hi]
  have hlkOut:∀x,x∉hs->(∀j,j<nbs.length->x≠.O (s.nx+j))->(eE s hs vals dst r bs' nbs).lk x=lkF s.lk (fzE s.lk hs vals) x:=fun x hx hj=>by rw[hlkO x hj,oY _ _ _ hx,hlkF]
  refine⟨G2,m',⟨fun x b sz hx=>?_,fun x hx=>?_,fun x y l l' b hx hy hb hb'=>?_,hS2.gh,fun x hx=>?_,hS2.gl,fun x b sz fp hx=>?_⟩,fun d hd=>?_,⟨hfr.os,hfr.tape,hfr.output,hfr.size,fun b hb ho=>hfr.heap b hb (fun q=>ho (hOwnM b q)),fun b hb ho o=>?_,hle1.trans hfr.le⟩,hle',fun i=>?_,fun j hj=>?_,fun x l b hj hl=>?_⟩
  ·rcases hsplit x _ hx with⟨h1,h2,h3⟩|⟨i,h1,h2⟩|⟨j,hj,rfl,h1⟩
   ·obtain⟨bl,q1,q2⟩:=hS1.blk x b sz h3;rw[hlkOut x h1 h2];have hno:=hnotOwn x _ b h1 h3 (bo.2 rfl);exact⟨bl,q1,q2.mono hfr.le hle' (fun o=>hfr.gh b (hS1.lt h3) hno o) (hfr.heap b (hS1.lt h3) hno)⟩
   ·obtain⟨bl,q1,q2⟩:=hS2.blk _ b sz h2;have q1:(bs'[i]?).join=some bl:=q1;rw[hlkIn i x h1,q1];exact⟨_,rfl,q2.ren hback⟩
   ·obtain⟨bl,q1,q2⟩:=hS2.blk _ b sz h1;exact⟨_,hlkN j bl q1,q2.ren hback⟩
  ·rcases hsplit x _ hx with⟨h1,h2,h3⟩|⟨i,h1,h2⟩|⟨j,hj,rfl,h1⟩
   ·obtain⟨mt,k,q1⟩:=hS1.nil x h3;exact⟨mt,k,by rw[hlkOut x h1 h2];exact q1⟩
   ·obtain⟨mt,k,q1⟩:=hS2.nil _ h2;have q1:(bs'[i]?).join=some (.row mt k []):=q1;exact⟨mt,k,by rw[hlkIn i x h1,q1];rfl⟩
   ·obtain⟨mt,k,q1⟩:=hS2.nil _ h1;exact⟨mt,k,hlkN j _ q1⟩
  ·have old_new:∀x l b,x∉hs->m x=some l->b∈l.blks->∀z l',m2 z=some l'->b∈l'.blks->False:=fun x l b hin hx hb z l' hz hb'=>by
    rcases hO z l' b hz hb' with q|q
    ·have:=hS.ltG hx hb;omega
    ·exact hnotOwn x l b hin hx hb q
   rcases hsplit x _ hx with⟨h1,h2,h3⟩|⟨i,h1,h2⟩|⟨j,hj,rfl,h1⟩<;>rcases hsplit y _ hy with⟨k1,k2,k3⟩|⟨i',k1,k2⟩|⟨j',hj',rfl,k1⟩
   ·exact hS.injG x y l l' b h3 k3 hb hb'
   ·exact(old_new x l b h1 h3 hb _ l' k2 hb').elim
   ·exact(old_new x l b h1 h3 hb _ l' k1 hb').elim
   ·exact(old_new y l' b k1 k3 hb' _ l h2 hb).elim
   ·have:=hS2.injG _ _ l l' b h2 k2 hb hb';cases this;exact Option.some.inj (h1.symm.trans k1)
   ·have:=hS2.injG _ _ l l' b h2 k1 hb hb';cases this
   ·exact(old_new y l' b k1 k3 hb' _ l h1 hb).elim
   ·have:=hS2.injG _ _ l l' b h1 k2 hb hb';cases this
   ·have:=hS2.injG _ _ l l' b h1 k1 hb hb';cases this;rfl
  ·rcases hsplit x _ hx with⟨h1,h2,h3⟩|⟨i,h1,h2⟩|⟨j,hj,rfl,h1⟩
   ·rw[hlkOut x h1 h2];exact hS1.dead x h3
   ·have q1:(bs'[i]?).join=none:=hS2.dead _ h2;rw[hlkIn i x h1,q1];rfl
   ·have q1:nbs[j]?=none:=hS2.dead _ h1;rw[List.getElem?_eq_none_iff]at q1;omega
  ·rcases hsplit x _ hx with⟨h1,h2,h3⟩|⟨i,h1,h2⟩|⟨j,hj,rfl,h1⟩
   ·obtain⟨bl,q1,q2⟩:=hS1.blkx x b sz fp h3;rw[hlkOut x h1 h2];have hno:∀c∈b::fp,¬Own _ c:=fun c hc=>hnotOwn x _ c h1 h3 hc;exact⟨bl,q1,q2.mono hfr.le hle' (fun c hc o=>hfr.gh c (q2.lt c hc) (hno c hc) o) (fun c hc=>hfr.heap c (q2.lt c hc) (hno c hc)) hki⟩
   ·obtain⟨bl,q1,q2⟩:=hS2.blkx _ b sz fp h2;have q1:(bs'[i]?).join=some bl:=q1;rw[hlkIn i x h1,q1];exact⟨_,rfl,q2.ren hback⟩
   ·obtain⟨bl,q1,q2⟩:=hS2.blkx _ b sz fp h1;exact⟨_,hlkN j bl q1,q2.ren hback⟩
  ·subst hd;show AV.Rep G2 m' (upd (bQ _ _ hs bs').env d _ d) v;unfold upd;rw[if_pos rfl];exact AV.ren_rep hback r v hr2
  ·rw[hfr.gh b hb (fun q=>ho (hOwnM b q)) o,hG1 b (fun h _ sz e=>ho (.at_ e)) o]
  ·by_cases hin:Hd.B i∈hs
   ·obtain⟨k,hk⟩:=d5 hin;rw[mh k _ hk];exact hdead k _ hk
   ·rw[mo _ hin (fun j _ e=>by cases e)];exact .inl rfl
  ·rw[hnx']at hj;by_cases hin:Hd.O j∈hs
   ·obtain⟨k,hk⟩:=d5 hin;rw[mh k _ hk];exact hdead k _ hk
   ·rw[mo _ hin (fun i hi e=>by cases e;omega)];exact .inl rfl
  ·rcases hsplit _ _ hj with⟨h1,h2,h3⟩|⟨i,h1,h2⟩|⟨i,hi,he,h1⟩
   ·exact .inr ⟨_,l,h3,hl⟩
   ·rcases hO _ l b h2 hl with q|q
    ·exact .inl q
    ·exact .inr (hOwnM b q)
   ·rcases hO _ l b h1 hl with q|q
    ·exact .inl q
    ·exact .inr (hOwnM b q)
theorem aSo{f:Operand}(ho:o.op=.call c)(hc:c.callee=.value f)(h:aFa P s dst K (c.args.toList.map s.ev) (s.ev f)):
  ∃s',K s'/\EOk P o (f::c.args.toList) dst s s':=by
 generalize hf:s.ev f=vf at h;unfold aFa at h;split at h
 case h_2=>exact h.elim
 rename_i fn caps;obtain⟨hs,r,bs',nbs,hnd,hok,hlive,hits,hlen,hcall,hK⟩:=h;obtain⟨e1,e2,e3,e4⟩:=aGh (s:=s) (dst:=dst) (vals:=c.args.toList.map s.ev++caps) (r:=r) (nbs:=nbs) hnd hok hits hlen;refine⟨_,hK,⟨e1,e2,e3,fun G m w ρ _ hS hev hn=>?_⟩⟩;have hrf:=hev f (by simp);rw[hf]at hrf;unfold AV.Rep at hrf;obtain⟨vs,hv,hcaps⟩:=hrf;have hargs:AV.RepL G m (c.args.toList.map s.ev) (c.args.toList.map ρ):=AV.RepL_map (fun x hx=>hev x (by simp[hx]));have hrep:AV.RepL G m (c.args.toList.map s.ev++caps) (c.args.map ρ++vs).toList:=by rw[ep,eu];exact AV.RepL_append hargs hcaps
 refine vK ho hc hv ?_;obtain⟨G1,m1,hS1,hO1,hr1,hpost⟩:=e4 G m w _ hS hrep hn;exact(hcall w G1 m1 _ hS1 hO1 hr1).mono fun v w' hp=>hpost v w' hp
end
theorem Sim.part(hS:Sim G m s.lk w)(hm:m hd=some (.at_ b sz))(hl:s.lk hd=some (.row true k es))
  (hlen:news.length=n*k) (hys:ys.length=n) (hin:off+n<=es.length) (hrows:∀(f:Nat->Option Value) (o:Nat),(∀i,i<news.length->f (o+i)=news[i]?)->DV.rows G f k o ys) (hone:∀u∈news,u.oneCell'=true) (P:Program):
  ∃w',(storeCells ⟨b,off*k,none⟩ news).run P w=.ok () w'/\Sim G m (s.setBlk hd (some (.row true k (es.take off++ys++es.drop (off+n))))).lk w'/\Fr (Own m) (fun _=>False) G G w w':=by
 obtain⟨bl,hl',hb⟩:=hS.blk _ _ _ hm;rw[hl]at hl';cases hl';unfold BlkRep at hb;obtain⟨vs,T',h1,h2,h3,h4,h5⟩:=hb;have hm1:(off+n)*k<=es.length*k:=c8 _ hin;rw[cz]at hm1;have hst:=run_storeCells_at P b (off*k) T' news 0 vs w h1 (by rw[hlen];omega) hone;simp only[e9]at hst;refine⟨_,hst,hS.write hm h1 h5 (fun w' hw'=>?_)⟩;unfold BlkRep;have ht:(vs.toList.take (off*k)).length=off*k:=by simp;omega
 refine⟨_,T',hw',?_,?_,?_,h5⟩
 ·simp[hlen];omega
 ·have:(es.take off++ys++es.drop (off+n)).length=es.length:=by simp[hys];omega
  rw[this];exact h3
 ·have hto:(es.take off).length=off:=by simp;omega
  refine DV.rows_append (DV.rows_append (DV.rows_congr (fun p hp=>?_) (DV.rows_take off h4)) (hrows _ _ (fun p hp=>?_))) (DV.rows_congr (o:=(off+n)*k) (fun p hp=>?_) (by have:=DV.rows_drop (off+n) h4;rwa[bq]at this))
  ·rw[hto]at hp;rw[bq];show((vs.toList.take (off*k)++news++vs.toList.drop (off*k+news.length)).toArray)[p]?=_;rw[f7,a9,b6 (by omega),dq hp,cc]
  ·rw[hto,bq];show((vs.toList.take (off*k)++news++vs.toList.drop (off*k+news.length)).toArray)[off*k+p]?=_;rw[f7,a9,cg (by omega),ht,cu,b6 hp]
  ·have hL:(es.take off++ys).length=off+n:=by simp[hys];omega
   rw[hL,bq];show((vs.toList.take (off*k)++news++vs.toList.drop (off*k+news.length)).toArray)[(off+n)*k+p]?=_;rw[f7,cg (by simp[hlen,cz];omega),en,cc];simp only[κ,ht,hlen];congr 1;rw[cz];omega
theorem aHv{lk:aY}(hS:Sim G m lkf w)(hs:∀h mt k es,lk h=some (.row mt k es)->∃mt',lkf h=some (.row mt' k es)){y:AV}
  (hr:AV.Rep G m y v) (hy:AV.content lk y=some ys) (hns:AV.isS y=false) (n:Nat) (hn:n<=ys.length):∃y' a cap,v=.slice a ys.length cap/\AV.Rep G m y' (.slice a n cap)/\AV.content lk y'=some (ys.take n):=by
 have data:∀es,DV.Rep G (.L es) v->es=ys->∃y' a cap,v=.slice a ys.length cap/\AV.Rep G m y' (.slice a n cap)/\AV.content lk y'=some (ys.take n):=fun es h e=>by
  subst e;unfold DV.Rep at h;obtain⟨a,cap,h1,h2,h3,h4⟩:=h;refine⟨.D (.L (es.take n)),a,cap,h1,?_,rfl⟩;unfold AV.Rep DV.Rep;have hl:(es.take n).length=n:=by simp;omega
  refine⟨a,cap,by rw[hl],by rw[hl];omega,h3,fun hne=>?_⟩;obtain⟨b,o,k,h5,h6⟩:=h4 (fun e=>by subst e;simp at hne);exact⟨b,o,k,h5,DV.rows_take n h6⟩
 unfold AV.content at hy;split at hy
 ·cases hy;unfold AV.Rep at hr;exact data _ hr rfl
 ·cases hy;unfold AV.Rep at hr;exact data _ hr.1 rfl
 ·rename_i h k off len;split at hy
  case h_2=>cases hy
  rename_i mt k2 es hl;split at hy
  case isFalse=>cases hy
  rename_i hc;cases hy;obtain⟨rfl,hle⟩:=hc;have hL:((es.drop off).take len).length=len:=by simp;omega
  rw[hL]at hn;unfold AV.Rep at hr;obtain⟨h0,loc,hloc,hsl⟩:=hr;obtain⟨mt',hl'⟩:=hs _ _ _ _ hl;have hnd:loc≠.dead:=fun e=>by subst e;rw[hS.dead _ hloc]at hl';cases hl'
  have hcont:AV.content lk (.sl h k2 off n)=some (((es.drop off).take len).take n):=by unfold AV.content;simp only[hl];rw[if_pos ⟨trivial,by omega⟩,ja,jl hn]
  rcases hsl hnd with⟨p,hv,rfl⟩|⟨b,sz,cap,rfl,hv,hcap,hsz⟩
  ·obtain rfl:n=0:=by omega
   refine⟨.sl h k2 off 0,p,0,by rw[hL];exact hv,?_,hcont⟩;unfold AV.Rep;exact⟨rfl,loc,hloc,fun _=>.inl ⟨p,rfl,rfl⟩⟩
  ·refine⟨.sl h k2 off n,_,cap,by rw[hL];exact hv,?_,hcont⟩;unfold AV.Rep;exact⟨rfl,_,hloc,fun _=>.inr ⟨b,sz,cap,rfl,rfl,by omega,hsz⟩⟩
 ·rename_i h k off len cap0;split at hy
  case h_2=>cases hy
  rename_i mt k2 es hl;split at hy
  case isFalse=>cases hy
  rename_i hc;cases hy;obtain⟨rfl,hle⟩:=hc;have hL:((es.drop off).take len).length=len:=by simp;omega
  rw[hL]at hn;unfold AV.Rep at hr;obtain⟨h0,loc,hloc,hsl⟩:=hr;obtain⟨mt',hl'⟩:=hs _ _ _ _ hl;have hnd:loc≠.dead:=fun e=>by subst e;rw[hS.dead _ hloc]at hl';cases hl'
  have hcont:AV.content lk (.sl h k2 off n)=some (((es.drop off).take len).take n):=by unfold AV.content;simp only[hl];rw[if_pos ⟨trivial,by omega⟩,ja,jl hn]
  rcases aIi (hsl hnd)with⟨p,hv,rfl⟩|⟨b,sz,cap,rfl,hv,hcap,hsz⟩
  ·obtain rfl:n=0:=by omega
   refine⟨.sl h k2 off 0,p,0,by rw[hL];exact hv,?_,hcont⟩;unfold AV.Rep;exact⟨rfl,loc,hloc,fun _=>.inl ⟨p,rfl,rfl⟩⟩
  ·refine⟨.sl h k2 off n,_,cap,by rw[hL];exact hv,?_,hcont⟩;unfold AV.Rep;exact⟨rfl,_,hloc,fun _=>.inr ⟨b,sz,cap,rfl,rfl,by omega,hsz⟩⟩
 ·cases hns
 ·cases hy
section
variable{P:Program}{o:Oper}
theorem aFq{b0 b1:Blk}{a:AV}(hl:s.lk h=some b0)
  (hrun:∀(G:Gh) (m:HM) (w:World) (ρ:Operand->Value),Sim G m s.lk w->(∀x∈xs,AV.Rep G m (s.ev x) (ρ x))->∃v w',(execOp ρ o).run P w=.ok (.value v) w'/\Sim G m (s.setBlk h (some b1)).lk w'/\Fr (Own m) (fun _=>False) G G w w'/\AV.Rep G m a v):
  EOk P o xs dst s ((s.setBlk h (some b1)).put dst a [] []):=by
 have hlk:((s.setBlk h (some b1)).put dst a [] []).lk=(s.setBlk h (some b1)).lk:=by rw[iE,cT,eY]
 have hnx:((s.setBlk h (some b1)).put dst a [] []).nx=s.nx:=by show(s.setBlk h (some b1)).nx+0=_;rw[bY];rfl
 refine⟨fun t ht=>?_,by rw[hnx];exact π _,fun hown j hj=>mP (fun j hj=>jB hown ⟨_,hl⟩ j (by rw[bY]at hj;exact hj)) j hj,fun G m w ρ hρ hS hev hn=>?_⟩
 ·show cE (s.setBlk h (some b1)).env dst a t=_;rw[eC];cases dst with
  |none=>rfl
  |some dd=>simp only[cE,upd];rw[if_neg (fun q=>ht (by rw[q]))]
 ·obtain⟨v,w',h1,h2,h3,h4⟩:=hrun G m w ρ hS hev;refine Does.val h1 ⟨G,m,by rw[hlk];exact h2,fun d hd=>?_,h3.mono (fun _ _ q=>q) (fun _ _ q=>q.elim),HM.le.refl m,fun _=>.inl rfl,fun _ _=>.inl rfl,fun x l b hj hl=>.inr ⟨_,l,hj,hl⟩⟩;subst hd;show AV.Rep G m (upd (s.setBlk h (some b1)).env d a d) v;unfold upd;rw[if_pos rfl];exact h4
theorem aDu(h:DV.rows G (fun i=>news[i]?) k 0 ys)(hone:aCc ys=true)(hlen:news.length=ys.length*k):∀u∈news,u.oneCell'=true:=by intro u hu;obtain⟨j,hj⟩:=d5 hu;have hlt:=(ω.1 hj).1;exact aDs h hone j u (by rw[<-hlen];exact hlt) (by simpa using hj)
theorem aUg(ho:o.op=.call c)(hc:c.callee=.builtin .clear)(ha:c.args.toList=[x])(hta:c.argTypes.toList=[t])
  (ht:P.underlying t=some (.slice e)) (hi:P.info? e=some i) (hz:i.zero=some z) (hz':z.cells.size=i.size) (hz1:(z.cells.toList.map fC).all DV.one=true)
  (h:aBe s i.size (z.cells.toList.map fC) dst K (s.ev x)):∃s',K s'/\EOk P o [x] dst s s':=by
 have ha':c.args=#[x]:=by rw[<-cm (xs:=c.args),ha]
 have ht':c.argTypes=#[t]:=by rw[<-cm (xs:=c.argTypes),hta]
 have hexec:∀(ρ:Operand->Value) (v:Value) (w w':World),(Builtin.clear_ #[t] o.type #[ρ x]).run P w=.ok v w'->(execOp ρ o).run P w=.ok (.value v) w':=fun ρ v w w' h=>by simp only[execOp,ho,resolve,hc,ha',ht',invoke,builtin,Sem.run_bind,Sem.run_pure,Result.andThen_ok];simp[h]
 generalize hx:s.ev x=ax at h;unfold aBe at h;split at h
 case h_2=>exact h.elim
 rename_i hd k' off len;obtain⟨rfl,es,hl,hle,hK⟩:=h;refine⟨_,hK,aFq hl (fun G m w ρ hS hev=>?_)⟩;have hrx:=hev x (by simp);rw[hx]at hrx;unfold AV.Rep at hrx;obtain⟨_,loc,hloc,hsl⟩:=hrx;have hnd:loc≠.dead:=fun e=>by subst e;rw[hS.dead _ hloc]at hl;cases hl
 have same:len=0->(s.setBlk hd (some (.row true i.size (es.take off++br len (z.cells.toList.map fC)++es.drop (off+len))))).lk=s.lk:=fun e=>by
  subst e;funext y;rw[bH];split
  ·rename_i e;rw[e,hl];simp
  ·rfl
 have unit:∀v,AV.Rep G m .any v:=fun v=>by unfold AV.Rep;trivial
 rcases hsl hnd with⟨p,hv,hlen0⟩|⟨b,sz,cap,rfl,hv,hcap,hsz⟩
 ·refine⟨.tuple #[],w,hexec ρ _ w w ?_,by rw[same hlen0];exact hS,Fr.refl _ _ _ _,unit _⟩;rw[hv];cases p<;>simp[Builtin.clear_,run_underlying ht]
 ·by_cases h0:len=0
  ·refine⟨.tuple #[],w,hexec ρ _ w w ?_,by rw[same h0];exact hS,Fr.refl _ _ _ _,unit _⟩;rw[hv,h0];simp[Builtin.clear_,run_underlying ht]
  ·have hzl:z.cells.toList.length=i.size:=by simpa using hz'
   have hzc:∀j,j<len*i.size->(Builtin.zeroCells z.cells len).toList[j]?=z.cells.toList[j%z.cells.toList.length]?:=fun j hj=>by have hpos:0<i.size:=Nat.pos_of_ne_zero (fun e=>by rw[e]at hj;simp at hj);have hm:j%z.cells.size<z.cells.size:=j0 _ (by rw[hz'];exact hpos);simp only[Builtin.zeroCells,cc,jv,e7];rw[jg];simp[hz',hj];rw[<-hz',i7,cp,gm hm];simp[hz']
   have hzlen:(Builtin.zeroCells z.cells len).toList.length=len*i.size:=by simp[Builtin.zeroCells,hz']
   have hzrows:∀(f:Nat->Option Value) (o:Nat),(∀j,j<(Builtin.zeroCells z.cells len).toList.length->f (o+j)=(Builtin.zeroCells z.cells len).toList[j]?)->DV.rows G f i.size o (br len (z.cells.toList.map fC)):=fun f o hf=>by have:=vI G f z.cells.toList len o (fun j hj=>by rw[hzl]at hj;rw[hf j (by rw[hzlen];exact hj),hzc j hj]);rwa[hzl]at this
   obtain⟨w',h1,h2,h3⟩:=hS.part hloc hl (off:=off) (ys:=br len (z.cells.toList.map fC)) hzlen (by simp) hle hzrows
    (aDu (hzrows _ 0 (fun j _=>by rw[bq])) (by simp[aCc,hz1]) (by rw[hzlen];simp)) P
   refine⟨.tuple #[],w',hexec ρ _ w w' ?_,h2,h3,unit _⟩;rw[hv];simp[Builtin.clear_,run_underlying ht,h0,kQ hi hz,h1]
theorem aD2{M cap cap':Nat}{a:Option Addr}:Builtin.firstCells k n (.slice a M cap)=Builtin.firstCells k n (.slice a n cap'):=by cases a<;>rfl
theorem uM{P:Program}{lk:aY}(hS:Sim G m lkf w)(hs:∀h mt k es,lk h=some (.row mt k es)->∃mt',lkf h=some (.row mt' k es)){y:AV}
  (hr:AV.Rep G m y v) (hy:AV.content lk y=some ys) (hu:Uni k ys) (n:Nat) (hn:n<=ys.length):(∀w1:World,(Builtin.lenOf v).run P w1=.ok ys.length w1)/\
  ∃(vs:List Value),vs.length=n*k/\(∀w1:World,w1.heap=w.heap->(Builtin.firstCells k n v).run P w1=.ok vs.toArray w1)/\
   ∀(G':Gh) (f:Nat->Option Value) (o:Nat),Gh.le G G'->(∀i,i<vs.length->f (o+i)=vs[i]?)->DV.rows G' f k o (ys.take n):=by
 have hu':Uni k (ys.take n):=fun e he=>hu e (ex he);have hL:(ys.take n).length=n:=by simp;omega
 refine⟨(cZ (P:=P) hS hs hr hy hu).1,?_⟩;cases hns:AV.isS y with
 |false=>
  obtain⟨y',a,cap',hvy,hry',hcy'⟩:=aHv hS hs hr hy hns n hn;obtain⟨_,vs,c2,c3,c4⟩:=cZ (P:=P) hS hs hry' hcy' hu';rw[hL]at c2 c3;exact⟨vs,c2,fun w1 hw=>by rw[hvy,aD2 (cap':=cap')];exact c3 w1 hw,c4⟩
 |true=>
  unfold AV.isS at hns;split at hns
  case h_2=>cases hns
  rename_i t;have hv:v=.string ⟨t.toArray⟩:=by unfold AV.Rep DV.Rep at hr;exact hr
  unfold AV.content at hy;simp only[Option.some.injEq]at hy;subst hy;obtain⟨_,vs,c2,c3,c4⟩:=cZ (P:=P) (y:=.D (.S (t.take n))) (v:=.string ⟨(t.take n).toArray⟩) (ys:=(t.map fun c=>[DV.I .u8 c.toNat]).take n) hS hs (by unfold AV.Rep DV.Rep;rfl) (by rw[<-List.map_take];rfl) hu';rw[hL]at c2 c3;refine⟨vs,c2,fun w1 hw=>?_,c4⟩;rw[hv,<-c3 w1 hw];have:((⟨t.toArray⟩:ByteArray).extract 0 n).data=((⟨(t.take n).toArray⟩:ByteArray).extract 0 n).data:=by rw[ByteArray.data_extract,ByteArray.data_extract];apply je.1;rw[fb,fb];simp[f5,ja]
  show(Builtin.firstCells k n (.string _)).run P w1=(Builtin.firstCells k n (.string _)).run P w1;simp only[Builtin.firstCells,this]
theorem aYi(ho:o.op=.call c)(hc:c.callee=.builtin .copy)(ha:c.args.toList=[x,y])(hta:c.argTypes.toList=[t,u])
  (ht:P.underlying t=some (.slice e)) (hi:P.info? e=some i)
  (h:aGl s i.size y dst K (s.ev x)):∃s',K s'/\EOk P o [x,y] dst s s':=by
 have ha':c.args=#[x,y]:=by rw[<-cm (xs:=c.args),ha]
 have ht':c.argTypes=#[t,u]:=by rw[<-cm (xs:=c.argTypes),hta]
 have hexec:∀(ρ:Operand->Value) (v:Value) (w w':World),(Builtin.copy_ #[t,u] o.type #[ρ x,ρ y]).run P w=.ok v w'->(execOp ρ o).run P w=.ok (.value v) w':=fun ρ v w w' h=>by simp only[execOp,ho,resolve,hc,ha',ht',invoke,builtin,Sem.run_bind,Sem.run_pure,Result.andThen_ok];simp[h]
 generalize hx:s.ev x=ax at h;unfold aGl at h;split at h
 case h_3=>exact h.elim
 case h_1=>
  rename_i hd k' off len;obtain⟨rfl,es,ys,hl,hle,hy,hu,hone,hK⟩:=h;refine⟨_,hK,aFq hl (fun G m w ρ hS hev=>?_)⟩;have hrx:=hev x (by simp);have hry:=hev y (by simp);rw[hx]at hrx;unfold AV.Rep at hrx;obtain⟨_,loc,hloc,hsl⟩:=hrx;have hnd:loc≠.dead:=fun e=>by subst e;rw[hS.dead _ hloc]at hl;cases hl
  have hrowS:∀h mt k es,s.lk h=some (.row mt k es)->∃mt',s.lk h=some (.row mt' k es):=fun _ mt _ _ h=>⟨mt,h⟩;obtain⟨hlo0,vs,c2,c30,c4⟩:=uM (P:=P) hS hrowS hry hy hu (min ys.length len) (Nat.min_le_left _ _);have hu':Uni i.size (ys.take (min ys.length len)):=fun e he=>hu e (ex he);have hone':aCc (ys.take (min ys.length len))=true:=hone;have hL:(ys.take (min ys.length len)).length=min ys.length len:=by simp
  have same:min ys.length len=0->(s.setBlk hd (some (.row true i.size (es.take off++ys.take (min ys.length len)++es.drop (off+min ys.length len))))).lk=s.lk:=fun e=>by
   rw[e];funext z;rw[bH];split
   ·rename_i e;rw[e,hl];simp
   ·rfl
  have num:∀v,v=.int .i64 (min ys.length len:Nat)->AV.Rep G m (.D (.I .i64 (min ys.length len:Nat))) v:=fun v e=>by unfold AV.Rep DV.Rep;exact e
  have hfc:(Builtin.firstCells i.size (min ys.length len) (ρ y)).run P w=.ok vs.toArray w:=c30 w rfl;rcases hsl hnd with⟨p,hv,hlen0⟩|⟨b,sz,cap,rfl,hv,hcap,hsz⟩
  ·have h0:min ys.length len=0:=by omega
   have hvs:vs=[]:=by rw[h0]at c2;simpa using c2
   refine⟨_,w,hexec ρ (.int .i64 0) w w ?_,by rw[same h0];exact hS,Fr.refl _ _ _ _,num _ (by rw[h0];rfl)⟩;rw[h0]at hfc;rw[hvs]at hfc;have hlo:(Builtin.lenOf (ρ y)).run P w=.ok ys.length w:=hlo0 w;rw[hv];cases p with
   |none=>simp[Builtin.copy_,run_underlying ht,bK hi,hlo,hfc,goInt]
   |some p=>simp[Builtin.copy_,run_underlying ht,bK hi,hlo,hfc,goInt,storeCells]
  ·have hlo:(Builtin.lenOf (ρ y)).run P w=.ok ys.length w:=hlo0 w;have hmin:Nat.min ys.length len=min ys.length len:=rfl;obtain⟨w',h1,h2,h3⟩:=hS.part hloc hl (off:=off) (ys:=ys.take (min ys.length len)) c2 hL (by omega) (fun f o hf=>c4 G f o (Gh.le.refl G) hf)
    (aDu (c4 G _ 0 (Gh.le.refl G) (fun j _=>by rw[bq])) hone' (by rw[c2,hL])) P
   refine⟨_,w',hexec ρ (.int .i64 (min ys.length len:Nat)) w w' ?_,h2,h3,num _ rfl⟩;rw[hv];simp[Builtin.copy_,run_underlying ht,bK hi,hlo,hmin,hfc,h1,goInt]
 case h_2=>
  rename_i hd k' off len cap0;obtain⟨rfl,es,ys,hl,hle,hy,hu,hone,hK⟩:=h;refine⟨_,hK,aFq hl (fun G m w ρ hS hev=>?_)⟩;have hrx:=hev x (by simp);have hry:=hev y (by simp);rw[hx]at hrx;unfold AV.Rep at hrx;obtain⟨_,loc,hloc,hsl⟩:=hrx;have hnd:loc≠.dead:=fun e=>by subst e;rw[hS.dead _ hloc]at hl;cases hl
  have hrowS:∀h mt k es,s.lk h=some (.row mt k es)->∃mt',s.lk h=some (.row mt' k es):=fun _ mt _ _ h=>⟨mt,h⟩;obtain⟨hlo0,vs,c2,c30,c4⟩:=uM (P:=P) hS hrowS hry hy hu (min ys.length len) (Nat.min_le_left _ _);have hu':Uni i.size (ys.take (min ys.length len)):=fun e he=>hu e (ex he);have hone':aCc (ys.take (min ys.length len))=true:=hone;have hL:(ys.take (min ys.length len)).length=min ys.length len:=by simp
  have same:min ys.length len=0->(s.setBlk hd (some (.row true i.size (es.take off++ys.take (min ys.length len)++es.drop (off+min ys.length len))))).lk=s.lk:=fun e=>by
   rw[e];funext z;rw[bH];split
   ·rename_i e;rw[e,hl];simp
   ·rfl
  have num:∀v,v=.int .i64 (min ys.length len:Nat)->AV.Rep G m (.D (.I .i64 (min ys.length len:Nat))) v:=fun v e=>by unfold AV.Rep DV.Rep;exact e
  have hfc:(Builtin.firstCells i.size (min ys.length len) (ρ y)).run P w=.ok vs.toArray w:=c30 w rfl;rcases aIi (hsl hnd)with⟨p,hv,hlen0⟩|⟨b,sz,cap,rfl,hv,hcap,hsz⟩
  ·have h0:min ys.length len=0:=by omega
   have hvs:vs=[]:=by rw[h0]at c2;simpa using c2
   refine⟨_,w,hexec ρ (.int .i64 0) w w ?_,by rw[same h0];exact hS,Fr.refl _ _ _ _,num _ (by rw[h0];rfl)⟩;rw[h0]at hfc;rw[hvs]at hfc;have hlo:(Builtin.lenOf (ρ y)).run P w=.ok ys.length w:=hlo0 w;rw[hv];cases p with
   |none=>simp[Builtin.copy_,run_underlying ht,bK hi,hlo,hfc,goInt]
   |some p=>simp[Builtin.copy_,run_underlying ht,bK hi,hlo,hfc,goInt,storeCells]
  ·have hlo:(Builtin.lenOf (ρ y)).run P w=.ok ys.length w:=hlo0 w;have hmin:Nat.min ys.length len=min ys.length len:=rfl;obtain⟨w',h1,h2,h3⟩:=hS.part hloc hl (off:=off) (ys:=ys.take (min ys.length len)) c2 hL (by omega) (fun f o hf=>c4 G f o (Gh.le.refl G) hf)
    (aDu (c4 G _ 0 (Gh.le.refl G) (fun j _=>by rw[bq])) hone' (by rw[c2,hL])) P
   refine⟨_,w',hexec ρ (.int .i64 (min ys.length len:Nat)) w w' ?_,h2,h3,num _ rfl⟩;rw[hv];simp[Builtin.copy_,run_underlying ht,bK hi,hlo,hmin,hfc,h1,goInt]
end
end Go.Eng

/- Texts of this claim. -/
import Derived.Test.YtloponjgedpffaaGreatE9
set_option linter.all false
set_option linter.unusedSimpArgs false
set_option linter.unusedVariables false
namespace Go.Eng
open Go.RowKit

theorem PPost.garb {G:Gh} {m:HM} {lk:Look} {n:Nat} {a:AV} {w:World} {v:Value} (hS:Sim G m lk w) (ob:Obj) (h:AV.Rep G m a v):PPost G m lk n a [] [] w v (w.alloc ob) :=
 ⟨G,m,by rw [lkN_nil,lkF_nil];exact hS.alloc ob,h,Fr.alloc _,fun _ _=>rfl,fun j _ _ hj=>by simp at hj⟩

theorem vfill_seq {k:Nat}:∀ (cs:List (List Value)) (s:Nat) (pre rest:List Value),(∀ c ∈ cs,c.length=k)->pre.length=s * k->rest.length=cs.length * k ->
  vfill (pre ++ rest) ((cs.zipIdx s).map fun p=>(p.2 * k,p.1))=pre ++ cs.flatten
 | [],s,pre,rest,_,_,hr=>by
  have:rest=[]:=by simpa using hr
  subst this
  simp [vfill]
 | c :: cs,s,pre,rest,hc,hp,hr=>by
  have hck:=hc c (by simp)
  simp only [List.zipIdx_cons,List.map_cons,vfill]
  have e1:(pre ++ rest).take (s * k)=pre:=by rw [<- hp];simp
  have e2:(pre ++ rest).drop (s * k + c.length)=rest.drop k:=by
   rw [List.drop_append,hp,hck,List.drop_eq_nil_of_le (by omega),List.nil_append]
   congr 1;omega
  rw [e1,e2]
  rw [vfill_seq cs (s + 1) (pre ++ c) (rest.drop k) (fun d hd=>hc d (by simp [hd])) (by simp [hp,hck,Nat.add_mul]) (by
   rw [List.length_drop,hr];simp [Nat.add_mul])]
  simp

section
variable {P:Program} {o:Oper} {lk:Look} {n:Nat} {ev:Operand->AV} {K:AV->List Blk->List Hd->Prop}

theorem adataL_out {G:Gh} {m:HM} {lkf:Look} {w:World} {ρ:Operand->Value} {k:Nat} (hS:Sim G m lkf w) (hs:∀ h mt k es,lk h=some (.row mt k es)->∃ mt',lkf h=some (.row mt' k es)) :
  ∀ {xs:List Operand} {es:List (List DV)},adataL lk ev k xs=some es->(∀ x ∈ xs,AV.Rep G m (ev x) (ρ x)) ->
   (∀ h ∈ adataRows ev xs,(lk h).isSome=true->∀ mt k es,lkf h=some (.row mt k es)->mt=false) ->
   (∀ x ∈ xs,(ρ x).cells.size=k)/\es.length=xs.length /\
   ∀ (f:Nat->Option Value) (off:Nat),(∀ i,i < ((xs.map fun x=>(ρ x).cells.toList).flatten).length->f (off + i)=((xs.map fun x=>(ρ x).cells.toList).flatten)[i]?)->DV.rows G f k off es
 | [],es,h,_,_=>by
  unfold adataL at h
  cases h
  exact ⟨fun x hx=>by simp at hx,rfl,fun f off _=>by simp [DV.rows]⟩
 | x :: xs,es,h,hev,hfz=>by
  unfold adataL at h
  cases h1:((ev x).cells?).bind fun cs=>AV.data (AV.convL lk (fun _=>none) cs) with
  | none=>rw [h1] at h;cases h
  | some e =>
   cases h2:adataL lk ev k xs with
   | none=>rw [h1,h2] at h;cases h
   | some es' =>
    rw [h1,h2] at h
    simp only at h
    split at h
    case isFalse=>cases h
    rename_i hek
    cases h
    simp only [Option.bind_eq_some_iff] at h1
    obtain ⟨cs,hcs,hd⟩:=h1
    have hx:=hev x (by simp)
    have hrep:=(AV.Rep_cells hcs hx).1
    have hrows:∀ h ∈ AV.rowsL cs,h ∈ AV.rows (ev x):=fun h hh=>by
     unfold AV.cells? at hcs
     split at hcs
     ·split at hcs
      ·cases hcs;rename_i e _;rw [e];unfold AV.rows;exact hh
      ·cases hcs
     ·split at hcs
      ·cases hcs;simpa [AV.rowsL] using hh
      ·cases hcs
    have hconv:=AV.convL_rep (mc:=m) (lk:=lk) (φ:=fun _=>none) hS hs (fun h h' loc hh=>by cases hh) cs _ (fun h hh mt k' es'' _ hsome hl=>hfz h (by unfold adataRows;exact List.mem_append_left _ (hrows h hh)) hsome mt k' es'' hl) hrep
    obtain ⟨ih1,ih2,ih3⟩:=adataL_out hS hs h2 (fun y hy=>hev y (by simp [hy])) (fun h hh=>hfz h (by unfold adataRows;exact List.mem_append_right _ hh))
    have hlen:(ρ x).cells.size=k:=by
     have h3:=AV.RepL_length hconv
     have h4:e.length=(AV.convL lk (fun _=>none) cs).length:=by
      clear h2 ih1 ih2 ih3 hconv h3 hrep hrows hfz hev hx hcs hek
      generalize AV.convL lk (fun _=>none) cs=l at hd
      induction l generalizing e with
      | nil=>unfold AV.data at hd;cases hd;rfl
      | cons a l ih =>
       cases a <;> unfold AV.data at hd <;> first | cases hd | skip
       simp only [Option.map_eq_some_iff] at hd
       obtain ⟨e',he',rfl⟩:=hd
       simp [ih e' he']
     rw [<- hek,h4,h3];simp
    refine ⟨fun y hy=>?_,by simp [ih2],fun f off hf=>?_⟩
    ·rcases List.mem_cons.1 hy with rfl | hy
     ·exact hlen
     ·exact ih1 y hy
    ·unfold DV.rows
     simp only [List.map_cons,List.flatten_cons,List.length_append] at hf
     have hl':(ρ x).cells.toList.length=k:=by simpa using hlen
     refine ⟨hek,AV.Rep_data hconv hd f off (fun j hj=>?_),ih3 f (off + k) (fun i hi=>?_)⟩
     ·rw [hf j (by omega),List.getElem?_append_left hj]
     ·have:=hf (k + i) (by omega)
      rw [List.getElem?_append_right (by omega),hl',Nat.add_sub_cancel_left] at this
      rw [Nat.add_assoc];exact this

theorem ps_bslice {T k:Nat} {ps:Array (Nat × Operand)} {ro:ROp} (ho:o.op=.buildSlice T k ps) (hr:resolveOp P o=some ro) (h:pstep P lk n ev ro K):PS P o ro lk n ev K:=by
 simp only [resolveOp,ho] at hr
 split at hr
 case h_2=>cases hr
 rename_i e hT
 simp only [Option.bind_eq_some_iff] at hr
 obtain ⟨i,hi,hr⟩:=hr
 split at hr
 case isFalse=>cases hr
 rename_i hc
 cases hr
 simp only [Bool.and_eq_true,beq_iff_eq,decide_eq_true_eq] at hc
 obtain ⟨⟨⟨hc1,hc2⟩,hc3⟩,hc4⟩:=hc
 obtain ⟨z,hz⟩:=Option.isSome_iff_exists.1 hc4
 have hk:k=ps.size:=by have:=congrArg List.length hc1;simpa using this.symm
 have h':(if ps.toList.map (·.2)=[] then K (.fl []) [] [] else ∃ es,adataL lk ev i.size (ps.toList.map (·.2))=some es/\K (.sl (.O n) i.size 0 (ps.toList.map (·.2)).length) [.row true i.size es] (fzL lk (adataRows ev (ps.toList.map (·.2))))):=h
 clear h
 split at h'
 · -- no element
  rename_i hnil
  have hps:ps=#[]:=by
   have:ps.toList=[]:=by simpa using hnil
   rw [<- Array.toArray_toList (xs:=ps),this]
  subst hps
  have hk0:k=0:=by simpa using hk
  subst hk0
  refine ⟨_,_,_,h',by first | exact fun _=>⟨rfl,rfl⟩ | (intro hh;cases hh),(by intro h hh;first | (cases hh;done) | exact (List.mem_filter.1 hh).2 | (split at hh <;> first | exact (List.mem_filter.1 hh).2 | cases hh)),fun G m w ρ _ lk2 hls hS hev _=>?_⟩
  refine Does.val (v:=.slice (some ⟨w.heap.size,0,none⟩) 0 0) (w':=w.alloc (.cells #[] e)) ?_ (PPost.garb hS _ ?_)
  ·simp [execOp,ho,Instr.buildSlice,run_underlying hT,run_size hi,Instr.fill,newRow,Array.range_zero']
  ·unfold AV.Rep
   refine ⟨?_,_,rfl⟩
   unfold DV.Rep
   exact ⟨_,0,rfl,by simp,fun _=>rfl,fun h=>absurd rfl h⟩
 ·rename_i hne
  obtain ⟨es,hes,hK⟩:=h'
  refine ⟨_,_,_,hK,by first | exact fun _=>⟨rfl,rfl⟩ | (intro hh;cases hh),(by intro h hh;first | (cases hh;done) | exact (List.mem_filter.1 hh).2 | (split at hh <;> first | exact (List.mem_filter.1 hh).2 | cases hh)),fun G m w ρ _ lk2 hls hS hev hn=>?_⟩
  have hzc:∀ x ∈ ps.toList.map (·.2),AV.Rep G m (ev x) (ρ x):=fun x hx=>hev x (by simpa [ROp.operands] using hx)
  have hkpos:0 < k:=by
   rw [hk]
   rcases Nat.eq_zero_or_pos ps.size with h0 | h0
   ·exfalso;apply hne;have:ps=#[]:=by simpa using h0
    subst this;rfl
   ·exact h0
  let css:List (List Value):=(ps.toList.map (·.2)).map fun x=>(ρ x).cells.toList
  have hsize:∀ x ∈ ps.toList.map (·.2),(ρ x).cells.size=i.size:=by
   obtain ⟨G1,hS1,hle1,_⟩:=hS.freeze (fzL lk (adataRows ev (ps.toList.map (·.2))))
   exact (adataL_out (ρ:=ρ) hS1 (fun h mt k es hh=>by
    obtain ⟨mt',h2⟩:=(hls rfl).row h mt k es hh
    unfold lkF
    split
    ·exact ⟨false,by rw [h2];rfl⟩
    ·exact ⟨mt',h2⟩) hes (fun x hx=>AV.Rep.mono hle1 (HM.le.refl m) _ _ (hzc x hx)) (fun h hh hsome mt k es hrow=>by
    unfold lkF at hrow
    rw [if_pos (mem_fzL hh hsome)] at hrow
    cases hx:lk2 h with
    | none=>rw [hx] at hrow;cases hrow
    | some bl =>
     rw [hx] at hrow
     cases bl with
     | box cs=>cases hrow
     | row mt' k' es'=>cases hrow;rfl
     | nst _ _=>cases hrow
     | mp _ _ _=>cases hrow
     | it=>cases hrow)).1
  have hzs:(Array.range (k * i.size)).map (z.cells[· % z.cells.size]!)=((Array.range (k * i.size)).map (z.cells[· % z.cells.size]!)):=rfl
  let base:Array Value:=(Array.range (k * i.size)).map (z.cells[· % z.cells.size]!)
  have hbase:base.toList.length=k * i.size:=by simp [base]
  let rs:List (Nat × List Value):=(css.zipIdx 0).map fun p=>(p.2 * i.size,p.1)
  have hcssl:css.length=k:=by simp [css,hk]
  have hparts:∀ (j i':Nat) (v:Value),(ps.map fun (i,x)=>(i,ρ x)).toList[j]?=some (i',v)->i'=j/\j < k/\css[j]?=some v.cells.toList/\v.cells.size=i.size:=fun j i' v hj=>by
   rw [Array.toList_map,List.getElem?_map] at hj
   cases hx:ps.toList[j]? with
   | none=>rw [hx] at hj;cases hj
   | some p =>
    rw [hx] at hj
    obtain ⟨i2,x⟩:=p
    simp only [Option.map_some,Option.some.injEq,Prod.mk.injEq] at hj
    obtain ⟨rfl,rfl⟩:=hj
    have hlt:=(List.getElem?_eq_some_iff.1 hx).1
    have h1:(List.range k)[j]?=some i2:=by rw [<- hc1,List.getElem?_map,hx];rfl
    have hlt':j < k:=by rw [hk];simpa using hlt
    rw [List.getElem?_range hlt'] at h1
    cases h1
    refine ⟨rfl,hlt',by simp [css,hx],hsize x ?_⟩
    exact List.mem_map.2 ⟨_,List.mem_of_getElem? hx,rfl⟩
  obtain ⟨out,ho1,ho2⟩:=run_fill (fun j=>some (j * i.size,i.size)) (ps.map fun (i,x)=>(i,ρ x)).toList base rs (by simp [rs,hcssl,hk]) (fun j i' v hj=>by
   obtain ⟨rfl,h1,h2,h3⟩:=hparts j i' v hj
   refine ⟨i' * i.size,?_,by rw [h3],?_⟩
   ·simp [rs,List.getElem?_zipIdx,h2]
   ·rw [h3]
    have:base.size=k * i.size:=by simpa using hbase
    rw [this,<- Nat.succ_mul]
    exact Nat.mul_le_mul_right _ h1)
  have hout:out.toList=css.flatten:=by
   rw [ho2]
   have:=vfill_seq (k:=i.size) css 0 [] base.toList (fun c hc=>by
    simp only [css,List.mem_map] at hc
    obtain ⟨x,hx,rfl⟩:=hc
    simpa using hsize x (List.mem_map.2 hx)) (by simp) (by rw [hbase,hcssl])
   simpa [rs] using this
  refine Does.val (v:=.slice (some ⟨w.heap.size,0,none⟩) k k) (w':=w.alloc (.cells out e)) ?_ ?_
  ·have hnz:¬ (k * i.size=0):=by
    have:=Nat.mul_pos hkpos hc3
    omega
   have hle:¬ (16777216 < k * i.size):=by omega
   have ho1':Instr.fill (fun j=>some (j * i.size,i.size)) ((Array.range (k * i.size)).map (z.cells[· % z.cells.size]!)) (ps.map fun (i,x)=>(i,ρ x)).toList=some out:=ho1
   simp only [execOp,ho,Instr.buildSlice,Sem.run_bind,run_underlying hT,run_size hi,Result.andThen_ok]
   simp only [show (2:Nat) ^ 24=16777216 from rfl,hle,hnz,if_false,Sem.run_bind,run_zero hi hz,Result.andThen_ok,Sem.run_pure,ho1']
   simp [newRow]
  ·refine PPost.of_frz hS (fun G1 hle1 hS1=>?_)
   have hlkf:∀ h mt k es,lk h=some (.row mt k es)->∃ mt',lkF lk2 (fzL lk (adataRows ev (ps.toList.map (·.2)))) h=some (.row mt' k es):=fun h mt k es hh=>by
    obtain ⟨mt',h2⟩:=(hls rfl).row h mt k es hh
    unfold lkF
    split
    ·exact ⟨false,by rw [h2];rfl⟩
    ·exact ⟨mt',h2⟩
   have hfz:∀ h ∈ adataRows ev (ps.toList.map (·.2)),(lk h).isSome=true->∀ mt k es,lkF lk2 (fzL lk (adataRows ev (ps.toList.map (·.2)))) h=some (.row mt k es)->mt=false:=fun h hh hsome mt k es hrow=>by
    unfold lkF at hrow
    rw [if_pos (mem_fzL hh hsome)] at hrow
    cases hx:lk2 h with
    | none=>rw [hx] at hrow;cases hrow
    | some bl =>
     rw [hx] at hrow
     cases bl with
     | box cs=>cases hrow
     | row mt' k' es'=>cases hrow;rfl
     | nst _ _=>cases hrow
     | mp _ _ _=>cases hrow
     | it=>cases hrow
   obtain ⟨_,hel,hrows⟩:=adataL_out (ρ:=ρ) hS1 hlkf hes (fun x hx=>AV.Rep.mono hle1 (HM.le.refl m) _ _ (hzc x hx)) hfz
   have hosz:out.size=k * i.size:=by
    have h1:out.toList.length=(css.flatten).length:=by rw [hout]
    have h2:(css.flatten).length=css.length * i.size:=by
     have:∀ (l:List (List Value)),(∀ c ∈ l,c.length=i.size)->l.flatten.length=l.length * i.size:=fun l=>by
      induction l with
      | nil=>simp
      | cons c l ih=>intro hl;simp [ih (fun d hd=>hl d (by simp [hd])),hl c (by simp),Nat.add_mul];omega
     exact this css (fun c hc=>by
      simp only [css,List.mem_map] at hc
      obtain ⟨x,hx,rfl⟩:=hc
      simpa using hsize x (List.mem_map.2 hx))
    rw [h2,hcssl] at h1
    simpa using h1
   refine PPost.new hS1 (by simpa using hn 0 (by simp)) _ _ _ (fun m' hm'=>?_) (fun m' hm' hmn=>?_)
   ·unfold BlkRep
    refine ⟨out,e,heap_alloc_new w _,rfl,?_,hrows _ 0 (fun j hj=>?_),fun o=>Gh_new hS1 (Nat.le_refl _) o⟩
    ·rw [hel,hosz,hk];simp
    ·rw [Nat.zero_add,<- Array.getElem?_toList,hout]
   ·unfold AV.Rep
    refine ⟨rfl,_,hmn,fun _=>.inr ⟨_,_,k,rfl,?_,?_,?_⟩⟩
    ·simp [hk]
    ·simp [hk]
    ·rw [hosz];simp

theorem rows_values {G:Gh} {f:Nat->Option Value} {k:Nat}:∀ {es:List (List DV)} {o:Nat},DV.rows G f k o es->∃ vs:List Value,vs.length=es.length * k/\∀ j,j < vs.length->f (o + j)=vs[j]?
 | [],_,_=>⟨[],by simp,fun j hj=>by simp at hj⟩
 | e :: es,o,q=>by
  unfold DV.rows at q
  obtain ⟨us,h1,h2⟩:=cells_values q.2.1
  obtain ⟨vs,h3,h4⟩:=rows_values q.2.2
  have hus:us.length=k:=by rw [h1];exact q.1
  refine ⟨us ++ vs,by simp [h3,hus,Nat.add_mul];omega,fun j hj=>?_⟩
  by_cases hlt:j < us.length
  ·rw [h2 j hlt,List.getElem?_append_left hlt]
  ·have:=h4 (j - k) (by simp at hj;omega)
   rw [List.getElem?_append_right (by omega),hus,<- this]
   congr 1;omega

theorem content_run {G:Gh} {m:HM} {lkf:Look} {w:World} (hS:Sim G m lkf w) (hs:∀ h mt k es,lk h=some (.row mt k es)->∃ mt',lkf h=some (.row mt' k es)) {y:AV} {v:Value} {k:Nat} {ys:List (List DV)}
  (hr:AV.Rep G m y v) (hy:AV.content lk y=some ys) (hu:Uni k ys) :
  (∀ w1:World,(Builtin.lenOf v).run P w1=.ok ys.length w1) /\
  ∃ (vs:List Value),vs.length=ys.length * k/\(∀ w1:World,w1.heap=w.heap->(Builtin.firstCells k ys.length v).run P w1=.ok vs.toArray w1) /\
   ∀ (G':Gh) (f:Nat->Option Value) (o:Nat),Gh.le G G'->(∀ i,i < vs.length->f (o + i)=vs[i]?)->DV.rows G' f k o ys:=by
 have hk':∀ {G':Gh} {f:Nat->Option Value} {k' o:Nat},DV.rows G' f k' o ys->ys ≠ []->k'=k:=fun h hne=>by
  obtain ⟨e,he⟩:=List.exists_mem_of_ne_nil ys hne
  rw [<- hu e he];exact (DV.rows_lengths h e he).symm
 have main:∀ (f:Nat->Option Value) (b off cap:Nat),v=.slice (some ⟨b,off,none⟩) ys.length cap->DV.rows G f k off ys->(∀ o u,f o=some u->w.cell? ⟨b,o,none⟩=some u) ->
   (∀ w1:World,(Builtin.lenOf v).run P w1=.ok ys.length w1) /\
   ∃ (vs:List Value),vs.length=ys.length * k/\(∀ w1:World,w1.heap=w.heap->(Builtin.firstCells k ys.length v).run P w1=.ok vs.toArray w1) /\
   ∀ (G':Gh) (f:Nat->Option Value) (o:Nat),Gh.le G G'->(∀ i,i < vs.length->f (o + i)=vs[i]?)->DV.rows G' f k o ys:=fun f b off cap hv hrows hf=>by
  obtain ⟨vs,h1,h2⟩:=rows_values hrows
  refine ⟨fun w1=>by rw [hv];simp [Builtin.lenOf],vs,h1,fun w1 hw1=>?_,fun G' g o hG hg=>?_⟩
  ·rw [hv]
   refine run_firstCells_some w1 k ys.length ⟨b,off,none⟩ _ _ vs h1 (fun j u hj=>?_)
   have hlt:=(List.getElem?_eq_some_iff.1 hj).1
   rw [Addr.add_lit]
   have:=hf (off + j) u (by rw [h2 j hlt];exact hj)
   simpa [World.cell?,hw1] using this
  ·refine DV.rows.mono hG (fun _ _ h=>h) _ _ _ (DV.rows_congr (fun i hi=>?_) hrows)
   rw [hg i (by rw [h1];exact hi),h2 i (by rw [h1];exact hi)]
 have nil:ys=[]->(∃ a cap,v=.slice a 0 cap)->(∀ w1:World,(Builtin.lenOf v).run P w1=.ok ys.length w1) /\
   ∃ (vs:List Value),vs.length=ys.length * k/\(∀ w1:World,w1.heap=w.heap->(Builtin.firstCells k ys.length v).run P w1=.ok vs.toArray w1) /\
   ∀ (G':Gh) (f:Nat->Option Value) (o:Nat),Gh.le G G'->(∀ i,i < vs.length->f (o + i)=vs[i]?)->DV.rows G' f k o ys:=fun e hv=>by
  obtain ⟨a,cap,hv⟩:=hv
  subst e
  refine ⟨fun w1=>by rw [hv];simp [Builtin.lenOf],[],by simp,fun w1 _=>?_,fun _ _ _ _ _=>by simp [DV.rows]⟩
  rw [hv]
  cases a with
  | none=>simp [Builtin.firstCells]
  | some a=>simp [Builtin.firstCells,loadCells,loadCellsFrom]
 unfold AV.content at hy
 split at hy
 ·cases hy
  obtain ⟨a,cap,hv,hcap,_,hne⟩:=rep_L hr
  by_cases hes:ys=[]
  ·exact nil hes ⟨a,cap,by rw [hv,hes];rfl⟩
  ·obtain ⟨b,off,k',rfl,hrows⟩:=hne hes
   have:=hk' hrows hes
   subst this
   exact main _ b off cap hv hrows (fun o u h=>hS.gh b o u h)
 ·cases hy
  unfold AV.Rep at hr
  obtain ⟨a,cap,hv,hcap,_,hne⟩:=rep_L (m:=m) (by unfold AV.Rep;exact hr.1)
  by_cases hes:ys=[]
  ·exact nil hes ⟨a,cap,by rw [hv,hes];rfl⟩
  ·obtain ⟨b,off,k',rfl,hrows⟩:=hne hes
   have:=hk' hrows hes
   subst this
   exact main _ b off cap hv hrows (fun o u h=>hS.gh b o u h)
 ·rename_i h k1 off len
  split at hy
  case h_2=>cases hy
  rename_i mt k2 es hl
  split at hy
  case isFalse=>cases hy
  rename_i hc
  cases hy
  obtain ⟨rfl,hle⟩:=hc
  obtain ⟨mt',hl'⟩:=hs _ _ _ _ hl
  have hL:((es.drop off).take len).length=len:=by simp;omega
  unfold AV.Rep at hr
  obtain ⟨_,loc,hloc,hsl⟩:=hr
  have hnd:loc ≠ .dead:=fun e=>by subst e;rw [hS.dead _ hloc] at hl';cases hl'
  rcases hsl hnd with ⟨p,hv,rfl⟩ | ⟨b,sz,cap,rfl,hv,hcap,hsz⟩
  ·exact nil (by simp) ⟨p,0,hv⟩
  ·obtain ⟨bl,hl3,hb⟩:=hS.blk _ _ _ hloc
   rw [hl'] at hl3
   cases hl3
   obtain ⟨f,hrow,hf,_⟩:=row_cells hb hS.gh
   have hrow2:=DV.rows_take len (DV.rows_drop off hrow)
   rw [Nat.zero_add] at hrow2
   by_cases hes:(es.drop off).take len=[]
   ·have:len=0:=by rw [<- hL,hes];rfl
    subst this
    exact nil hes ⟨_,cap,hv⟩
   ·have:=hk' hrow2 hes
    subst this
    exact main f b _ cap (by rw [hL];exact hv) hrow2 hf
 ·rename_i h k1 off len cap0
  split at hy
  case h_2=>cases hy
  rename_i mt k2 es hl
  split at hy
  case isFalse=>cases hy
  rename_i hc
  cases hy
  obtain ⟨rfl,hle⟩:=hc
  obtain ⟨mt',hl'⟩:=hs _ _ _ _ hl
  have hL:((es.drop off).take len).length=len:=by simp;omega
  unfold AV.Rep at hr
  obtain ⟨_,loc,hloc,hsl⟩:=hr
  have hnd:loc ≠ .dead:=fun e=>by subst e;rw [hS.dead _ hloc] at hl';cases hl'
  rcases slk_sl (hsl hnd) with ⟨p,hv,rfl⟩ | ⟨b,sz,cap,rfl,hv,hcap,hsz⟩
  ·exact nil (by simp) ⟨p,0,hv⟩
  ·obtain ⟨bl,hl3,hb⟩:=hS.blk _ _ _ hloc
   rw [hl'] at hl3
   cases hl3
   obtain ⟨f,hrow,hf,_⟩:=row_cells hb hS.gh
   have hrow2:=DV.rows_take len (DV.rows_drop off hrow)
   rw [Nat.zero_add] at hrow2
   by_cases hes:(es.drop off).take len=[]
   ·have:len=0:=by rw [<- hL,hes];rfl
    subst this
    exact nil hes ⟨_,cap,hv⟩
   ·have:=hk' hrow2 hes
    subst this
    exact main f b _ cap (by rw [hL];exact hv) hrow2 hf
 ·rename_i t
  cases hy
  have hv:=rep_S hr
  by_cases ht:t=[]
  ·subst ht
   refine ⟨fun w1=>by rw [hv];simp [Builtin.lenOf,ByteArray.size],[],by simp,fun w1 _=>?_,fun _ _ _ _ _=>by simp [DV.rows]⟩
   rw [hv]
   simp [Builtin.firstCells]
  ·have hk1:k=1:=by
    obtain ⟨c,hc⟩:=List.exists_mem_of_ne_nil t ht
    exact (hu [.I .u8 c.toNat] (List.mem_map.2 ⟨c,hc,rfl⟩)).symm
   subst hk1
   refine ⟨fun w1=>by rw [hv];simp [Builtin.lenOf,ByteArray.size],t.map (fun c=>.int .u8 c.toNat),by simp,fun w1 _=>?_,fun G' f o _ hf=>?_⟩
   ·rw [hv]
    simp only [Builtin.firstCells,List.length_map,Sem.run_pure]
    congr 1
    apply Array.ext'
    rw [Array.toList_map,ByteArray.data_extract,Array.toList_extract]
    simp [List.extract_eq_take_drop]
   ·clear hr hv ht hu nil main hk'
    induction t generalizing o with
    | nil=>simp [DV.rows]
    | cons c t ih =>
     simp only [List.map_cons]
     unfold DV.rows
     refine ⟨rfl,?_,ih (o + 1) (fun i hi=>?_)⟩
     ·unfold DV.cells
      refine ⟨⟨.int .u8 c.toNat,by have:=hf 0 (by simp);simpa using this,by unfold DV.Rep;rfl⟩,by simp [DV.cells]⟩
     ·have:=hf (i + 1) (by simpa using hi)
      rw [show o + 1 + i=o + (i + 1) by omega,this];simp
 ·cases hy

end
end Go.Eng


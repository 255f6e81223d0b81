/- Texts of this claim. -/
import Derived.Test.YtkfcmelpadbdcaaGreatDoorE8
set_option linter.all false
set_option linter.unusedSimpArgs false
set_option linter.unusedVariables false
namespace Go.Eng
open Go.RowKit

theorem Sim.drew {G:Gh} {m:HM} {lk:Look} {w:World} (hS:Sim G m lk w):Sim G m lk w.drew :=
 ⟨fun h b sz hm=>let ⟨bl,hl,hb⟩:=hS.blk h b sz hm;⟨bl,hl,hb.mono (Gh.le.refl G) (HM.le.refl m) (fun _=>rfl) rfl⟩,hS.nil,hS.injG,hS.gh,hS.dead,hS.gl,fun h b sz fp hm=>let ⟨bl,hl,hb⟩:=hS.blkx h b sz fp hm;⟨bl,hl,hb.mono (Gh.le.refl G) (HM.le.refl m) (fun _ _ _=>rfl) (fun _ _=>rfl) (KeepIt.refl _ _)⟩⟩

theorem PPost.of_drew {G:Gh} {m:HM} {lk:Look} {n:Nat} {a:AV} {nbs:List Blk} {fz:List Hd} {w w':World} {v:Value} (h:PPost G m lk n a nbs fz w.drew v w'):PPost G m lk n a nbs fz w v w':=by
 obtain ⟨G',m',h1,h2,h3,h4,h5⟩:=h
 exact ⟨G',m',h1,h2,⟨h3.os,⟨h3.tape.1,Nat.le_trans (Nat.le_succ _) h3.tape.2⟩,h3.output,h3.size,h3.heap,h3.gh,h3.le⟩,h4,h5⟩

theorem PPost.of_frz {G:Gh} {m:HM} {lk:Look} {n:Nat} {a:AV} {nbs:List Blk} {fz:List Hd} {w w':World} {v:Value} (hS:Sim G m lk w)
  (h:∀ G1,Gh.le G G1->Sim G1 m (lkF lk fz) w->PPost G1 m (lkF lk fz) n a nbs [] w v w'):PPost G m lk n a nbs fz w v w':=by
 obtain ⟨G1,hS1,hle,hG1⟩:=hS.freeze fz
 obtain ⟨G',m',h1,h2,h3,h4,h5⟩:=h G1 hle hS1
 rw [lkF_nil] at h1
 refine ⟨G',m',h1,h2,⟨h3.os,h3.tape,h3.output,h3.size,h3.heap,fun b hb ho o=>?_,hle.trans h3.le⟩,h4,h5⟩
 rw [h3.gh b hb ho o,hG1 b (fun h _ sz e=>ho (.at_ e)) o]

def vfill:List Value->List (Nat × List Value)->List Value
 | cs,[]=>cs
 | cs,(o,xs) :: r=>vfill (cs.take o ++ xs ++ cs.drop (o + xs.length)) r

theorem fold_set (off:Nat):∀ (l:List Value) (s:Nat) (cells:Array Value),off + s + l.length <= cells.size ->
  ((l.zipIdx s).foldl (fun (cs:Array Value) (p:Value × Nat)=>cs.setIfInBounds (off + p.2) p.1) cells).toList=cells.toList.take (off + s) ++ l ++ cells.toList.drop (off + s + l.length)
 | [],s,cells,h=>by simp
 | x :: l,s,cells,h=>by
  simp only [List.zipIdx_cons,List.foldl_cons]
  rw [fold_set off l (s + 1) _ (by simp at h |-;omega)]
  have hlt:off + s < cells.toList.length:=by simp at h |-;omega
  rw [Array.toList_setIfInBounds]
  have e1:(cells.toList.set (off + s) x).take (off + (s + 1))=cells.toList.take (off + s) ++ [x]:=by
   rw [show off + (s + 1)=off + s + 1 by omega,List.take_succ_eq_append_getElem (by simp;simpa using hlt)]
   simp [List.take_set_of_le]
  have e2:(cells.toList.set (off + s) x).drop (off + (s + 1) + l.length)=cells.toList.drop (off + s + (x :: l).length):=by
   rw [List.drop_set_of_lt (by omega)]
   congr 1
   simp;omega
  rw [e1,e2]
  simp

theorem run_fill (place:Nat->Option (Nat × Nat)):∀ (ps:List (Nat × Value)) (cells:Array Value) (qs:List (Nat × List Value)),
  ps.length=qs.length->(∀ (j i:Nat) (v:Value),ps[j]?=some (i,v)->∃ o,qs[j]?=some (o,v.cells.toList)/\place i=some (o,v.cells.size)/\o + v.cells.size <= cells.size) ->
  ∃ out,Instr.fill place cells ps=some out/\out.toList=vfill cells.toList qs
 | [],cells,qs,hl,_=>by
  have:qs=[]:=by simpa using hl.symm
  subst this
  exact ⟨cells,rfl,rfl⟩
 | (i,v) :: ps,cells,qs,hl,h=>by
  match qs,hl with
  | q :: qs,hl =>
   obtain ⟨o,h1,h2,h3⟩:=h 0 i v rfl
   simp at h1
   subst h1
   simp only [Instr.fill,h2,ne_eq,not_true_eq_false,decide_false,Bool.false_or]
   rw [if_neg (by simp;omega)]
   let cells2:Array Value:=v.cells.zipIdx.foldl (fun cs (c,j)=>cs.setIfInBounds (o + j) c) cells
   have hc2:cells2.toList=cells.toList.take o ++ v.cells.toList ++ cells.toList.drop (o + v.cells.toList.length):=by
    have:=fold_set o v.cells.toList 0 cells (by simpa using h3)
    simp only [Nat.add_zero] at this
    rw [<- this]
    show (v.cells.zipIdx.foldl (fun (cs:Array Value) (p:Value × Nat)=>cs.setIfInBounds (o + p.2) p.1) cells).toList=_
    rw [<- Array.foldl_toList,Array.toList_zipIdx]
   have hsz:cells2.size=cells.size:=by
    have:=congrArg List.length hc2
    simp at this
    omega
   obtain ⟨out,h4,h5⟩:=run_fill place ps cells2 qs (by simpa using hl) (fun j i' v' hj=>by
    obtain ⟨o',g1,g2,g3⟩:=h (j + 1) i' v' (by simpa using hj)
    exact ⟨o',by simpa using g1,g2,by rw [hsz];exact g3⟩)
   refine ⟨out,h4,?_⟩
   rw [h5,hc2]
   rfl

theorem afill_rep {G:Gh} {m:HM}:∀ (qs:List (Nat × List AV)) (rs:List (Nat × List Value)) (cs:List AV) (vs:List Value),AV.RepL G m cs vs->qs.length=rs.length ->
  (∀ (j o:Nat) (xs:List AV),qs[j]?=some (o,xs)->∃ us,rs[j]?=some (o,us)/\AV.RepL G m xs us)->AV.RepL G m (afill cs qs) (vfill vs rs)
 | [],rs,cs,vs,h,hl,_=>by
  have:rs=[]:=by simpa using hl.symm
  subst this
  exact h
 | (o,xs) :: qs,rs,cs,vs,h,hl,hq=>by
  match rs,hl with
  | r :: rs,hl =>
   obtain ⟨us,h1,h2⟩:=hq 0 o xs rfl
   simp at h1
   subst h1
   unfold afill vfill
   refine afill_rep qs rs _ _ ?_ (by simpa using hl) (fun j o' xs' hj=>by simpa using hq (j + 1) o' xs' (by simpa using hj))
   rw [show xs.length=us.length from AV.RepL_length h2]
   exact AV.RepL_append (AV.RepL_append (AV.RepL_take o h) h2) (AV.RepL_drop _ h)

theorem mapM_some {α β:Type} (f:α->Option β):∀ {l:List α} {r:List β},l.mapM f=some r->r.length=l.length/\∀ (j:Nat) (a:α),l[j]?=some a->∃ b,r[j]?=some b/\f a=some b
 | [],r,h=>by
  simp at h;subst h
  exact ⟨rfl,fun j a h=>by simp at h⟩
 | x :: l,r,h=>by
  rw [List.mapM_cons] at h
  simp only [Option.bind_eq_bind,Option.bind_eq_some_iff,Option.pure_def,Option.some.injEq] at h
  obtain ⟨b,hb,bs,hbs,rfl⟩:=h
  obtain ⟨h1,h2⟩:=mapM_some f hbs
  refine ⟨by simp [h1],fun j a hj=>?_⟩
  match j with
  | 0=>simp at hj;subst hj;exact ⟨b,rfl,hb⟩
  | j + 1=>simpa using h2 j a (by simpa using hj)

section
variable {P:Program} {o:Oper} {lk:Look} {n:Nat} {ev:Operand->AV} {K:AV->List Blk->List Hd->Prop}

theorem abuild_out {zs:List AV} {K':AV->Prop}:∀ {ps:List (Nat × Nat × Operand)} {acc:List (Nat × List AV)},abuild ev zs ps acc K' ->
  ∃ qs:List (Nat × List AV),K' (.agg (afill zs (acc.reverse ++ qs)))/\qs.length=ps.length /\
   ∀ (j o sz:Nat) (x:Operand),ps[j]?=some (o,sz,x)->∃ cs,qs[j]?=some (o,cs)/\(ev x).cells?=some cs/\cs.length=sz/\o + sz <= zs.length
 | [],acc,h=>⟨[],by simpa [abuild] using h,rfl,fun j o sz x hj=>by simp at hj⟩
 | (o,sz,x) :: r,acc,h=>by
  unfold abuild at h
  obtain ⟨cs,h1,h2,h3,h4⟩:=h
  obtain ⟨qs,g1,g2,g3⟩:=abuild_out h4
  refine ⟨(o,cs) :: qs,by simpa using g1,by simp [g2],fun j o' sz' x' hj=>?_⟩
  match j with
  | 0 =>
   simp at hj
   obtain ⟨rfl,rfl,rfl⟩:=hj
   exact ⟨cs,rfl,h1,h2,h3⟩
  | j + 1=>simpa using g3 j o' sz' x' (by simpa using hj)

theorem run_places {fs:List Field} (h:∀ f ∈ fs,(P.info? f.type).isSome=true) (w:World) :
  (fs.mapM (fun (f:Field)=>(do pure (f.offset,<- sizeOf f.type):Sem (Nat × Nat)))).run P w=.ok (fs.map fun f=>(f.offset,P.cellsOf f.type)) w:=by
 induction fs with
 | nil=>simp
 | cons f fs ih =>
  obtain ⟨i,hi⟩:=Option.isSome_iff_exists.1 (h f (by simp))
  rw [List.mapM_cons]
  simp only [Sem.run_bind,run_size hi,Result.andThen_ok,Sem.run_pure,ih (fun g hg=>h g (by simp [hg])),List.map_cons]
  congr 2
  simp [Program.cellsOf,hi]

theorem ps_build {T:TypeId} {ps:Array (Nat × Operand)} {ro:ROp} {fs:Array Field} {i:TypeInfo} (ho:o.op=.build T ps) (hT:P.underlying T=some (.struct fs)) (hi:P.info? T=some i) (hr:resolveOp P o=some ro) (h:pstep P lk n ev ro K):PS P o ro lk n ev K:=by
 simp only [resolveOp,ho,hT,hi] at hr
 split at hr
 case isFalse=>cases hr
 rename_i hall
 simp only [Option.bind_eq_some_iff,Option.map_eq_some_iff] at hr
 obtain ⟨z,hz,l,hl,rfl⟩:=hr
 obtain ⟨hlen,hget⟩:=mapM_some _ hl
 obtain ⟨qs,hK,hql,hq⟩:=abuild_out h
 refine ⟨_,_,_,hK,by first | exact fun _=>⟨rfl,rfl⟩ | (intro hh;cases hh),(by intro h hh;first | (cases hh;done) | exact (List.mem_filter.1 hh).2 | (split at hh <;> first | exact (List.mem_filter.1 hh).2 | cases hh)),fun G m w ρ _ lk2 hls hS hev _=>?_⟩
 have hps:(List.map (fun (p:Nat × Operand)=>(p.1,ρ p.2)) ps.toList)=(ps.map fun (i,x)=>(i,ρ x)).toList:=by
  rw [Array.toList_map]
 have hcell:∀ (j i:Nat) (v:Value),(ps.map fun (i,x)=>(i,ρ x)).toList[j]?=some (i,v)->∃ f fi x o' cs,ps.toList[j]?=some (i,x)/\v=ρ x/\fs[i]?=some f/\P.info? f.type=some fi/\o'=f.offset/\qs[j]?=some (o',cs)/\AV.RepL G m cs v.cells.toList/\cs.length=fi.size/\o' + fi.size <= z.cells.size:=fun j i v hj=>by
  rw [<- hps,List.getElem?_map] at hj
  cases hx:ps.toList[j]? with
  | none=>rw [hx] at hj;cases hj
  | some p =>
   obtain ⟨i',x⟩:=p
   rw [hx] at hj
   simp only [Option.map_some,Option.some.injEq,Prod.mk.injEq] at hj
   obtain ⟨rfl,rfl⟩:=hj
   obtain ⟨b,hb,hfb⟩:=hget j (i',x) hx
   simp only [Option.bind_eq_some_iff,Option.map_eq_some_iff] at hfb
   obtain ⟨f,hf,fi,hfi,rfl⟩:=hfb
   obtain ⟨cs,g1,g2,g3,g4⟩:=hq j _ _ _ hb
   have hxr:=hev x (by simp only [ROp.operands,List.mem_map];exact ⟨_,List.mem_of_getElem? hb,rfl⟩)
   exact ⟨f,fi,x,_,cs,rfl,rfl,hf,hfi,rfl,g1,(AV.Rep_cells g2 hxr).1,g3,by simpa using g4⟩
 let rs:List (Nat × List Value):=(ps.map fun (i,x)=>(i,ρ x)).toList.zip qs |>.map fun p=>(p.2.1,p.1.2.cells.toList)
 have hrs:∀ (j i:Nat) (v:Value) (o':Nat) (cs:List AV),(ps.map fun (i,x)=>(i,ρ x)).toList[j]?=some (i,v)->qs[j]?=some (o',cs)->rs[j]?=some (o',v.cells.toList):=fun j i v o' cs h1 h2=>by
  show (((ps.map fun (i,x)=>(i,ρ x)).toList.zip qs).map _)[j]?=_
  rw [List.getElem?_map,(List.getElem?_zip_eq_some (z:=((i,v),(o',cs)))).2 ⟨h1,h2⟩];rfl
 have hlps:(ps.map fun (i,x)=>(i,ρ x)).toList.length=qs.length:=by rw [hql,hlen];simp
 have hrsl:rs.length=qs.length:=by
  show (((ps.map fun (i,x)=>(i,ρ x)).toList.zip qs).map _).length=_
  rw [List.length_map,List.length_zip,hlps];simp
 obtain ⟨out,ho1,ho2⟩:=run_fill (fun i=>(fs.toList.map fun f=>(f.offset,P.cellsOf f.type)).toArray[i]?) (ps.map fun (i,x)=>(i,ρ x)).toList z.cells rs (by rw [hlps,hrsl]) (fun j i v hj=>by
  obtain ⟨f,fi,x,o',cs,g1,g2,g3,g4,g5,g6,g7,g8,g9⟩:=hcell j i v hj
  have hsz:v.cells.size=fi.size:=by rw [<- g8,AV.RepL_length g7];simp
  refine ⟨o',hrs j i v o' cs hj g6,?_,by rw [hsz];exact g9⟩
  rw [hsz,g5]
  simp [g3,Program.cellsOf,g4])
 refine Does.val (v:=.agg out) (w':=w) ?_ (PPost.val hS ?_)
 ·have hplaces:(fs.mapM (fun (f:Field)=>(do pure (f.offset,<- sizeOf f.type):Sem (Nat × Nat)))).run P w=.ok (fs.toList.map fun f=>(f.offset,P.cellsOf f.type)).toArray w:=by
   rw [Array.mapM_eq_mapM_toList]
   simp only [Sem.run_map,run_places (P:=P) (fs:=fs.toList) (fun f hf=>by have:=List.all_eq_true.1 hall f hf;exact this) w,Result.andThen_ok]
  simp only [execOp,ho,Instr.build,Sem.run_bind,run_zero hi hz,run_underlying hT,Result.andThen_ok,hplaces,ho1,Sem.run_pure]
 ·unfold AV.Rep
  refine ⟨out,rfl,?_⟩
  rw [ho2]
  refine afill_rep _ _ _ _ ?_ (by simp [hrsl]) (fun j o' xs hj=>?_)
  ·exact AV.RepL_const _
  ·simp only [List.reverse_nil,List.nil_append] at hj
   have hjl:=(List.getElem?_eq_some_iff.1 hj).1
   rw [<- hlps] at hjl
   obtain ⟨⟨i,v⟩,hpv⟩:∃ p,(ps.map fun (i,x)=>(i,ρ x)).toList[j]?=some p:=⟨_,List.getElem?_eq_getElem hjl⟩
   obtain ⟨f,fi,x,o2,cs,g1,g2,g3,g4,g5,g6,g7,g8,g9⟩:=hcell j i v hpv
   rw [g6] at hj
   cases hj
   exact ⟨_,hrs j i v o' xs hpv g6,g7⟩

theorem ps_buildA {T e:TypeId} {m:Nat} {ps:Array (Nat × Operand)} {i fi:TypeInfo} {z:Value} (ho:o.op=.build T ps) (hT:P.underlying T=some (.array m e)) (hi:P.info? T=some i) (hz:i.zero=some z) (hfi:P.info? e=some fi)
  (h:pstep P lk n ev (.build (z.cells.toList.map constAV) (ps.toList.map fun p=>(p.1 * fi.size,fi.size,p.2))) K):PS P o (.build (z.cells.toList.map constAV) (ps.toList.map fun p=>(p.1 * fi.size,fi.size,p.2))) lk n ev K:=by
 obtain ⟨qs,hK,hql,hq⟩:=abuild_out h
 refine ⟨_,_,_,hK,by first | exact fun _=>⟨rfl,rfl⟩ | (intro hh;cases hh),(by intro h hh;first | (cases hh;done) | exact (List.mem_filter.1 hh).2 | (split at hh <;> first | exact (List.mem_filter.1 hh).2 | cases hh)),fun G m w ρ _ lk2 hls hS hev _=>?_⟩
 have hps:(List.map (fun (p:Nat × Operand)=>(p.1,ρ p.2)) ps.toList)=(ps.map fun (i,x)=>(i,ρ x)).toList:=by
  rw [Array.toList_map]
 have hcell:∀ (j i:Nat) (v:Value),(ps.map fun (i,x)=>(i,ρ x)).toList[j]?=some (i,v)->∃ x o' cs,ps.toList[j]?=some (i,x)/\v=ρ x/\o'=i * fi.size/\qs[j]?=some (o',cs)/\AV.RepL G m cs v.cells.toList/\cs.length=fi.size/\o' + fi.size <= z.cells.size:=fun j i v hj=>by
  rw [<- hps,List.getElem?_map] at hj
  cases hx:ps.toList[j]? with
  | none=>rw [hx] at hj;cases hj
  | some p =>
   obtain ⟨i',x⟩:=p
   rw [hx] at hj
   simp only [Option.map_some,Option.some.injEq,Prod.mk.injEq] at hj
   obtain ⟨rfl,rfl⟩:=hj
   have hb:(ps.toList.map fun p=>(p.1 * fi.size,fi.size,p.2))[j]?=some (i' * fi.size,fi.size,x):=by rw [List.getElem?_map,hx];rfl
   obtain ⟨cs,g1,g2,g3,g4⟩:=hq j _ _ _ hb
   have hxr:=hev x (List.mem_map.2 ⟨_,List.mem_of_getElem? hb,rfl⟩)
   exact ⟨x,_,cs,rfl,rfl,rfl,g1,(AV.Rep_cells g2 hxr).1,g3,by simpa using g4⟩
 let rs:List (Nat × List Value):=(ps.map fun (i,x)=>(i,ρ x)).toList.zip qs |>.map fun p=>(p.2.1,p.1.2.cells.toList)
 have hrs:∀ (j i:Nat) (v:Value) (o':Nat) (cs:List AV),(ps.map fun (i,x)=>(i,ρ x)).toList[j]?=some (i,v)->qs[j]?=some (o',cs)->rs[j]?=some (o',v.cells.toList):=fun j i v o' cs h1 h2=>by
  show (((ps.map fun (i,x)=>(i,ρ x)).toList.zip qs).map _)[j]?=_
  rw [List.getElem?_map,(List.getElem?_zip_eq_some (z:=((i,v),(o',cs)))).2 ⟨h1,h2⟩];rfl
 have hlps:(ps.map fun (i,x)=>(i,ρ x)).toList.length=qs.length:=by rw [hql];simp
 have hrsl:rs.length=qs.length:=by
  show (((ps.map fun (i,x)=>(i,ρ x)).toList.zip qs).map _).length=_
  rw [List.length_map,List.length_zip,hlps];simp
 obtain ⟨out,ho1,ho2⟩:=run_fill (fun i=>some (i * fi.size,fi.size)) (ps.map fun (i,x)=>(i,ρ x)).toList z.cells rs (by rw [hlps,hrsl]) (fun j i v hj=>by
  obtain ⟨x,o',cs,g1,g2,g5,g6,g7,g8,g9⟩:=hcell j i v hj
  have hsz:v.cells.size=fi.size:=by rw [<- g8,AV.RepL_length g7];simp
  refine ⟨o',hrs j i v o' cs hj g6,?_,by rw [hsz];exact g9⟩
  rw [hsz,g5])
 refine Does.val (v:=.agg out) (w':=w) ?_ (PPost.val hS ?_)
 ·simp only [execOp,ho,Instr.build,Sem.run_bind,run_zero hi hz,run_underlying hT,run_size hfi,Result.andThen_ok,ho1,Sem.run_pure]
 ·unfold AV.Rep
  refine ⟨out,rfl,?_⟩
  rw [ho2]
  refine afill_rep _ _ _ _ ?_ (by simp [hrsl]) (fun j o' xs hj=>?_)
  ·exact AV.RepL_const _
  ·simp only [List.reverse_nil,List.nil_append] at hj
   have hjl:=(List.getElem?_eq_some_iff.1 hj).1
   rw [<- hlps] at hjl
   obtain ⟨⟨i,v⟩,hpv⟩:∃ p,(ps.map fun (i,x)=>(i,ρ x)).toList[j]?=some p:=⟨_,List.getElem?_eq_getElem hjl⟩
   obtain ⟨x,o2,cs,g1,g2,g5,g6,g7,g8,g9⟩:=hcell j i v hpv
   rw [g6] at hj
   cases hj
   exact ⟨_,hrs j i v o' xs hpv g6,g7⟩

end
end Go.Eng


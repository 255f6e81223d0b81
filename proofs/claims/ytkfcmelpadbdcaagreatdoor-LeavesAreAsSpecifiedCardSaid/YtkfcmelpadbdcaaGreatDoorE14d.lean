/- Texts of this claim. -/
import Derived.Test.YtkfcmelpadbdcaaGreatDoorE14c
set_option linter.all false
set_option linter.unusedSimpArgs false
set_option linter.unusedVariables false
namespace Go.Eng
open Go.RowKit

theorem Sim.part {G:Gh} {m:HM} {s:AState} {w:World} (hS:Sim G m s.lk w) {hd:Hd} {b sz k off n:Nat} {es ys:List (List DV)} (hm:m hd=some (.at_ b sz)) (hl:s.lk hd=some (.row true k es)) {news:List Value}
  (hlen:news.length=n * k) (hys:ys.length=n) (hin:off + n <= es.length) (hrows:∀ (f:Nat->Option Value) (o:Nat),(∀ i,i < news.length->f (o + i)=news[i]?)->DV.rows G f k o ys) (hone:∀ u ∈ news,u.oneCell'=true) (P:Program) :
  ∃ w',(storeCells ⟨b,off * k,none⟩ news).run P w=.ok () w'/\Sim G m (s.setBlk hd (some (.row true k (es.take off ++ ys ++ es.drop (off + n))))).lk w'/\Fr (Own m) (fun _=>False) G G w w':=by
 obtain ⟨bl,hl',hb⟩:=hS.blk _ _ _ hm
 rw [hl] at hl'
 cases hl'
 unfold BlkRep at hb
 obtain ⟨vs,T',h1,h2,h3,h4,h5⟩:=hb
 have hm1:(off + n) * k <= es.length * k:=Nat.mul_le_mul_right _ hin
 rw [Nat.add_mul] at hm1
 have hst:=run_storeCells_at P b (off * k) T' news 0 vs w h1 (by rw [hlen];omega) hone
 simp only [Nat.add_zero] at hst
 refine ⟨_,hst,hS.write hm h1 h5 (fun w' hw'=>?_)⟩
 unfold BlkRep
 have ht:(vs.toList.take (off * k)).length=off * k:=by simp;omega
 refine ⟨_,T',hw',?_,?_,?_,h5⟩
 ·simp [hlen];omega
 ·have:(es.take off ++ ys ++ es.drop (off + n)).length=es.length:=by simp [hys];omega
  rw [this];exact h3
 ·have hto:(es.take off).length=off:=by simp;omega
  refine DV.rows_append (DV.rows_append (DV.rows_congr (fun p hp=>?_) (DV.rows_take off h4)) (hrows _ _ (fun p hp=>?_))) (DV.rows_congr (o:=(off + n) * k) (fun p hp=>?_) (by have:=DV.rows_drop (off + n) h4;rwa [Nat.zero_add] at this))
  ·rw [hto] at hp
   rw [Nat.zero_add]
   show ((vs.toList.take (off * k) ++ news ++ vs.toList.drop (off * k + news.length)).toArray)[p]?=_
   rw [List.getElem?_toArray,List.append_assoc,List.getElem?_append_left (by omega),List.getElem?_take_of_lt hp,Array.getElem?_toList]
  ·rw [hto,Nat.zero_add]
   show ((vs.toList.take (off * k) ++ news ++ vs.toList.drop (off * k + news.length)).toArray)[off * k + p]?=_
   rw [List.getElem?_toArray,List.append_assoc,List.getElem?_append_right (by omega),ht,Nat.add_sub_cancel_left,List.getElem?_append_left hp]
  ·have hL:(es.take off ++ ys).length=off + n:=by simp [hys];omega
   rw [hL,Nat.zero_add]
   show ((vs.toList.take (off * k) ++ news ++ vs.toList.drop (off * k + news.length)).toArray)[(off + n) * k + p]?=_
   rw [List.getElem?_toArray,List.getElem?_append_right (by simp [hlen,Nat.add_mul];omega),List.getElem?_drop,Array.getElem?_toList]
   simp only [List.length_append,ht,hlen]
   congr 1
   rw [Nat.add_mul];omega

theorem content_take {G:Gh} {m:HM} {lk lkf:Look} {w:World} (hS:Sim G m lkf w) (hs:∀ h mt k es,lk h=some (.row mt k es)->∃ mt',lkf h=some (.row mt' k es)) {y:AV} {v:Value} {ys:List (List DV)}
  (hr:AV.Rep G m y v) (hy:AV.content lk y=some ys) (hns:AV.isS y=false) (n:Nat) (hn:n <= ys.length):∃ y' a cap,v=.slice a ys.length cap/\AV.Rep G m y' (.slice a n cap)/\AV.content lk y'=some (ys.take n):=by
 have data:∀ es,DV.Rep G (.L es) v->es=ys->∃ y' a cap,v=.slice a ys.length cap/\AV.Rep G m y' (.slice a n cap)/\AV.content lk y'=some (ys.take n):=fun es h e=>by
  subst e
  unfold DV.Rep at h
  obtain ⟨a,cap,h1,h2,h3,h4⟩:=h
  refine ⟨.D (.L (es.take n)),a,cap,h1,?_,rfl⟩
  unfold AV.Rep DV.Rep
  have hl:(es.take n).length=n:=by simp;omega
  refine ⟨a,cap,by rw [hl],by rw [hl];omega,h3,fun hne=>?_⟩
  obtain ⟨b,o,k,h5,h6⟩:=h4 (fun e=>by subst e;simp at hne)
  exact ⟨b,o,k,h5,DV.rows_take n h6⟩
 unfold AV.content at hy
 split at hy
 ·cases hy;unfold AV.Rep at hr;exact data _ hr rfl
 ·cases hy;unfold AV.Rep at hr;exact data _ hr.1 rfl
 ·rename_i h k off len
  split at hy
  case h_2=>cases hy
  rename_i mt k2 es hl
  split at hy
  case isFalse=>cases hy
  rename_i hc
  cases hy
  obtain ⟨rfl,hle⟩:=hc
  have hL:((es.drop off).take len).length=len:=by simp;omega
  rw [hL] at hn
  unfold AV.Rep at hr
  obtain ⟨h0,loc,hloc,hsl⟩:=hr
  obtain ⟨mt',hl'⟩:=hs _ _ _ _ hl
  have hnd:loc ≠ .dead:=fun e=>by subst e;rw [hS.dead _ hloc] at hl';cases hl'
  have hcont:AV.content lk (.sl h k2 off n)=some (((es.drop off).take len).take n):=by
   unfold AV.content
   simp only [hl]
   rw [if_pos ⟨trivial,by omega⟩,List.take_take,Nat.min_eq_left hn]
  rcases hsl hnd with ⟨p,hv,rfl⟩ | ⟨b,sz,cap,rfl,hv,hcap,hsz⟩
  ·obtain rfl:n=0:=by omega
   refine ⟨.sl h k2 off 0,p,0,by rw [hL];exact hv,?_,hcont⟩
   unfold AV.Rep
   exact ⟨rfl,loc,hloc,fun _=>.inl ⟨p,rfl,rfl⟩⟩
  ·refine ⟨.sl h k2 off n,_,cap,by rw [hL];exact hv,?_,hcont⟩
   unfold AV.Rep
   exact ⟨rfl,_,hloc,fun _=>.inr ⟨b,sz,cap,rfl,rfl,by omega,hsz⟩⟩
 ·rename_i h k off len cap0
  split at hy
  case h_2=>cases hy
  rename_i mt k2 es hl
  split at hy
  case isFalse=>cases hy
  rename_i hc
  cases hy
  obtain ⟨rfl,hle⟩:=hc
  have hL:((es.drop off).take len).length=len:=by simp;omega
  rw [hL] at hn
  unfold AV.Rep at hr
  obtain ⟨h0,loc,hloc,hsl⟩:=hr
  obtain ⟨mt',hl'⟩:=hs _ _ _ _ hl
  have hnd:loc ≠ .dead:=fun e=>by subst e;rw [hS.dead _ hloc] at hl';cases hl'
  have hcont:AV.content lk (.sl h k2 off n)=some (((es.drop off).take len).take n):=by
   unfold AV.content
   simp only [hl]
   rw [if_pos ⟨trivial,by omega⟩,List.take_take,Nat.min_eq_left hn]
  rcases slk_sl (hsl hnd) with ⟨p,hv,rfl⟩ | ⟨b,sz,cap,rfl,hv,hcap,hsz⟩
  ·obtain rfl:n=0:=by omega
   refine ⟨.sl h k2 off 0,p,0,by rw [hL];exact hv,?_,hcont⟩
   unfold AV.Rep
   exact ⟨rfl,loc,hloc,fun _=>.inl ⟨p,rfl,rfl⟩⟩
  ·refine ⟨.sl h k2 off n,_,cap,by rw [hL];exact hv,?_,hcont⟩
   unfold AV.Rep
   exact ⟨rfl,_,hloc,fun _=>.inr ⟨b,sz,cap,rfl,rfl,by omega,hsz⟩⟩
 ·cases hns
 ·cases hy

section
variable {P:Program} {o:Oper}
theorem part_eok {s:AState} {dst:Option Nat} {h:Hd} {b0 b1:Blk} {a:AV} {xs:List Operand} (hl:s.lk h=some b0)
  (hrun:∀ (G:Gh) (m:HM) (w:World) (ρ:Operand->Value),Sim G m s.lk w->(∀ x ∈ xs,AV.Rep G m (s.ev x) (ρ x))->∃ v w',(execOp ρ o).run P w=.ok (.value v) w'/\Sim G m (s.setBlk h (some b1)).lk w'/\Fr (Own m) (fun _=>False) G G w w'/\AV.Rep G m a v) :
  EOk P o xs dst s ((s.setBlk h (some b1)).put dst a [] []):=by
 have hlk:((s.setBlk h (some b1)).put dst a [] []).lk=(s.setBlk h (some b1)).lk:=by rw [lk_put,lkF_nil,lkN_nil]
 have hnx:((s.setBlk h (some b1)).put dst a [] []).nx=s.nx:=by show (s.setBlk h (some b1)).nx + 0=_;rw [setBlk_nx];rfl
 refine ⟨fun t ht=>?_,by rw [hnx];exact Nat.le_refl _,fun hown j hj=>put_own (fun j hj=>setBlk_own hown ⟨_,hl⟩ j (by rw [setBlk_nx] at hj;exact hj)) j hj,fun G m w ρ hρ hS hev hn=>?_⟩
 ·show setDst (s.setBlk h (some b1)).env dst a t=_
  rw [setBlk_env]
  cases dst with
  | none=>rfl
  | some dd=>simp only [setDst,upd];rw [if_neg (fun q=>ht (by rw [q]))]
 ·obtain ⟨v,w',h1,h2,h3,h4⟩:=hrun G m w ρ hS hev
  refine Does.val h1 ⟨G,m,by rw [hlk];exact h2,fun d hd=>?_,h3.mono (fun _ _ q=>q) (fun _ _ q=>q.elim),HM.le.refl m,fun _=>.inl rfl,fun _ _=>.inl rfl,fun x l b hj hl=>.inr ⟨_,l,hj,hl⟩⟩
  subst hd
  show AV.Rep G m (upd (s.setBlk h (some b1)).env d a d) v
  unfold upd
  rw [if_pos rfl];exact h4
theorem one_rows {G:Gh} {k:Nat} {ys:List (List DV)} {news:List Value} (h:DV.rows G (fun i=>news[i]?) k 0 ys) (hone:oneL ys=true) (hlen:news.length=ys.length * k):∀ u ∈ news,u.oneCell'=true:=by
 intro u hu
 obtain ⟨j,hj⟩:=List.getElem?_of_mem hu
 have hlt:=(List.getElem?_eq_some_iff.1 hj).1
 exact rows_one h hone j u (by rw [<- hlen];exact hlt) (by simpa using hj)
theorem clear_ok {c:Call} {x:Operand} {t e:TypeId} {i:TypeInfo} {z:Value} {s:AState} {dst:Option Nat} {K:AState->Prop} (ho:o.op=.call c) (hc:c.callee=.builtin .clear) (ha:c.args.toList=[x]) (hta:c.argTypes.toList=[t])
  (ht:P.underlying t=some (.slice e)) (hi:P.info? e=some i) (hz:i.zero=some z) (hz':z.cells.size=i.size) (hz1:(z.cells.toList.map zeroDV).all DV.one=true)
  (h:aclear s i.size (z.cells.toList.map zeroDV) dst K (s.ev x)):∃ s',K s'/\EOk P o [x] dst s s':=by
 have ha':c.args=#[x]:=by rw [<- Array.toArray_toList (xs:=c.args),ha]
 have ht':c.argTypes=#[t]:=by rw [<- Array.toArray_toList (xs:=c.argTypes),hta]
 have hexec:∀ (ρ:Operand->Value) (v:Value) (w w':World),(Builtin.clear_ #[t] o.type #[ρ x]).run P w=.ok v w'->(execOp ρ o).run P w=.ok (.value v) w':=fun ρ v w w' h=>by
  simp only [execOp,ho,resolve,hc,ha',ht',invoke,builtin,Sem.run_bind,Sem.run_pure,Result.andThen_ok]
  simp [h]
 generalize hx:s.ev x=ax at h
 unfold aclear at h
 split at h
 case h_2=>exact h.elim
 rename_i hd k' off len
 obtain ⟨rfl,es,hl,hle,hK⟩:=h
 refine ⟨_,hK,part_eok hl (fun G m w ρ hS hev=>?_)⟩
 have hrx:=hev x (by simp)
 rw [hx] at hrx
 unfold AV.Rep at hrx
 obtain ⟨_,loc,hloc,hsl⟩:=hrx
 have hnd:loc ≠ .dead:=fun e=>by subst e;rw [hS.dead _ hloc] at hl;cases hl
 have same:len=0->(s.setBlk hd (some (.row true i.size (es.take off ++ List.replicate len (z.cells.toList.map zeroDV) ++ es.drop (off + len))))).lk=s.lk:=fun e=>by
  subst e
  funext y
  rw [lk_setBlk]
  split
  ·rename_i e;rw [e,hl];simp
  ·rfl
 have unit:∀ v,AV.Rep G m .any v:=fun v=>by unfold AV.Rep;trivial
 rcases hsl hnd with ⟨p,hv,hlen0⟩ | ⟨b,sz,cap,rfl,hv,hcap,hsz⟩
 ·refine ⟨.tuple #[],w,hexec ρ _ w w ?_,by rw [same hlen0];exact hS,Fr.refl _ _ _ _,unit _⟩
  rw [hv]
  cases p <;> simp [Builtin.clear_,run_underlying ht]
 ·by_cases h0:len=0
  ·refine ⟨.tuple #[],w,hexec ρ _ w w ?_,by rw [same h0];exact hS,Fr.refl _ _ _ _,unit _⟩
   rw [hv,h0]
   simp [Builtin.clear_,run_underlying ht]
  ·have hzl:z.cells.toList.length=i.size:=by simpa using hz'
   have hzc:∀ j,j < len * i.size->(Builtin.zeroCells z.cells len).toList[j]?=z.cells.toList[j % z.cells.toList.length]?:=fun j hj=>by
    have hpos:0 < i.size:=Nat.pos_of_ne_zero (fun e=>by rw [e] at hj;simp at hj)
    have hm:j % z.cells.size < z.cells.size:=Nat.mod_lt _ (by rw [hz'];exact hpos)
    simp only [Builtin.zeroCells,Array.getElem?_toList,Array.getElem?_map,Array.length_toList]
    rw [Array.getElem?_range]
    simp [hz',hj]
    rw [<- hz',Array.getElem!_eq_getD,Array.getD_eq_getD_getElem?,Array.getElem?_eq_getElem hm]
    simp [hz']
   have hzlen:(Builtin.zeroCells z.cells len).toList.length=len * i.size:=by simp [Builtin.zeroCells,hz']
   have hzrows:∀ (f:Nat->Option Value) (o:Nat),(∀ j,j < (Builtin.zeroCells z.cells len).toList.length->f (o + j)=(Builtin.zeroCells z.cells len).toList[j]?)->DV.rows G f i.size o (List.replicate len (z.cells.toList.map zeroDV)):=fun f o hf=>by
    have:=zero_rows G f z.cells.toList len o (fun j hj=>by rw [hzl] at hj;rw [hf j (by rw [hzlen];exact hj),hzc j hj])
    rwa [hzl] at this
   obtain ⟨w',h1,h2,h3⟩:=hS.part hloc hl (off:=off) (ys:=List.replicate len (z.cells.toList.map zeroDV)) hzlen (by simp) hle hzrows
    (one_rows (hzrows _ 0 (fun j _=>by rw [Nat.zero_add])) (by simp [oneL,hz1]) (by rw [hzlen];simp)) P
   refine ⟨.tuple #[],w',hexec ρ _ w w' ?_,h2,h3,unit _⟩
   rw [hv]
   simp [Builtin.clear_,run_underlying ht,h0,run_zero hi hz,h1]
theorem firstCells_len {k n M cap cap':Nat} {a:Option Addr}:Builtin.firstCells k n (.slice a M cap)=Builtin.firstCells k n (.slice a n cap'):=by cases a <;> rfl
theorem content_firstN {P:Program} {G:Gh} {m:HM} {lk lkf:Look} {w:World} (hS:Sim G m lkf w) (hs:∀ h mt k es,lk h=some (.row mt k es)->∃ mt',lkf h=some (.row mt' k es)) {y:AV} {v:Value} {k:Nat} {ys:List (List DV)}
  (hr:AV.Rep G m y v) (hy:AV.content lk y=some ys) (hu:Uni k ys) (n:Nat) (hn:n <= ys.length):(∀ w1:World,(Builtin.lenOf v).run P w1=.ok ys.length w1) /\
  ∃ (vs:List Value),vs.length=n * k/\(∀ w1:World,w1.heap=w.heap->(Builtin.firstCells k n v).run P w1=.ok vs.toArray w1) /\
   ∀ (G':Gh) (f:Nat->Option Value) (o:Nat),Gh.le G G'->(∀ i,i < vs.length->f (o + i)=vs[i]?)->DV.rows G' f k o (ys.take n):=by
 have hu':Uni k (ys.take n):=fun e he=>hu e (List.mem_of_mem_take he)
 have hL:(ys.take n).length=n:=by simp;omega
 refine ⟨(content_run (P:=P) hS hs hr hy hu).1,?_⟩
 cases hns:AV.isS y with
 | false =>
  obtain ⟨y',a,cap',hvy,hry',hcy'⟩:=content_take hS hs hr hy hns n hn
  obtain ⟨_,vs,c2,c3,c4⟩:=content_run (P:=P) hS hs hry' hcy' hu'
  rw [hL] at c2 c3
  exact ⟨vs,c2,fun w1 hw=>by rw [hvy,firstCells_len (cap':=cap')];exact c3 w1 hw,c4⟩
 | true =>
  unfold AV.isS at hns
  split at hns
  case h_2=>cases hns
  rename_i t
  have hv:v=.string ⟨t.toArray⟩:=by unfold AV.Rep DV.Rep at hr;exact hr
  unfold AV.content at hy
  simp only [Option.some.injEq] at hy
  subst hy
  obtain ⟨_,vs,c2,c3,c4⟩:=content_run (P:=P) (y:=.D (.S (t.take n))) (v:=.string ⟨(t.take n).toArray⟩) (ys:=(t.map fun c=>[DV.I .u8 c.toNat]).take n) hS hs (by unfold AV.Rep DV.Rep;rfl) (by rw [<- List.map_take];rfl) hu'
  rw [hL] at c2 c3
  refine ⟨vs,c2,fun w1 hw=>?_,c4⟩
  rw [hv,<- c3 w1 hw]
  have:((⟨t.toArray⟩:ByteArray).extract 0 n).data=((⟨(t.take n).toArray⟩:ByteArray).extract 0 n).data:=by
   rw [ByteArray.data_extract,ByteArray.data_extract]
   apply Array.toList_inj.1
   rw [Array.toList_extract,Array.toList_extract]
   simp [List.extract_eq_take_drop,List.take_take]
  show (Builtin.firstCells k n (.string _)).run P w1=(Builtin.firstCells k n (.string _)).run P w1
  simp only [Builtin.firstCells,this]
theorem copy_ok {c:Call} {x y:Operand} {t u e:TypeId} {i:TypeInfo} {s:AState} {dst:Option Nat} {K:AState->Prop} (ho:o.op=.call c) (hc:c.callee=.builtin .copy) (ha:c.args.toList=[x,y]) (hta:c.argTypes.toList=[t,u])
  (ht:P.underlying t=some (.slice e)) (hi:P.info? e=some i)
  (h:acopy s i.size y dst K (s.ev x)):∃ s',K s'/\EOk P o [x,y] dst s s':=by
 have ha':c.args=#[x,y]:=by rw [<- Array.toArray_toList (xs:=c.args),ha]
 have ht':c.argTypes=#[t,u]:=by rw [<- Array.toArray_toList (xs:=c.argTypes),hta]
 have hexec:∀ (ρ:Operand->Value) (v:Value) (w w':World),(Builtin.copy_ #[t,u] o.type #[ρ x,ρ y]).run P w=.ok v w'->(execOp ρ o).run P w=.ok (.value v) w':=fun ρ v w w' h=>by
  simp only [execOp,ho,resolve,hc,ha',ht',invoke,builtin,Sem.run_bind,Sem.run_pure,Result.andThen_ok]
  simp [h]
 generalize hx:s.ev x=ax at h
 unfold acopy at h
 split at h
 case h_3=>exact h.elim
 case h_1 =>
  rename_i hd k' off len
  obtain ⟨rfl,es,ys,hl,hle,hy,hu,hone,hK⟩:=h
  refine ⟨_,hK,part_eok hl (fun G m w ρ hS hev=>?_)⟩
  have hrx:=hev x (by simp)
  have hry:=hev y (by simp)
  rw [hx] at hrx
  unfold AV.Rep at hrx
  obtain ⟨_,loc,hloc,hsl⟩:=hrx
  have hnd:loc ≠ .dead:=fun e=>by subst e;rw [hS.dead _ hloc] at hl;cases hl
  have hrowS:∀ h mt k es,s.lk h=some (.row mt k es)->∃ mt',s.lk h=some (.row mt' k es):=fun _ mt _ _ h=>⟨mt,h⟩
  obtain ⟨hlo0,vs,c2,c30,c4⟩:=content_firstN (P:=P) hS hrowS hry hy hu (min ys.length len) (Nat.min_le_left _ _)
  have hu':Uni i.size (ys.take (min ys.length len)):=fun e he=>hu e (List.mem_of_mem_take he)
  have hone':oneL (ys.take (min ys.length len))=true:=hone
  have hL:(ys.take (min ys.length len)).length=min ys.length len:=by simp
  have same:min ys.length len=0->(s.setBlk hd (some (.row true i.size (es.take off ++ ys.take (min ys.length len) ++ es.drop (off + min ys.length len))))).lk=s.lk:=fun e=>by
   rw [e]
   funext z
   rw [lk_setBlk]
   split
   ·rename_i e;rw [e,hl];simp
   ·rfl
  have num:∀ v,v=.int .i64 (min ys.length len:Nat)->AV.Rep G m (.D (.I .i64 (min ys.length len:Nat))) v:=fun v e=>by unfold AV.Rep DV.Rep;exact e
  have hfc:(Builtin.firstCells i.size (min ys.length len) (ρ y)).run P w=.ok vs.toArray w:=c30 w rfl
  rcases hsl hnd with ⟨p,hv,hlen0⟩ | ⟨b,sz,cap,rfl,hv,hcap,hsz⟩
  ·have h0:min ys.length len=0:=by omega
   have hvs:vs=[]:=by rw [h0] at c2;simpa using c2
   refine ⟨_,w,hexec ρ (.int .i64 0) w w ?_,by rw [same h0];exact hS,Fr.refl _ _ _ _,num _ (by rw [h0];rfl)⟩
   rw [h0] at hfc
   rw [hvs] at hfc
   have hlo:(Builtin.lenOf (ρ y)).run P w=.ok ys.length w:=hlo0 w
   rw [hv]
   cases p with
   | none=>simp [Builtin.copy_,run_underlying ht,run_size hi,hlo,hfc,goInt]
   | some p=>simp [Builtin.copy_,run_underlying ht,run_size hi,hlo,hfc,goInt,storeCells]
  ·have hlo:(Builtin.lenOf (ρ y)).run P w=.ok ys.length w:=hlo0 w
   have hmin:Nat.min ys.length len=min ys.length len:=rfl
   obtain ⟨w',h1,h2,h3⟩:=hS.part hloc hl (off:=off) (ys:=ys.take (min ys.length len)) c2 hL (by omega) (fun f o hf=>c4 G f o (Gh.le.refl G) hf)
    (one_rows (c4 G _ 0 (Gh.le.refl G) (fun j _=>by rw [Nat.zero_add])) hone' (by rw [c2,hL])) P
   refine ⟨_,w',hexec ρ (.int .i64 (min ys.length len:Nat)) w w' ?_,h2,h3,num _ rfl⟩
   rw [hv]
   simp [Builtin.copy_,run_underlying ht,run_size hi,hlo,hmin,hfc,h1,goInt]
 case h_2 =>
  rename_i hd k' off len cap0
  obtain ⟨rfl,es,ys,hl,hle,hy,hu,hone,hK⟩:=h
  refine ⟨_,hK,part_eok hl (fun G m w ρ hS hev=>?_)⟩
  have hrx:=hev x (by simp)
  have hry:=hev y (by simp)
  rw [hx] at hrx
  unfold AV.Rep at hrx
  obtain ⟨_,loc,hloc,hsl⟩:=hrx
  have hnd:loc ≠ .dead:=fun e=>by subst e;rw [hS.dead _ hloc] at hl;cases hl
  have hrowS:∀ h mt k es,s.lk h=some (.row mt k es)->∃ mt',s.lk h=some (.row mt' k es):=fun _ mt _ _ h=>⟨mt,h⟩
  obtain ⟨hlo0,vs,c2,c30,c4⟩:=content_firstN (P:=P) hS hrowS hry hy hu (min ys.length len) (Nat.min_le_left _ _)
  have hu':Uni i.size (ys.take (min ys.length len)):=fun e he=>hu e (List.mem_of_mem_take he)
  have hone':oneL (ys.take (min ys.length len))=true:=hone
  have hL:(ys.take (min ys.length len)).length=min ys.length len:=by simp
  have same:min ys.length len=0->(s.setBlk hd (some (.row true i.size (es.take off ++ ys.take (min ys.length len) ++ es.drop (off + min ys.length len))))).lk=s.lk:=fun e=>by
   rw [e]
   funext z
   rw [lk_setBlk]
   split
   ·rename_i e;rw [e,hl];simp
   ·rfl
  have num:∀ v,v=.int .i64 (min ys.length len:Nat)->AV.Rep G m (.D (.I .i64 (min ys.length len:Nat))) v:=fun v e=>by unfold AV.Rep DV.Rep;exact e
  have hfc:(Builtin.firstCells i.size (min ys.length len) (ρ y)).run P w=.ok vs.toArray w:=c30 w rfl
  rcases slk_sl (hsl hnd) with ⟨p,hv,hlen0⟩ | ⟨b,sz,cap,rfl,hv,hcap,hsz⟩
  ·have h0:min ys.length len=0:=by omega
   have hvs:vs=[]:=by rw [h0] at c2;simpa using c2
   refine ⟨_,w,hexec ρ (.int .i64 0) w w ?_,by rw [same h0];exact hS,Fr.refl _ _ _ _,num _ (by rw [h0];rfl)⟩
   rw [h0] at hfc
   rw [hvs] at hfc
   have hlo:(Builtin.lenOf (ρ y)).run P w=.ok ys.length w:=hlo0 w
   rw [hv]
   cases p with
   | none=>simp [Builtin.copy_,run_underlying ht,run_size hi,hlo,hfc,goInt]
   | some p=>simp [Builtin.copy_,run_underlying ht,run_size hi,hlo,hfc,goInt,storeCells]
  ·have hlo:(Builtin.lenOf (ρ y)).run P w=.ok ys.length w:=hlo0 w
   have hmin:Nat.min ys.length len=min ys.length len:=rfl
   obtain ⟨w',h1,h2,h3⟩:=hS.part hloc hl (off:=off) (ys:=ys.take (min ys.length len)) c2 hL (by omega) (fun f o hf=>c4 G f o (Gh.le.refl G) hf)
    (one_rows (c4 G _ 0 (Gh.le.refl G) (fun j _=>by rw [Nat.zero_add])) hone' (by rw [c2,hL])) P
   refine ⟨_,w',hexec ρ (.int .i64 (min ys.length len:Nat)) w w' ?_,h2,h3,num _ rfl⟩
   rw [hv]
   simp [Builtin.copy_,run_underlying ht,run_size hi,hlo,hmin,hfc,h1,goInt]

end
end Go.Eng


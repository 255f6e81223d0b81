/- Texts of this claim. -/
import Derived.Test.YtloponjgedpffaaGreatE13
set_option linter.all false
set_option linter.unusedSimpArgs false
set_option linter.unusedVariables false
namespace Go.Eng
open Go.RowKit

theorem lk_setBlk (s:AState) (h:Hd) (b:Option Blk) (x:Hd):(s.setBlk h b).lk x=if x=h then b else s.lk x:=by
 cases h with
 | B i =>
  cases x with
  | B j =>
   show upd s.bs i b j=_
   unfold upd
   by_cases e:j=i
   ·subst e;simp
   ·rw [if_neg e,if_neg (fun h=>e (by cases h;rfl))];rfl
  | O j=>show s.own j=_;rw [if_neg (fun h=>by cases h)];rfl
 | O i =>
  cases x with
  | O j =>
   show upd s.own i b j=_
   unfold upd
   by_cases e:j=i
   ·subst e;simp
   ·rw [if_neg e,if_neg (fun h=>e (by cases h;rfl))];rfl
  | B j=>show s.bs j=_;rw [if_neg (fun h=>by cases h)];rfl

theorem setBlk_env (s:AState) (h:Hd) (b:Option Blk):(s.setBlk h b).env=s.env:=by cases h <;> rfl
theorem setBlk_nx (s:AState) (h:Hd) (b:Option Blk):(s.setBlk h b).nx=s.nx:=by cases h <;> rfl

theorem Fr.setRow {oh og:Nat->Prop} {G:Gh} {w:World} {g:Nat} (hg:oh g) (cs:Array Value):Fr oh og G G w (w.setRow g cs) :=
 ⟨rfl,.same rfl rfl,rfl,by simp,fun b _ hb=>setRow_other w g b cs (fun e=>hb (e ▸ hg)),fun _ _ _ _=>rfl,Gh.le.refl G⟩

theorem Sim.write {G:Gh} {m:HM} {s:AState} {w:World} (hS:Sim G m s.lk w) {hd:Hd} {b sz:Nat} (hm:m hd=some (.at_ b sz)) {vs vs':Array Value} {T:TypeId}
  (hb:w.heap[b]?=some (.cells vs T (0,0))) (hno:∀ o,G b o=none) {bl:Blk} (hbl:∀ w':World,w'.heap[b]?=some (.cells vs' T (0,0))->BlkRep G m bl b sz w') :
  Sim G m (s.setBlk hd (some bl)).lk (w.setRow b vs')/\Fr (Own m) (fun _=>False) G G w (w.setRow b vs'):=by
 have hnew:=setRow_heap w b vs vs' T (0,0) hb
 have hki:KeepIt m w (w.setRow b vs'):=fun _ b' _ _ _ _ _ _ _ hb'=>setRow_other w b b' vs' (fun e=>by rw [e,hb] at hb';cases hb')
 refine ⟨⟨?_,?_,hS.injG,?_,?_,hS.gl,fun x b' sz' fp hx=>?_⟩,Fr.setRow (.at_ hm) vs'⟩
 rotate_right
 ·have e:x ≠ hd:=fun e=>by subst e;rw [hm] at hx;cases hx
  obtain ⟨bl',hl,hb'⟩:=hS.blkx x b' sz' fp hx
  rw [lk_setBlk,if_neg e]
  exact ⟨bl',hl,hb'.mono (Gh.le.refl G) (HM.le.refl m) (fun _ _ _=>rfl) (fun c hc=>setRow_other w b c vs' (fun eb=>e (hS.injG x hd _ _ c hx hm hc (List.mem_singleton.2 eb)))) hki⟩
 ·intro x b' sz' hx
  rw [lk_setBlk]
  by_cases e:x=hd
  ·subst e
   rw [if_pos rfl]
   have:Loc.at_ b' sz'=Loc.at_ b sz:=by rw [hm] at hx;exact (Option.some.inj hx).symm
   cases this
   exact ⟨bl,rfl,hbl _ hnew⟩
  ·rw [if_neg e]
   obtain ⟨bl',hl,hb'⟩:=hS.blk x b' sz' hx
   have hne:b' ≠ b:=fun eb=>e (hS.inj x hd b sz' sz (eb ▸ hx) hm)
   exact ⟨bl',hl,hb'.mono (Gh.le.refl G) (HM.le.refl m) (fun _=>rfl) (setRow_other w b b' vs' hne)⟩
 ·intro x hx
  rw [lk_setBlk,if_neg (fun e=>by subst e;rw [hm] at hx;cases hx)]
  exact hS.nil x hx
 ·intro b' o v hv
  have hne:b' ≠ b:=fun e=>by subst e;rw [hno o] at hv;cases hv
  rw [cell_setRow_other w b vs' _ hne]
  exact hS.gh b' o v hv
 ·intro x hx
  rw [lk_setBlk,if_neg (fun e=>by subst e;rw [hm] at hx;cases hx)]
  exact hS.dead x hx

section
variable {P:Program} {o:Oper}

theorem run_store {T:TypeId} {a x:Operand} {i:TypeInfo} (ho:o.op=.store T a x) (hi:P.info? T=some i) {ρ:Operand->Value} {w:World} {b off:Nat} {vs:Array Value} {T':TypeId}
  (ha:ρ a=.pointer (some ⟨b,off,none⟩)) (hsz:(ρ x).cells.size=i.size) (hone:∀ u ∈ (ρ x).cells,u.oneCell'=true) (hb:w.heap[b]?=some (.cells vs T' (0,0))) (hle:off + i.size <= vs.size) :
  (execOp ρ o).run P w=.ok .skip (w.setRow b (vs.toList.take off ++ (ρ x).cells.toList ++ vs.toList.drop (off + i.size)).toArray):=by
 have:=run_storeCells_at P b off T' (ρ x).cells.toList 0 vs w hb (by simpa [hsz] using hle) (fun v hv=>hone v (by simpa using hv))
 simp only [Nat.add_zero] at this
 simp only [execOp,ho,Instr.storeAt,Instr.sureAddr,ha,storeVar,Sem.run_bind,Sem.run_pure,Result.andThen_ok,run_size hi,hsz,ne_eq,not_true_eq_false,if_false,this]
 simp [hsz]

theorem data_len:∀ {ys:List AV} {ds:List DV},AV.data ys=some ds->ds.length=ys.length
 | [],ds,h=>by unfold AV.data at h;cases h;rfl
 | y :: ys,ds,h=>by
  cases y <;> unfold AV.data at h <;> first | cases h | skip
  simp only [Option.map_eq_some_iff] at h
  obtain ⟨ds',hds',rfl⟩:=h
  simp [data_len hds']
theorem store_flat {T:TypeId} {a x:Operand} {xv:AV} {s:AState} {i:TypeInfo} {K:AState->Prop} {hd:Hd} {ix:Nat} {es:List (List DV)} {ys:List AV} {ds:List DV} (ho:o.op=.store T a x) (hi:P.info? T=some i)
  (hl:s.lk hd=some (.row true 1 es)) (hc:xv.cells?=some ys) (hds:AV.data ys=some ds) (hlen:ds.length=i.size) (hle:ix + i.size <= es.length)
  (hK:K (s.setBlk hd (some (.row true 1 (es.take ix ++ (ds.map fun d=>[d]) ++ es.drop (ix + i.size)))))):∃ hd' bl,K (s.setBlk hd' (some bl))/\(∃ b0,s.lk hd'=some b0) /\
   ∀ (G:Gh) (m:HM) (w:World) (ρ:Operand->Value),Sim G m s.lk w->AV.Rep G m (.eptr hd 1 ix 0) (ρ a)->AV.Rep G m xv (ρ x) ->
    ∃ w',(execOp ρ o).run P w=.ok .skip w'/\Sim G m (s.setBlk hd' (some bl)).lk w'/\Fr (Own m) (fun _=>False) G G w w':=by
 refine ⟨_,_,hK,⟨_,hl⟩,fun G m w ρ hS ha hx=>?_⟩
 unfold AV.Rep at ha
 obtain ⟨_,loc,hloc,hp⟩:=ha
 have hnd:loc ≠ .dead:=fun e=>by subst e;rw [hS.dead _ hloc] at hl;cases hl
 obtain ⟨b,sz,rfl,hp'⟩:=hp hnd
 rw [Nat.mul_one,Nat.add_zero] at hp'
 obtain ⟨bl,hl',hb⟩:=hS.blk _ _ _ hloc
 rw [hl] at hl'
 cases hl'
 unfold BlkRep at hb
 obtain ⟨vs,T',h1,h2,h3,h4,h5⟩:=hb
 rw [Nat.mul_one] at h3
 obtain ⟨hrx,hone⟩:=AV.Rep_cells hc hx
 have hxl:=AV.RepL_length hrx
 have hdl:=data_len hds
 have hxs:(ρ x).cells.size=i.size:=by rw [<- hlen,hdl,hxl];simp
 refine ⟨_,run_store ho hi hp' hxs hone h1 (by omega),?_⟩
 refine hS.write hloc h1 h5 (fun w' hw'=>?_)
 have htk:(es.take ix).length=ix:=by simp;omega
 unfold BlkRep
 refine ⟨_,T',hw',?_,?_,?_,h5⟩
 ·simp [hxs];omega
 ·simp [hlen];omega
 ·let vs':List Value:=vs.toList.take ix ++ (ρ x).cells.toList ++ vs.toList.drop (ix + i.size)
  have ht:(vs.toList.take ix).length=ix:=by simp;omega
  have hsame:∀ p,(p < ix\/ix + i.size <= p)->vs'[p]?=vs[p]?:=fun p hp=>by
   show (vs.toList.take ix ++ (ρ x).cells.toList ++ vs.toList.drop (ix + i.size))[p]?=_
   rcases hp with hp | hp
   ·rw [List.append_assoc,List.getElem?_append_left (by omega),List.getElem?_take_of_lt hp,Array.getElem?_toList]
   ·rw [List.getElem?_append_right (by simp [hxs];omega),List.getElem?_drop]
    simp only [List.length_append,ht,Array.length_toList,hxs]
    rw [Array.getElem?_toList];congr 1;omega
  have hnewc:∀ p,p < i.size->vs'[ix + p]?=(ρ x).cells.toList[p]?:=fun p hp=>by
   show (vs.toList.take ix ++ (ρ x).cells.toList ++ vs.toList.drop (ix + i.size))[ix + p]?=_
   rw [List.append_assoc,List.getElem?_append_right (by omega),ht,Nat.add_sub_cancel_left,List.getElem?_append_left (by simp [hxs];exact hp)]
  show DV.rows G (fun o=>vs'.toArray[o]?) 1 0 _
  have hfun:(fun (o:Nat)=>vs'.toArray[o]?)=fun (o:Nat)=>vs'[o]?:=by funext o;simp
  rw [hfun]
  refine DV.rows_append (DV.rows_append (DV.rows_congr (fun p hp=>?_) (DV.rows_take ix h4)) ?_) ?_
  ·rw [htk] at hp
   rw [Nat.zero_add];exact hsame p (.inl (by omega))
  ·rw [htk,Nat.zero_add,Nat.mul_one]
   exact ones_rows (AV.Rep_data hrx hds _ _ (fun p hp=>by rw [hnewc p (by simpa [hxs] using hp)]))
  ·have hl2:(es.take ix ++ ds.map fun d=>[d]).length=ix + i.size:=by simp [hlen];omega
   rw [hl2,Nat.zero_add,Nat.mul_one]
   have:=DV.rows_drop (ix + i.size) h4
   rw [Nat.zero_add,Nat.mul_one] at this
   exact DV.rows_congr (fun p hp=>hsame _ (.inr (by omega))) this
theorem astore_core {T:TypeId} {a x:Operand} {aa xv:AV} {s:AState} {i:TypeInfo} {K:AState->Prop} (ho:o.op=.store T a x) (hi:P.info? T=some i)
  (h:astore s i.size xv K aa):∃ hd bl,K (s.setBlk hd (some bl))/\(∃ b0,s.lk hd=some b0) /\
   ∀ (G:Gh) (m:HM) (w:World) (ρ:Operand->Value),Sim G m s.lk w->AV.Rep G m aa (ρ a)->AV.Rep G m xv (ρ x) ->
    ∃ w',(execOp ρ o).run P w=.ok .skip w'/\Sim G m (s.setBlk hd (some bl)).lk w'/\Fr (Own m) (fun _=>False) G G w w':=by
 unfold astore at h
 split at h
 ·rename_i hd off
  obtain ⟨cs,ys,hl,hc,hlen,hle,hK⟩:=h
  refine ⟨_,_,hK,⟨_,hl⟩,fun G m w ρ hS ha hx=>?_⟩
  unfold AV.Rep at ha
  obtain ⟨_,loc,hloc,hp⟩:=ha
  have hnd:loc ≠ .dead:=fun e=>by subst e;rw [hS.dead _ hloc] at hl;cases hl
  obtain ⟨b,sz,rfl,hp'⟩:=hp hnd
  obtain ⟨bl,hl',hb⟩:=hS.blk _ _ _ hloc
  rw [hl] at hl'
  cases hl'
  unfold BlkRep at hb
  obtain ⟨vs,T',h1,h2,h3,h4⟩:=hb
  obtain ⟨hrx,hone⟩:=AV.Rep_cells hc hx
  have hvl:=AV.RepL_length h3
  have hxl:=AV.RepL_length hrx
  have hxs:(ρ x).cells.size=i.size:=by rw [<- hlen,hxl];simp
  refine ⟨_,run_store ho hi hp' hxs hone h1 (by simp at hvl;omega),?_⟩
  refine hS.write hloc h1 h4 (fun w' hw'=>?_)
  unfold BlkRep
  refine ⟨_,T',hw',?_,?_,h4⟩
  ·simp at hvl |-;omega
  ·show AV.RepL G m _ (vs.toList.take off ++ (ρ x).cells.toList ++ vs.toList.drop (off + i.size))
   exact AV.RepL_append (AV.RepL_append (AV.RepL_take off h3) hrx) (AV.RepL_drop _ h3)
 ·rename_i hd k ix off
  rcases h with ⟨_,es,e,ys,ds,hl,he,hc,hds,hlen,hle,hK⟩ | ⟨rfl,rfl,hs1,es,ys,ds,hl,hc,hds,hlen,hle,hK⟩
  rotate_left
  ·obtain ⟨z1,z2,z3,z4,z5⟩:=store_flat ho hi hl hc hds hlen hle hK
   exact ⟨z1,z2,z3,z4,fun G m w ρ q1 q2 q3=>z5 G m w ρ q1 q2 q3⟩
  refine ⟨_,_,hK,⟨_,hl⟩,fun G m w ρ hS ha hx=>?_⟩
  unfold AV.Rep at ha
  obtain ⟨_,loc,hloc,hp⟩:=ha
  have hnd:loc ≠ .dead:=fun e=>by subst e;rw [hS.dead _ hloc] at hl;cases hl
  obtain ⟨b,sz,rfl,hp'⟩:=hp hnd
  obtain ⟨bl,hl',hb⟩:=hS.blk _ _ _ hloc
  rw [hl] at hl'
  cases hl'
  unfold BlkRep at hb
  obtain ⟨vs,T',h1,h2,h3,h4,h5⟩:=hb
  obtain ⟨hrx,hone⟩:=AV.Rep_cells hc hx
  have hxl:=AV.RepL_length hrx
  have hdl:ds.length=ys.length:=by
   clear hK hlen hle hrx hc hxl
   induction ys generalizing ds with
   | nil=>unfold AV.data at hds;cases hds;rfl
   | cons y ys ih =>
    cases y <;> unfold AV.data at hds <;> first | cases hds | skip
    simp only [Option.map_eq_some_iff] at hds
    obtain ⟨ds',hds',rfl⟩:=hds
    simp [ih _ hds']
  have hxs:(ρ x).cells.size=i.size:=by rw [<- hlen,hdl,hxl];simp
  obtain ⟨hek,hcell⟩:=DV.rows_get h4 he
  have hixlt:=(List.getElem?_eq_some_iff.1 he).1
  have hix:(ix + 1) * k <= es.length * k:=Nat.mul_le_mul_right _ hixlt
  rw [Nat.add_mul,Nat.one_mul] at hix
  refine ⟨_,run_store ho hi hp' hxs hone h1 (by omega),?_⟩
  refine hS.write hloc h1 h5 (fun w' hw'=>?_)
  unfold BlkRep
  refine ⟨_,T',hw',?_,by rw [List.length_set];exact h3,?_,h5⟩
  ·simp [hxs];omega
  · -- the row with one element changed
   let vs':List Value:=vs.toList.take (ix * k + off) ++ (ρ x).cells.toList ++ vs.toList.drop (ix * k + off + i.size)
   have hsame:∀ p,(p < ix * k + off\/ix * k + off + i.size <= p)->vs'[p]?=vs[p]?:=fun p hp=>by
    show (vs.toList.take (ix * k + off) ++ (ρ x).cells.toList ++ vs.toList.drop (ix * k + off + i.size))[p]?=_
    have ht:(vs.toList.take (ix * k + off)).length=ix * k + off:=by simp;omega
    rcases hp with hp | hp
    ·rw [List.append_assoc,List.getElem?_append_left (by omega),List.getElem?_take_of_lt hp,Array.getElem?_toList]
    ·rw [List.getElem?_append_right (by simp [hxs];omega),List.getElem?_drop]
     simp only [List.length_append,ht,Array.length_toList,hxs]
     rw [Array.getElem?_toList];congr 1;omega
   have hnewc:∀ p,p < i.size->vs'[ix * k + off + p]?=(ρ x).cells.toList[p]?:=fun p hp=>by
    show (vs.toList.take (ix * k + off) ++ (ρ x).cells.toList ++ vs.toList.drop (ix * k + off + i.size))[ix * k + off + p]?=_
    have ht:(vs.toList.take (ix * k + off)).length=ix * k + off:=by simp;omega
    rw [List.append_assoc,List.getElem?_append_right (by omega),ht,Nat.add_sub_cancel_left,List.getElem?_append_left (by simp [hxs];exact hp)]
   have hset:es.set ix (e.take off ++ ds ++ e.drop (off + i.size))=es.take ix ++ ((e.take off ++ ds ++ e.drop (off + i.size)) :: es.drop (ix + 1)):=List.set_eq_take_append_cons_drop .. |>.trans (by rw [if_pos hixlt])
   show DV.rows G (fun o=>vs'.toArray[o]?) k 0 _
   rw [hset]
   have hfun:(fun (o:Nat)=>vs'.toArray[o]?)=fun (o:Nat)=>vs'[o]?:=by funext o;simp
   rw [hfun]
   refine DV.rows_append (DV.rows_congr (fun p hp=>?_) (DV.rows_take ix h4)) ?_
   ·have:(es.take ix).length=ix:=by simp;omega
    rw [this] at hp
    rw [Nat.zero_add];exact hsame p (.inl (by omega))
   ·have htl:(es.take ix).length=ix:=by simp;omega
    rw [htl,Nat.zero_add]
    unfold DV.rows
    refine ⟨by simp [hlen];omega,?_,?_⟩
    ·have hc1:=DV.cells_take off hcell
     have hc2:=DV.cells_drop (off + i.size) hcell
     rw [Nat.zero_add] at hc1 hc2
     refine DV.cells_append (DV.cells_append (DV.cells_congr (fun p hp=>?_) hc1) ?_) (DV.cells_congr (o:=ix * k + (off + i.size)) (fun p hp=>?_) hc2)
     ·exact hsame _ (.inl (by simp at hp;omega))
     ·have hto:(e.take off).length=off:=by simp;omega
      rw [hto]
      exact AV.Rep_data hrx hds _ _ (fun p hp=>by rw [hnewc p (by simpa [hxs] using hp)])
     ·have hl2:(e.take off ++ ds).length=off + i.size:=by simp [hlen];omega
      rw [hl2]
      exact hsame _ (.inr (by omega))
    ·have:=DV.rows_drop (ix + 1) h4
     rw [Nat.zero_add,Nat.add_mul,Nat.one_mul] at this
     exact DV.rows_congr (fun p hp=>hsame _ (.inr (by omega))) this
 ·exact h.elim

theorem setBlk_own {s:AState} (h:∀ i,s.nx <= i->s.own i=none) {hd:Hd} {bl:Option Blk} (hb0:∃ b0,s.lk hd=some b0) (i:Nat) (hi:s.nx <= i):(s.setBlk hd bl).own i=none:=by
 cases hd with
 | B j=>exact h i hi
 | O j =>
  show upd s.own j bl i=none
  unfold upd
  by_cases e:i=j
  ·subst e
   obtain ⟨b0,hb0⟩:=hb0
   have:s.own i=some b0:=hb0
   rw [h i hi] at this;cases this
  ·rw [if_neg e];exact h i hi

end
end Go.Eng


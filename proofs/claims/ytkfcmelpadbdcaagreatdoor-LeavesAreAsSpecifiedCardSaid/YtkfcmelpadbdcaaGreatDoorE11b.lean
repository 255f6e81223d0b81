/- Texts of this claim. -/
import Derived.Test.YtkfcmelpadbdcaaGreatDoorE11
import Derived.ChangeKeysEq
set_option linter.all false
set_option linter.unusedSimpArgs false
set_option linter.unusedVariables false
namespace Go.Eng
open Go.RowKit
section
variable {P:Program} {o:Oper} {lk:Look} {n:Nat} {ev:Operand->AV} {K:AV->List Blk->List Hd->Prop}

theorem ps_nilc {x:Operand} (ho:o.op=.nilCheck x) (h:pstep P lk n ev (.nilc x) K):PS P o (.nilc x) lk n ev K:=by
 obtain ⟨hl,h'⟩:=h
 have hexec:∀ (ρ:Operand->Value) (a:Addr) (w:World),ρ x=.pointer (some a)->(execOp ρ o).run P w=.ok (.value (.pointer (some a))) w:=fun ρ a w hx=>by
  simp [execOp,ho,hx]
 generalize hx:ev x=ax at h' hl
 split at h'
 ·refine ⟨_,_,_,h',fun _=>⟨rfl,rfl⟩,(by intro h hh;cases hh),fun G m w ρ _ lk2 hls hS hev _=>?_⟩
  have hr:=evr hev hx (by simp [ROp.operands])
  obtain ⟨b,sz,hloc,hp⟩:=ptr_live hS (hls rfl) hr hl
  exact Does.val (hexec ρ _ w hp) (PPost.val hS (hp ▸ hr))
 ·refine ⟨_,_,_,h',fun _=>⟨rfl,rfl⟩,(by intro h hh;cases hh),fun G m w ρ _ lk2 hls hS hev _=>?_⟩
  have hr:=evr hev hx (by simp [ROp.operands])
  obtain ⟨b,sz,hloc,hp⟩:=eptr_live hS (hls rfl) hr hl
  exact Does.val (hexec ρ _ w hp) (PPost.val hS (hp ▸ hr))
 ·refine ⟨_,_,_,h',fun _=>⟨rfl,rfl⟩,(by intro h hh;cases hh),fun G m w ρ _ lk2 hls hS hev _=>?_⟩
  have hr:=evr hev hx (by simp [ROp.operands])
  have hr':=hr
  unfold AV.Rep at hr'
  obtain ⟨b,o',hp,hc⟩:=hr'
  exact Does.val (hexec ρ _ w hp) (PPost.val hS (hp ▸ hr))
 ·exact h'.elim

theorem ps_nilcS {x:Operand} (ho:o.op=.nilCheck x) (h:pstep P lk n ev (.nilcS x) K):PS P o (.nilcS x) lk n ev K:=by
 obtain ⟨hs,hv,h'⟩:=h
 obtain ⟨hdl,hhd⟩:=Option.isSome_iff_exists.1 hs
 have hp:pstep P (fun y=>if y=hdl then lk y else none) n ev (.nilc x) (fun a nbs fz=>nbs=[]/\fz=[]/\K a nbs fz):=by
  show AV.live _ (ev x)=true/\_
  generalize hx:ev x=v at hv hhd h'
  cases v <;> first | (cases hhd;done) | skip
  case ptr hh o=>cases hhd;exact ⟨by simpa [AV.live] using hv,rfl,rfl,h'⟩
  case eptr hh k2 ix o=>cases hhd;exact ⟨by simpa [AV.live] using hv,rfl,rfl,h'⟩
  case sl hh k2 ix o=>exact h'.elim
 obtain ⟨a,nbs,fz,⟨rfl,rfl,hK⟩,_,_,hD⟩:=ps_nilc ho hp
 refine ⟨a,[],[],hK,fun _=>⟨rfl,rfl⟩,(by intro h hh;cases hh),fun G m w ρ hρ lk2 hls hS hev hn=>hD G m w ρ hρ lk2 (fun _=>?_) hS hev hn⟩
 have he:lk2 hdl=lk hdl:=hls hdl hhd
 intro y b hb
 have hy:y=hdl:=by
  by_cases e:y=hdl
  ·exact e
  ·simp only [if_neg e] at hb;cases hb
 subst hy
 simp only [if_true] at hb
 exact ⟨b,he.trans hb,.inl rfl⟩
theorem ps_iaddrA {T e:TypeId} {x i:Operand} {m k:Nat} {inf:TypeInfo} (ho:o.op=.indexAddr T x i) (hT:P.underlying T=some (.array m e)) (h1:1 < m) (hi:P.info? e=some inf) (hk:k=inf.size)
  (h:pstep P lk n ev (.iaddrA m k x i) K):PS P o (.iaddrA m k x i) lk n ev K:=by
 subst hk
 obtain ⟨hl,kd,j,hj,h0,hlt,h'⟩:=h
 have hexec:∀ (ρ:Operand->Value) (a:Addr) (w:World),ρ x=.pointer (some a)->ρ i=.int kd j->(execOp ρ o).run P w=.ok (.value (.pointer (some (a.add (j.toNat * inf.size))))) w:=fun ρ a w hx hi'=>by
  simp [execOp,ho,hx,hi',Instr.indexAt,run_underlying hT,asIntOf,Instr.sureAddr,h0,hlt,run_size hi]
 generalize hx:ev x=ax at h' hl
 split at h'
 ·refine ⟨_,_,_,h',fun _=>⟨rfl,rfl⟩,(by intro h hh;cases hh),fun G m w ρ _ lk2 hls hS hev _=>?_⟩
  obtain ⟨b,sz,hloc,hp⟩:=ptr_live hS (hls rfl) (evr hev hx (by simp [ROp.operands])) hl
  refine Does.val (hexec ρ _ w hp (rep_I (evr hev hj (by simp [ROp.operands])))) (PPost.val hS ?_)
  unfold AV.Rep
  exact ⟨rfl,_,hloc,fun _=>⟨b,sz,rfl,by rw [Addr.add_lit]⟩⟩
 ·refine ⟨_,_,_,h',fun _=>⟨rfl,rfl⟩,(by intro h hh;cases hh),fun G m w ρ _ lk2 hls hS hev _=>?_⟩
  obtain ⟨b,sz,hloc,hp⟩:=eptr_live hS (hls rfl) (evr hev hx (by simp [ROp.operands])) hl
  refine Does.val (hexec ρ _ w hp (rep_I (evr hev hj (by simp [ROp.operands])))) (PPost.val hS ?_)
  rw [Addr.add_lit]
  exact eadd_rep hloc
 ·refine ⟨_,_,_,h',fun _=>⟨rfl,rfl⟩,(by intro h hh;cases hh),fun G m w ρ _ lk2 hls hS hev _=>?_⟩
  have hp:=evr hev hx (by simp [ROp.operands])
  unfold AV.Rep at hp
  obtain ⟨b,o',hp,hc⟩:=hp
  refine Does.val (hexec ρ _ w hp (rep_I (evr hev hj (by simp [ROp.operands])))) (PPost.val hS ?_)
  unfold AV.Rep
  exact ⟨b,o' + j.toNat * inf.size,by rw [Addr.add_lit],DV.cells_drop _ hc⟩
 ·exact h'.elim

theorem ps_idxA {T e:TypeId} {x i:Operand} {m k:Nat} {d:TypeDesc} {inf:TypeInfo} (ho:o.op=.index T x i) (hT:P.underlying T=some (.array m e)) (hd:P.underlying e=some d) (hi:P.info? e=some inf) (hk:k=inf.size)
  (h:pstep P lk n ev (.idxA m k (if isAggD d then some inf.size else none) x i) K):PS P o (.idxA m k (if isAggD d then some inf.size else none) x i) lk n ev K:=by
 subst hk
 obtain ⟨cs,kd,j,hx,hj,h0,hlt,h⟩:=h
 have hexec:∀ (ρ:Operand->Value) (vs:Array Value) (w:World),ρ x=.agg vs->ρ i=.int kd j->(execOp ρ o).run P w=((part e vs (j.toNat * inf.size)).run P w).andThen fun v w=>.ok (.value v) w:=fun ρ vs w hx hi'=>by
  simp [execOp,ho,hx,hi',Instr.index,run_underlying hT,asIntOf,h0,hlt,run_size hi]
 have hrepx:∀ (G:Gh) (m':HM) (ρ:Operand->Value),(∀ z ∈ (ROp.idxA m inf.size (if isAggD d then some inf.size else none) x i).operands,AV.Rep G m' (ev z) (ρ z))->∃ vs:Array Value,ρ x=.agg vs/\AV.RepL G m' cs vs.toList:=fun G m' ρ hev=>by
  have:=evr hev hx (by simp [ROp.operands])
  unfold AV.Rep at this
  exact this
 cases ha:isAggD d with
 | true =>
  rw [ha] at h
  obtain ⟨hle,hK⟩:=h
  refine ⟨_,_,_,hK,fun _=>⟨rfl,rfl⟩,(by intro h hh;cases hh),fun G m' w ρ _ lk2 hls hS hev _=>?_⟩
  obtain ⟨vs,hv,hrep⟩:=hrepx G m' ρ (by rw [ha];exact hev)
  have h1:=AV.RepL_take inf.size (AV.RepL_drop (j.toNat * inf.size) hrep)
  refine Does.val (v:=.agg (vs.extract (j.toNat * inf.size) (j.toNat * inf.size + inf.size))) (w':=w) ?_ (PPost.val hS ?_)
  ·rw [hexec ρ vs w hv (rep_I (evr hev hj (by simp [ROp.operands])))]
   simp [part,run_isAgg hd,ha,run_size hi]
  ·unfold AV.Rep
   refine ⟨_,rfl,?_⟩
   rw [Array.toList_extract,List.extract_eq_take_drop,Nat.add_sub_cancel_left]
   exact h1
 | false =>
  rw [ha] at h
  obtain ⟨a,hcs,hK⟩:=h
  refine ⟨_,_,_,hK,fun _=>⟨rfl,rfl⟩,(by intro h hh;cases hh),fun G m' w ρ _ lk2 hls hS hev _=>?_⟩
  obtain ⟨vs,hv,hrep⟩:=hrepx G m' ρ (by rw [ha];exact hev)
  obtain ⟨v,hv',hr⟩:=AV.RepL_get hrep hcs
  refine Does.val (v:=v) (w':=w) ?_ (PPost.val hS hr)
  rw [hexec ρ vs w hv (rep_I (evr hev hj (by simp [ROp.operands])))]
  rw [Array.getElem?_toList] at hv'
  simp [part,run_isAgg hd,ha,hv']

theorem ps_slsA {T e:TypeId} {x:Operand} {lo hi:Option Operand} {m:Nat} {inf:TypeInfo} (ho:o.op=.slice T x lo hi none) (hT:P.underlying T=some (.array m e)) (hinf:P.info? e=some inf) (h1:inf.size=1)
  (h:pstep P lk n ev (.slsA m x lo hi) K):PS P o (.slsA m x lo hi) lk n ev K:=by
 obtain ⟨hd,ix,mt,es,hx,hl,hle,h⟩:=h
 obtain ⟨hh,h,bh⟩:=optInt_out h
 obtain ⟨ll,h,bl⟩:=optInt_out h
 obtain ⟨g1,g2,hK⟩:=h
 refine ⟨_,_,_,hK,fun _=>⟨rfl,rfl⟩,(by intro h hh;cases hh),fun G m' w ρ _ lk2 hls hS hev _=>?_⟩
 have hp:=evr hev hx (by simp [ROp.operands])
 unfold AV.Rep at hp
 obtain ⟨_,loc,hloc,hp⟩:=hp
 have hl0:shp (lk2 hd)=shp (lk hd):=hls hd (by rw [hx];rfl)
 rw [hl] at hl0
 obtain ⟨mt2,es2,hl2,hes2⟩:=shp_row hl0
 have hnd:loc ≠ .dead:=fun e=>by subst e;rw [hS.dead _ hloc] at hl2;cases hl2
 obtain ⟨b,sz,rfl,hv⟩:=hp hnd
 obtain ⟨bl',hl3,hb⟩:=hS.blk _ _ _ hloc
 rw [hl2] at hl3
 cases hl3
 obtain ⟨f,_,_,hsz⟩:=row_cells hb hS.gh
 rw [hes2] at hsz
 rw [Nat.mul_one] at hsz
 rw [Nat.mul_one,Nat.add_zero] at hv
 have b1:=bh G m' ρ (fun z hz=>hev z (by simp [ROp.operands] at hz |-;exact .inr (.inr hz)))
 have b2:=bl G m' ρ (fun z hz=>hev z (by simp [ROp.operands] at hz |-;exact .inr (.inl hz)))
 have hb:=run_bounds (P:=P) (isSlice:=false) (len:=m) (cap:=m) (mx:=none) (m:=m) (.inl ⟨rfl,rfl⟩) b1 b2 g1 g2 (Nat.le_refl _) (fun h=>by cases h) w
 refine Does.val (v:=.slice (some (if m=ll then ⟨b,ix,none⟩ else ⟨b,ix + ll,none⟩)) (hh - ll) (m - ll)) (w':=w) ?_ (PPost.val hS ?_)
 ·simp only [execOp,ho,Option.map_none,Instr.sliceAt,hv,Sem.run_bind,run_underlying hT,Result.andThen_ok,Instr.sureAddr,Sem.run_pure]
  rw [hb]
  simp only [Result.andThen_ok,run_size hinf,h1,Nat.mul_one,Sem.run_pure,Addr.add_lit]
 ·unfold AV.Rep
  refine ⟨rfl,_,hloc,fun _=>?_⟩
  by_cases q:m=ll
  ·rw [if_pos q]
   exact .inl ⟨some ⟨b,ix,none⟩,by rw [show hh - ll=0 by omega,show m - ll=0 by omega],by omega⟩
  ·rw [if_neg q]
   exact .inr ⟨b,_,m - ll,rfl,by rw [Nat.mul_one],by omega,by omega⟩

theorem ps_arrP {T e:TypeId} {x:Operand} {m:Nat} (ho:o.op=.sliceToArrayPointer T x) (hT:P.underlying T=some (.array m e))
  (h:pstep P lk n ev (.arrP m x) K):PS P o (.arrP m x) lk n ev K:=by
 obtain ⟨hd,off,len,mt,es,hx,hl,hle,hpos,hK⟩:=h
 refine ⟨_,_,_,hK,fun _=>⟨rfl,rfl⟩,(by intro h hh;cases hh),fun G m' w ρ _ lk2 hls hS hev _=>?_⟩
 have hp:=evr hev hx (by simp [ROp.operands])
 unfold AV.Rep at hp
 obtain ⟨_,loc,hloc,hp⟩:=hp
 have hl0:shp (lk2 hd)=shp (lk hd):=hls hd (by rw [hx];rfl)
 rw [hl] at hl0
 obtain ⟨mt2,es2,hl2,_⟩:=shp_row hl0
 have hnd:loc ≠ .dead:=fun e=>by subst e;rw [hS.dead _ hloc] at hl2;cases hl2
 rcases hp hnd with ⟨a,_,hz⟩ | ⟨b,sz,cap,rfl,hv,hcap,hsz⟩
 ·omega
 ·refine Does.val (v:=.pointer (some ⟨b,off * 1,none⟩)) (w':=w) ?_ (PPost.val hS ?_)
  ·have:¬ len < m:=by omega
   simp [execOp,ho,hv,Instr.arrayAt,run_underlying hT,this]
  ·unfold AV.Rep
   exact ⟨rfl,_,hloc,fun _=>⟨b,sz,rfl,rfl⟩⟩

theorem intsL_rep {G:Gh} {m:HM} {k:IntKind}:∀ {xs:List AV} {p:List Int} {vs:List Value},intsL k xs=some p->AV.RepL G m xs vs->vs=p.map (.int k)
 | [],p,vs,h,hr=>by
  simp only [intsL,Option.some.injEq] at h
  subst h
  unfold AV.RepL at hr
  subst hr;rfl
 | x :: xs,p,vs,h,hr=>by
  unfold intsL at h
  split at h
  ·rename_i h';cases h'
  ·rename_i k' n' r h'
   cases h'
   rw [Option.ite_none_right_eq_some,Option.map_eq_some_iff] at h
   obtain ⟨rfl,q,hq,rfl⟩:=h
   unfold AV.RepL at hr
   obtain ⟨v,vs',rfl,h1,h2⟩:=hr
   unfold AV.Rep DV.Rep at h1
   rw [h1,intsL_rep hq h2];rfl
  ·cases h

theorem run_eqInts {e:TypeId} {k k':IntKind} (d:Nat) (he:P.underlying e=some (.int k')) (xs ys:Array Value) (p q:List Int) (hx:xs.toList=p.map (.int k)) (hy:ys.toList=q.map (.int k)) (w:World) :
  ∀ is:List Nat,(∀ i ∈ is,i < p.length/\i < q.length)->(Op.eqItems (d + 1) e 1 xs ys is).run P w=.ok (is.all fun i=>p[i]? == q[i]?) w
 | [],_=>by simp [Op.eqItems]
 | i :: is,h=>by
  obtain ⟨h1,h2⟩:=h i (by simp)
  have part':∀ (zs:Array Value) (l:List Int) (hl:i < l.length),zs.toList=l.map (.int k)->(part e zs (i * 1)).run P w=.ok (.int k l[i]) w:=fun zs l hl hz=>by
   have:zs[i]?=some (.int k l[i]):=by
    rw [<- Array.getElem?_toList,hz,List.getElem?_map,List.getElem?_eq_getElem hl];rfl
   simp [part,run_isAgg he,isAggD,this]
  have ih:=run_eqInts d he xs ys p q hx hy w is (fun j hj=>h j (by simp [hj]))
  simp only [Op.eqItems,Sem.run_bind,part' xs p h1 hx,part' ys q h2 hy,Result.andThen_ok,run_equalIn_int w d e _ _ _ _ he]
  rw [List.all_cons,List.getElem?_eq_getElem h1,List.getElem?_eq_getElem h2]
  have hb:(some p[i] == some q[i])=(p[i] == q[i]):=rfl
  rw [hb]
  cases p[i] == q[i]
  ·simp
  ·simpa using ih

theorem all_range_eq {p q:List Int} {n:Nat} (h1:p.length=n) (h2:q.length=n):((List.range n).all fun i=>p[i]? == q[i]?)=(p == q):=by
 rw [Bool.eq_iff_iff,List.all_eq_true,beq_iff_eq]
 constructor
 ·intro h
  apply List.ext_getElem?
  intro i
  by_cases hi:i < n
  ·simpa using h i (by simpa using hi)
  ·rw [List.getElem?_eq_none (by omega),List.getElem?_eq_none (by omega)]
 ·rintro rfl i _
  simp

theorem ps_eqa {op:BinOp} {T e yT:TypeId} {x y:Operand} {m:Nat} {k:IntKind} {i:TypeInfo} (ho:o.op=.binOp op T x y yT) (hT:P.underlying T=some (.array m e)) (he:P.underlying e=some (.int k)) (hi:P.info? e=some i)
  (hc1:P.eqGuardType P.depth T=false) (hc2:opEq op=true) (hsz:i.size=1) (h:pstep P lk n ev (.eqa (opNeq op) k m x y) K):PS P o (.eqa (opNeq op) k m x y) lk n ev K:=by
 obtain ⟨xs,ys,p,q,hx,hy,hp,hq,hlp,hlq,hK⟩:=h
 have hops:op=.eql\/op=.neq:=by cases op <;> simp [opEq] at hc2 |-
 refine ⟨_,_,_,hK,fun _=>⟨rfl,rfl⟩,(by intro h hh;cases hh),fun G m' w ρ _ lk2 hls hS hev _=>?_⟩
 have h1:=evr hev hx (by simp [ROp.operands])
 have h2:=evr hev hy (by simp [ROp.operands])
 unfold AV.Rep at h1 h2
 obtain ⟨us,hu,hus⟩:=h1
 obtain ⟨vs,hv,hvs⟩:=h2
 have hrun:(Op.equalIn 10000 T (.agg us) (.agg vs)).run P w=.ok (p == q) w:=by
  rw [run_equalIn_array w 9999 us vs hT hi,show P.cellsOf e=1 by simp [Program.cellsOf,hi,hsz],run_eqInts 9998 he us vs p q (intsL_rep hp hus) (intsL_rep hq hvs) w _ (fun i hi=>by rw [hlp,hlq];simpa using hi),all_range_eq hlp hlq]
 refine Does.val (v:=.bool (if opNeq op=true then !(p == q) else (p == q))) (w':=w) ?_ (PPost.val hS (by unfold AV.Rep DV.Rep;rfl))
 rcases hops with rfl | rfl
 ·simp only [execOp,ho,hu,hv,Sem.run_bind,run_eqGuard_agg w _ _ _ _ _ _ hc1,Result.andThen_ok,run_eql_struct,hrun,Sem.run_pure];rfl
 ·simp only [execOp,ho,hu,hv,Sem.run_bind,run_eqGuard_agg w _ _ _ _ _ _ hc1,Result.andThen_ok,run_neq_struct,hrun,Sem.run_pure];rfl
end
end Go.Eng


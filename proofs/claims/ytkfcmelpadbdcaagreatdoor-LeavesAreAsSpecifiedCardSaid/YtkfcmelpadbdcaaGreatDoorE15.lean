/- Texts of this claim. -/
import Derived.Test.YtkfcmelpadbdcaaGreatDoorE15a
set_option linter.all false
set_option linter.unusedSimpArgs false
set_option linter.unusedVariables false
namespace Go.Eng
open Go.RowKit

theorem storeF_ok {P:Program} {o:Oper} {T:TypeId} {a x:Operand} {i:TypeInfo} {s:AState} {K:AState->Prop} (ho:o.op=.store T a x) (hi:P.info? T=some i)
  (h:astore (s.put none .un [] (fzL s.lk (AV.rows (s.ev x)))) i.size (AV.conv s.lk (fun _=>none) (s.ev x)) K (s.ev a)):∃ s',K s'/\EOk P o [a,x] none s s':=by
 obtain ⟨hdl,bl,hK,hb0,hsem⟩:=astore_core ho hi h
 have hlk:(s.put none .un [] (fzL s.lk (AV.rows (s.ev x)))).lk=lkF s.lk (fzL s.lk (AV.rows (s.ev x))):=by rw [lk_put,lkN_nil]
 refine ⟨_,hK,⟨fun t _=>by rw [setBlk_env];rfl,by rw [setBlk_nx];exact Nat.le_refl _,fun hown j hj=>setBlk_own (fun i hi=>put_own hown i hi) hb0 j (by rw [setBlk_nx] at hj;exact hj),fun G m w ρ _ hS hev _=>?_⟩⟩
 obtain ⟨G1,k1,k2,k3⟩:=hS.freeze (fzL s.lk (AV.rows (s.ev x)))
 have ha:=hev a (by simp)
 have hx:=hev x (by simp)
 have hx1:AV.Rep G1 m (AV.conv s.lk (fun _=>none) (s.ev x)) (ρ x):=by
  refine AV.conv_rep k1 (fun h mt k es hl=>?_) (fun _ _ _ e _=>by cases e) _ _ (fun h hh mt k es _ hs hl=>?_) (AV.Rep.mono k2 (HM.le.refl m) _ _ hx)
  ·unfold lkF
   split
   ·rw [hl];exact ⟨_,rfl⟩
   ·exact ⟨_,hl⟩
  ·unfold lkF at hl
   rw [if_pos (mem_fzL hh hs)] at hl
   cases hb:s.lk h with
   | none=>rw [hb] at hl;cases hl
   | some b0 =>
    rw [hb] at hl
    cases b0 <;> first | (cases hl;rfl) | (cases hl;done)
 rw [<- hlk] at k1
 obtain ⟨w',hrun,hS',hF⟩:=hsem G1 m w ρ k1 (AV.Rep.mono k2 (HM.le.refl m) _ _ ha) hx1
 unfold Does
 rw [hrun]
 refine ⟨G1,m,hS',(fun d hd'=>by cases hd'),⟨hF.os,hF.tape,hF.output,hF.size,hF.heap,fun b hb ho o=>?_,k2.trans hF.le⟩,HM.le.refl m,fun _=>.inl rfl,fun _ _=>.inl rfl,fun x l b hj hl=>.inr ⟨_,l,hj,hl⟩⟩
 exact k3 b (fun h _ sz e=>ho (Own.at_ e)) o

theorem estep_ok {P:Program} {ops:Array Oper} {N:Nat} {o:Oper} {ro:RO} (hr:ResO P ops N o ro) (he:ro.op.eff=true) {s:AState} {K:AState->Prop} (h:sstep P s ro K):∃ s',K s'/\EOk P o ro.op.operands ro.dst s s':=by
 obtain ⟨b,op0,hop,hm⟩:=hr.op.resolve_left (fun e=>by rw [e] at he;cases he)
 unfold sstep at h
 split at h
 ·rename_i sz x y heq
  rw [heq] at hm
  rw [mark_store hm] at hop
  obtain ⟨T,i,ho,hd,hi,rfl⟩:=res_store hop
  rcases h with h | h
  rotate_left
  ·obtain ⟨s',hK,hE⟩:=storeF_ok ho hi h
   exact ⟨s',hK,by rw [heq,hr.dst,hd];exact hE⟩
  obtain ⟨hdl,bl,hK,hb0,hsem⟩:=astore_core ho hi h
  refine ⟨_,hK,⟨fun t _=>by rw [setBlk_env],by rw [setBlk_nx];exact Nat.le_refl _,fun hown j hj=>setBlk_own hown hb0 j (by rw [setBlk_nx] at hj;exact hj),fun G m w ρ _ hS hev _=>?_⟩⟩
  rw [heq] at hev
  obtain ⟨w',hrun,hS',hF⟩:=hsem G m w ρ hS (hev _ (by simp [ROp.operands])) (hev _ (by simp [ROp.operands]))
  unfold Does
  rw [hrun]
  exact ⟨G,m,hS',(fun d hd'=>by rw [hr.dst,hd] at hd';cases hd'),hF.mono (fun _ _ q=>q) (fun _ _ q=>q.elim),HM.le.refl m,fun _=>.inl rfl,fun _ _=>.inl rfl,fun x l b hj hl=>.inr ⟨_,l,hj,hl⟩⟩
 ·rename_i k bytes x y heq
  rw [heq] at hm
  rcases mark_app hm with e | e
  ·rw [e] at hop
   obtain ⟨c,t,u,e,d,i,ho,hc,ha,hta,ht,hu,hd,hi,hz,hbytes,rfl,rfl⟩:=res_app hop
   obtain ⟨s',hK,hE⟩:=appE_ok (o:=o) ho hc ha hta ht hu hd hi hz hbytes h
   exact ⟨s',hK,by rw [heq];exact hE⟩
  ·rw [e] at hop;exact (no_appE hop).elim
 ·rename_i f args heq
  rw [heq] at hm
  rcases mark_call hm with e | e
  ·rw [e] at hop
   obtain ⟨c,ho,hc,rfl⟩:=res_call hop
   obtain ⟨s',hK,hE⟩:=callE_ok (o:=o) ho hc h
   exact ⟨s',hK,by rw [heq];exact hE⟩
  ·rw [e] at hop;exact (no_callE hop).elim
 ·rename_i k zs x heq
  rw [heq] at hm
  rw [mark_clr hm] at hop
  obtain ⟨c,t,e,i,z,ho,hc,ha,hta,ht,hi,hz,hz',h1,rfl,rfl⟩:=res_clr hop
  obtain ⟨s',hK,hE⟩:=clear_ok (o:=o) ho hc ha hta ht hi hz hz' h1 h
  exact ⟨s',hK,by rw [heq];exact hE⟩
 ·rename_i k x y heq
  rw [heq] at hm
  rw [mark_cpy hm] at hop
  obtain ⟨c,t,u,e,i,ho,hc,ha,hta,ht,hi,rfl⟩:=res_cpy hop
  obtain ⟨s',hK,hE⟩:=copy_ok (o:=o) ho hc ha hta ht hi h
  exact ⟨s',hK,by rw [heq];exact hE⟩
 ·rename_i kd z k ok x y heq
  rw [heq] at hm
  rcases mark_mtake hm with e | e
  ·rw [e] at hop
   obtain ⟨T,k0,e',i,z0,ho,hT,hk0,hi,hz,rfl⟩:=res_mget hop
   exact h.elim
  ·rw [e] at hop;exact (no_mtake hop).elim
 ·rename_i kd x y z heq
  rw [heq] at hm
  rw [mark_mput hm] at hop
  obtain ⟨T,k0,e',ho,hd,hT,hk0⟩:=res_mput hop
  exact h.elim
 ·rename_i kd x y heq
  rw [heq] at hm
  rw [mark_mdel hm] at hop
  obtain ⟨c,T,t2,k0,e',ho,hc,ha,hta,hd,hT,hk0⟩:=res_mdel hop
  exact h.elim
 ·rename_i kd x heq
  rw [heq] at hm
  rw [mark_rng hm] at hop
  obtain ⟨T,k0,e',ho,hT⟩:=res_rng hop
  exact h.elim
 ·rename_i x heq
  rw [heq] at hm
  rcases mark_entT hm with e | e
  ·rw [e] at hop
   exact h.elim
  ·rw [e] at hop;exact (no_entT hop).elim
 ·rename_i h1 h2 h3 h4 h5 h6 h7 h8 h9 h10
  cases hro:ro.op <;> rw [hro] at he h <;> first | (cases he;done) | exact (h1 _ _ _ hro).elim | exact (h2 _ _ _ _ hro).elim | exact (h3 _ _ hro).elim | exact (h4 _ _ _ hro).elim | exact (h5 _ _ _ hro).elim | exact (h6 _ _ _ _ _ _ hro).elim | exact (h7 _ _ _ _ hro).elim | exact (h8 _ _ _ hro).elim | exact (h9 _ _ hro).elim | exact (h10 _ hro).elim | exact h.elim

theorem mark_load {b:Mk} {op0:ROp} {ag:Option Nat} {x:Operand} (h:ROp.loadS ag x=markE b op0):op0=.load ag x\/op0=.loadS ag x:=by
 cases b <;> cases op0 <;> first | (cases h;done) | (cases h;exact .inl rfl) | (cases h;exact .inr rfl)
theorem no_loadS {P:Program} {o:Oper} {ag:Option Nat} {x:Operand} (h:resolveOp P o=some (.loadS ag x)):False:=by
 cases ho:o.op
 case field=>simp only [resolveOp,ho,Option.bind_eq_some_iff] at h;obtain ⟨f,_,h⟩:=h;split at h <;> cases h
 all_goals (simp only [resolveOp,ho] at h;(repeat' split at h) <;> simp_all [Option.bind_eq_some_iff,Option.map_eq_some_iff,Option.ite_none_right_eq_some])
theorem res_load {P:Program} {o:Oper} {ag:Option Nat} {x:Operand} (h:resolveOp P o=some (.load ag x)):∃ T,o.op=.load T x:=by
 cases ho:o.op
 case load T y =>
  simp only [resolveOp,ho] at h
  split at h
  ·cases h;exact ⟨T,rfl⟩
  ·cases h
 case field=>exfalso;simp only [resolveOp,ho,Option.bind_eq_some_iff] at h;obtain ⟨f,_,h⟩:=h;split at h <;> cases h
 all_goals (exfalso;simp only [resolveOp,ho] at h;(repeat' split at h) <;> simp_all [Option.bind_eq_some_iff,Option.map_eq_some_iff,Option.ite_none_right_eq_some])
theorem mark_faddr {b:Mk} {op0:ROp} {off:Nat} {x:Operand} (h:ROp.faddrS off x=markE b op0):op0=.faddr off x\/op0=.faddrS off x:=by
 cases b <;> cases op0 <;> first | (cases h;done) | (cases h;exact .inl rfl) | (cases h;exact .inr rfl)
theorem no_faddrS {P:Program} {o:Oper} {off:Nat} {x:Operand} (h:resolveOp P o=some (.faddrS off x)):False:=by
 cases ho:o.op
 case field=>simp only [resolveOp,ho,Option.bind_eq_some_iff] at h;obtain ⟨f,_,h⟩:=h;split at h <;> cases h
 all_goals (simp only [resolveOp,ho] at h;(repeat' split at h) <;> simp_all [Option.bind_eq_some_iff,Option.map_eq_some_iff,Option.ite_none_right_eq_some])
theorem res_faddr {P:Program} {o:Oper} {off:Nat} {x:Operand} (h:resolveOp P o=some (.faddr off x)):∃ T k,o.op=.fieldAddr T x k:=by
 cases ho:o.op
 case fieldAddr T y k =>
  simp only [resolveOp,ho,Option.bind_eq_some_iff] at h
  obtain ⟨f,_,i,_,h⟩:=h
  split at h
  ·cases h
  ·cases h;exact ⟨T,k,rfl⟩
 case field=>exfalso;simp only [resolveOp,ho,Option.bind_eq_some_iff] at h;obtain ⟨f,_,h⟩:=h;split at h <;> cases h
 all_goals (exfalso;simp only [resolveOp,ho] at h;(repeat' split at h) <;> simp_all [Option.bind_eq_some_iff,Option.map_eq_some_iff,Option.ite_none_right_eq_some])
theorem mark_bsF {b:Mk} {op0:ROp} {k:Nat} {ps:List Operand} (h:ROp.bsF k ps=markE b op0):op0=.bslice k ps\/op0=.bsF k ps:=by
 cases b <;> cases op0 <;> first | (cases h;done) | (cases h;exact .inl rfl) | (cases h;exact .inr rfl)
theorem no_bsF {P:Program} {o:Oper} {k:Nat} {ps:List Operand} (h:resolveOp P o=some (.bsF k ps)):False:=by
 cases ho:o.op
 case field=>simp only [resolveOp,ho,Option.bind_eq_some_iff] at h;obtain ⟨f,_,h⟩:=h;split at h <;> cases h
 all_goals (simp only [resolveOp,ho] at h;(repeat' split at h) <;> simp_all [Option.bind_eq_some_iff,Option.map_eq_some_iff,Option.ite_none_right_eq_some])
theorem res_bslice {P:Program} {o:Oper} {k:Nat} {ps:List Operand} (h:resolveOp P o=some (.bslice k ps)):∃ T n qs,o.op=.buildSlice T n qs:=by
 cases ho:o.op
 case buildSlice T n qs=>exact ⟨T,n,qs,rfl⟩
 case field=>exfalso;simp only [resolveOp,ho,Option.bind_eq_some_iff] at h;obtain ⟨f,_,h⟩:=h;split at h <;> cases h
 all_goals (exfalso;simp only [resolveOp,ho] at h;(repeat' split at h) <;> simp_all [Option.bind_eq_some_iff,Option.map_eq_some_iff,Option.ite_none_right_eq_some])
theorem mark_nilc {b:Mk} {op0:ROp} {x:Operand} (h:ROp.nilcS x=markE b op0):op0=.nilc x\/op0=.nilcS x:=by
 cases b <;> cases op0 <;> first | (cases h;done) | (cases h;exact .inl rfl) | (cases h;exact .inr rfl)
theorem no_nilcS {P:Program} {o:Oper} {x:Operand} (h:resolveOp P o=some (.nilcS x)):False:=by
 cases ho:o.op
 case field=>simp only [resolveOp,ho,Option.bind_eq_some_iff] at h;obtain ⟨f,_,h⟩:=h;split at h <;> cases h
 all_goals (simp only [resolveOp,ho] at h;(repeat' split at h) <;> simp_all [Option.bind_eq_some_iff,Option.map_eq_some_iff,Option.ite_none_right_eq_some])
theorem mark_len {b:Mk} {op0:ROp} {str:Bool} {x:Operand} (h:ROp.lenS str x=markE b op0):op0=.len str x\/op0=.lenS str x:=by
 cases b <;> cases op0 <;> first | (cases h;done) | (cases h;exact .inl rfl) | (cases h;exact .inr rfl)
theorem no_lenS {P:Program} {o:Oper} {str:Bool} {x:Operand} (h:resolveOp P o=some (.lenS str x)):False:=by
 cases ho:o.op
 case field=>simp only [resolveOp,ho,Option.bind_eq_some_iff] at h;obtain ⟨f,_,h⟩:=h;split at h <;> cases h
 all_goals (simp only [resolveOp,ho] at h;(repeat' split at h) <;> simp_all [Option.bind_eq_some_iff,Option.map_eq_some_iff,Option.ite_none_right_eq_some])
theorem ps_lenS {P:Program} {o:Oper} {lk:Look} {n:Nat} {ev:Operand->AV} {K:AV->List Blk->List Hd->Prop} {str:Bool} {x:Operand} (ho:resolveOp P o=some (.len str x)) (h:pstep P lk n ev (.lenS str x) K):PS P o (.lenS str x) lk n ev K:=by
 obtain ⟨hs,hv,l,hl,h'⟩:=h
 obtain ⟨hdl,hhd⟩:=Option.isSome_iff_exists.1 hs
 have hp:pstep P (fun y=>if y=hdl then lk y else none) n ev (.len str x) (fun a nbs fz=>nbs=[]/\fz=[]/\K a nbs fz):=by
  refine ⟨?_,l,hl,rfl,rfl,h'⟩
  generalize hx:ev x=v at hv hhd
  cases v <;> first | (cases hhd;done) | skip
  case ptr hh o=>cases hhd;simpa [AV.live] using hv
  case eptr hh k2 ix o=>cases hhd;simpa [AV.live] using hv
  case sl hh k2 ix o=>cases hhd;simpa [AV.live] using hv
 obtain ⟨a,nbs,fz,⟨rfl,rfl,hK⟩,_,_,hD⟩:=pstep_sound ho hp
 refine ⟨a,[],[],hK,fun _=>⟨rfl,rfl⟩,(by intro h hh;cases hh),fun G m w ρ hρ lk2 hls hS hev hn=>hD G m w ρ hρ lk2 (fun _=>?_) hS hev hn⟩
 have he:lk2 hdl=lk hdl:=hls hdl hhd
 intro y b hb
 have hy:y=hdl:=by
  by_cases e:y=hdl
  ·exact e
  ·simp only [if_neg e] at hb;cases hb
 subst hy
 simp only [if_true] at hb
 exact ⟨b,he.trans hb,.inl rfl⟩
theorem res_nilc {P:Program} {o:Oper} {x:Operand} (h:resolveOp P o=some (.nilc x)):o.op=.nilCheck x:=by
 cases ho:o.op
 case nilCheck y=>simp only [resolveOp,ho,Option.some.injEq] at h;cases h;rfl
 case field=>exfalso;simp only [resolveOp,ho,Option.bind_eq_some_iff] at h;obtain ⟨f,_,h⟩:=h;split at h <;> cases h
 all_goals (exfalso;simp only [resolveOp,ho] at h;(repeat' split at h) <;> simp_all [Option.bind_eq_some_iff,Option.map_eq_some_iff,Option.ite_none_right_eq_some])
theorem mark_loadD {b:Mk} {op0:ROp} {ag:Option Nat} {x:Operand} (h:ROp.loadD ag x=markE b op0):op0=.load ag x\/op0=.loadD ag x:=by
 cases b <;> cases op0 <;> first | (cases h;done) | (cases h;exact .inl rfl) | (cases h;exact .inr rfl)
theorem no_loadD {P:Program} {o:Oper} {ag:Option Nat} {x:Operand} (h:resolveOp P o=some (.loadD ag x)):False:=by
 cases ho:o.op
 case field=>simp only [resolveOp,ho,Option.bind_eq_some_iff] at h;obtain ⟨f,_,h⟩:=h;split at h <;> cases h
 all_goals (simp only [resolveOp,ho] at h;(repeat' split at h) <;> simp_all [Option.bind_eq_some_iff,Option.map_eq_some_iff,Option.ite_none_right_eq_some])
theorem mark_sllD {b:Mk} {op0:ROp} {k:Nat} {x:Operand} {lo hi mx:Option Operand} (h:ROp.sllD k x lo hi mx=markE b op0):op0=.sll k x lo hi mx\/op0=.sllD k x lo hi mx:=by
 cases b <;> cases op0 <;> first | (cases h;done) | (cases h;exact .inl rfl) | (cases h;exact .inr rfl)
theorem no_sllD {P:Program} {o:Oper} {k:Nat} {x:Operand} {lo hi mx:Option Operand} (h:resolveOp P o=some (.sllD k x lo hi mx)):False:=by
 cases ho:o.op
 case field=>simp only [resolveOp,ho,Option.bind_eq_some_iff] at h;obtain ⟨f,_,h⟩:=h;split at h <;> cases h
 all_goals (simp only [resolveOp,ho] at h;(repeat' split at h) <;> simp_all [Option.bind_eq_some_iff,Option.map_eq_some_iff,Option.ite_none_right_eq_some])
theorem res_sll {P:Program} {o:Oper} {k:Nat} {x:Operand} {lo hi mx:Option Operand} (h:resolveOp P o=some (.sll k x lo hi mx)):∃ T e,o.op=.slice T x lo hi mx/\P.underlying T=some (.slice e):=by
 cases ho:o.op
 case slice T y l u m =>
  simp only [resolveOp,ho] at h
  split at h
  ·split at h <;> cases h
  ·rename_i e hT
   rw [Option.map_eq_some_iff] at h
   obtain ⟨inf,_,h⟩:=h
   cases h;exact ⟨T,e,rfl,hT⟩
  ·rw [Option.ite_none_right_eq_some,Option.bind_eq_some_iff] at h
   obtain ⟨_,inf,_,h⟩:=h
   split at h <;> cases h
  ·cases h
 case field=>exfalso;simp only [resolveOp,ho,Option.bind_eq_some_iff] at h;obtain ⟨f,_,h⟩:=h;split at h <;> cases h
 all_goals (exfalso;simp only [resolveOp,ho] at h;(repeat' split at h) <;> simp_all [Option.bind_eq_some_iff,Option.map_eq_some_iff,Option.ite_none_right_eq_some])
theorem mark_iaddrD {b:Mk} {op0:ROp} {k:Nat} {x i:Operand} (h:ROp.iaddrD k x i=markE b op0):op0=.iaddr k x i\/op0=.iaddrD k x i:=by
 cases b <;> cases op0 <;> first | (cases h;done) | (cases h;exact .inl rfl) | (cases h;exact .inr rfl)
theorem no_iaddrD {P:Program} {o:Oper} {k:Nat} {x i:Operand} (h:resolveOp P o=some (.iaddrD k x i)):False:=by
 cases ho:o.op
 case field=>simp only [resolveOp,ho,Option.bind_eq_some_iff] at h;obtain ⟨f,_,h⟩:=h;split at h <;> cases h
 all_goals (simp only [resolveOp,ho] at h;(repeat' split at h) <;> simp_all [Option.bind_eq_some_iff,Option.map_eq_some_iff,Option.ite_none_right_eq_some])
theorem res_iaddr {P:Program} {o:Oper} {k:Nat} {x i:Operand} (h:resolveOp P o=some (.iaddr k x i)):∃ T e,o.op=.indexAddr T x i/\P.underlying T=some (.slice e):=by
 cases ho:o.op
 case indexAddr T y j =>
  simp only [resolveOp,ho] at h
  split at h
  ·rename_i e hT
   rw [Option.map_eq_some_iff] at h
   obtain ⟨inf,_,h⟩:=h
   cases h;exact ⟨T,e,rfl,hT⟩
  ·rw [Option.ite_none_right_eq_some] at h
   obtain ⟨_,h⟩:=h
   rw [Option.map_eq_some_iff] at h
   obtain ⟨inf,_,h⟩:=h
   cases h
  ·cases h
 case field=>exfalso;simp only [resolveOp,ho,Option.bind_eq_some_iff] at h;obtain ⟨f,_,h⟩:=h;split at h <;> cases h
 all_goals (exfalso;simp only [resolveOp,ho] at h;(repeat' split at h) <;> simp_all [Option.bind_eq_some_iff,Option.map_eq_some_iff,Option.ite_none_right_eq_some])
theorem ResO.ps {P:Program} {ops:Array Oper} {N:Nat} {o:Oper} {ro:RO} (hr:ResO P ops N o ro) (he:ro.op.eff=false) {lk:Look} {n:Nat} {ev:Operand->AV} {K:AV->List Blk->List Hd->Prop} (h:pstep P lk n ev ro.op K):PS P o ro.op lk n ev K:=by
 cases hm:ro.op.mkd
 ·exact pstep_sound (hr.pure he hm) h
 ·rcases hr.op with e | ⟨b,op0,hop,hmk⟩
  ·rw [e] at h;exact h.elim
  generalize hq:ro.op=q at h hm hmk he |-
  cases q <;> first | (cases hm;done) | skip
  case stop=>exact h.elim
  case loadS ag x =>
   rcases mark_load hmk with e | e
   ·rw [e] at hop
    obtain ⟨T,ho⟩:=res_load hop
    exact ps_loadS ho hop h
   ·rw [e] at hop;exact (no_loadS hop).elim
  case bsF k ps =>
   rcases mark_bsF hmk with e | e
   ·rw [e] at hop
    obtain ⟨T,n0,qs,ho⟩:=res_bslice hop
    exact ps_bsF ho hop h
   ·rw [e] at hop;exact (no_bsF hop).elim
  case nilcS x =>
   rcases mark_nilc hmk with e | e
   ·rw [e] at hop
    exact ps_nilcS (res_nilc hop) h
   ·rw [e] at hop;exact (no_nilcS hop).elim
  case lenS str x =>
   rcases mark_len hmk with e | e
   ·rw [e] at hop
    exact ps_lenS hop h
   ·rw [e] at hop;exact (no_lenS hop).elim
  case faddrS off x =>
   rcases mark_faddr hmk with e | e
   ·rw [e] at hop
    obtain ⟨T,k,ho⟩:=res_faddr hop
    exact ps_faddrS ho hop h
   ·rw [e] at hop;exact (no_faddrS hop).elim
  case loadD ag x =>
   rcases mark_loadD hmk with e | e
   ·rw [e] at hop
    obtain ⟨T,ho⟩:=res_load hop
    exact ps_loadD ho hop h
   ·rw [e] at hop;exact (no_loadD hop).elim
  case iaddrD k x i =>
   rcases mark_iaddrD hmk with e | e
   ·rw [e] at hop
    obtain ⟨T,e',ho,hT⟩:=res_iaddr hop
    exact ps_iaddrD ho hT hop h
   ·rw [e] at hop;exact (no_iaddrD hop).elim
  case sllD k x lo hi mx =>
   rcases mark_sllD hmk with e | e
   ·rw [e] at hop
    obtain ⟨T,e',ho,hT⟩:=res_sll hop
    exact ps_sllD ho hT hop h
   ·rw [e] at hop;exact (no_sllD hop).elim
  case callP f args=>exact h.elim
  case mkmW kd =>
   rcases mark_mkmW hmk with e | e
   ·rw [e] at hop
    obtain ⟨a,nbs,fz,q1,_,q3,q4⟩:=pstep_sound (lk:=lk) (n:=n) (ev:=ev) (K:=K) hop h
    exact ⟨a,nbs,fz,q1,(fun e=>by cases e),q3,fun G m w ρ hρ lk2 hls=>q4 G m w ρ hρ lk2 hls⟩
   ·rw [e] at hop;exact (no_mkmW hop).elim

theorem sstep_sound {P:Program} {ops:Array Oper} {E:Ent} {o:Oper} {ro:RO} (hr:ResO P ops E.N o ro) {s:AState} {a:Act} {w:World} {K:AState->Prop} (h:sstep P s ro K) (hA:ASim E s a w) :
  ∃ s',K s'/\Does P o a.eval w fun v w'=>ASim E s' (a.put o.dst v) w':=by
 obtain ⟨G,m,hA⟩:=hA
 cases he:ro.op.eff with
 | true =>
  obtain ⟨s',hK,hE⟩:=estep_ok hr he h
  exact ⟨s',hK,hr.dst ▸ hA.eff (fun d hd=>hr.lt d (by rw [<- hr.dst];exact hd)) hr.xs hE⟩
 | false =>
  rw [sstep_pure he] at h
  obtain ⟨x,nbs,fz,hK,_,_,hD⟩:=hr.ps he h
  refine ⟨_,hK,?_⟩
  refine (hD G m w a.eval (fun _=>rfl) s.lk (Need.refl _ _ _) hA.sim (fun x hx=>hA.evs x (hr.xs x hx)) (fun j hj=>hA.fresh _ (by omega))).mono fun v w' hp=>?_
  rw [hr.dst]
  exact hA.step hr.lt hp

def ResL (P:Program) (ops:Array Oper) (N:Nat):List Oper->List RO->Prop
 | [],[]=>True
 | o :: os,ro :: ros=>ResO P ops N o ro/\ResL P ops N os ros
 | _,_=>False

def wpStep (r:Option Nat) (P:Program) (ops:Array Oper) (o:Oper) (next:Act->World->Prop) (Q:Exit->Act->World->Prop) (a:Act) (w:World):Prop :=
 if Region.wanted o (yielded ops a.tmps) then o.wpIn (FR r) 0 P a w next Q else (∀ f,o.about P w a.eval=some f->(FR r).fn f)/\next (a.put o.dst undef) w

theorem aops_step {r:Option Nat} {P:Program} {ops:Array Oper} {E:Ent} {Q:Exit->Act->World->Prop} {next:Act->World->Prop} {o:Oper} {ro:RO} {s:AState} {a:Act} {w:World} {K:AState->Prop} (h1:ResO P ops E.N o ro) (h:aops P [ro] s K) (hA:ASim E s a w)
  (hQ:∀ s' a' w',K s'->ASim E s' a' w'->next a' w'):wpStep r P ops o next Q a w:=by
 unfold wpStep
 have run:(sstep P s ro fun s'=>aops P [] s' K)->o.wpIn (FR r) 0 P a w next Q:=fun hs=>by
  obtain ⟨s',hK,hD⟩:=sstep_sound h1 hs hA
  exact does_wpIn hD fun v w' hs'=>hQ _ _ _ hK hs'
 have skip:aops P [] (s.put ro.dst .un [] []) K->next (a.put o.dst undef) w:=fun hs=>by
  obtain ⟨G,m,hA⟩:=hA
  exact hQ _ _ _ hs (by rw [h1.dst];exact hA.skip h1.lt)
 unfold aops at h
 have hg:=h1.guard
 cases hog:o.guard with
 | none =>
  rw [hog] at hg
  simp only at hg
  rw [hg] at h
  rw [if_pos (by simp [Region.wanted,hog])]
  exact run h
 | some g =>
  obtain ⟨j,want⟩:=g
  rw [hog] at hg
  obtain ⟨t,ht,htN,hg⟩:=hg
  rw [hg] at h
  simp only at h
  obtain ⟨G,m,hA'⟩:=hA
  have hrep:=hA'.env t
  rw [Ent.val_lt htN] at hrep
  have hy:yielded ops a.tmps j=match a.tmps.getD t undef with | .bool b=>some b | _=>none:=by
   unfold yielded
   rw [ht]
   simp only [Option.bind_some,Array.getD_eq_getD_getElem?]
   cases a.tmps[t]? with
   | none=>rfl
   | some v=>cases v <;> rfl
  split at h
  ·rename_i c hc
   rw [hc] at hrep
   have hv:=rep_B hrep
   rw [hv] at hy
   have hw:Region.wanted o (yielded ops a.tmps)=(c == want):=by
    simp only [Region.wanted,hog,hy]
    cases c <;> cases want <;> rfl
   rw [hw]
   by_cases e:c=want
   ·rw [if_pos (by simpa using e)]
    exact run (h.1 e)
   ·rw [if_neg (by simpa using e)]
    exact ⟨fun f _=>FR_fn r f,skip (h.2 e)⟩
  ·rename_i v hc
   rw [hc] at hrep
   unfold AV.Rep DV.Rep at hrep
   rw [hrep] at hy
   have hw:Region.wanted o (yielded ops a.tmps)=false:=by
    simp only [Region.wanted,hog,hy];rfl
   rw [hw]
   exact ⟨fun f _=>FR_fn r f,skip h⟩
  ·exact h.elim

theorem aops_seq {r:Option Nat} {P:Program} {ops:Array Oper} {E:Ent} {Q:Exit->Act->World->Prop}:∀ {os:List Oper} {ros:List RO} {s:AState} {a:Act} {w:World} {K:AState->Prop},ResL P ops E.N os ros->aops P ros s K->ASim E s a w ->
  (∀ s' a' w',K s'->ASim E s' a' w'->Q .normal a' w')->wpListIn (FR r) 0 P ops Q os a w
 | [],[],s,a,w,K,_,h,hA,hQ=>hQ _ _ _ h hA
 | [],_ :: _,_,_,_,_,hr,_,_,_=>hr.elim
 | _ :: _,[],_,_,_,_,hr,_,_,_=>hr.elim
 | o :: os,ro :: ros,s,a,w,K,hr,h,hA,hQ =>
  aops_step (K:=fun s'=>aops P ros s' K) hr.1 h hA fun s' a' w' hK hA'=>aops_seq hr.2 hK hA' hQ

def isP:ROp->Bool
 | .callP _ _=>true
 | .pan _=>true
 | _=>false
def acallP (P:Program) (dr:Bool) (s:AState) (dst:Option Nat) (f:Operand) (args:List Operand) (K:AState->Prop) (Pn:Value->AState->Prop):Prop :=
 ∃ fn caps,s.ev f=.clo fn caps /\
  ((∃ r nbs,(dr=true->AV.flat r=true/\nbs=[])/\ACall P fn (AV.convL s.lk (fun _=>none) (args.map s.ev ++ caps)) [] r [] nbs /\
   K (s.put dst (AV.ren (backHd [] s.nx) r) (nbs.map (Blk.ren (backHd [] s.nx))) (if AV.flat r=true/\nbs=[] then [] else fzL s.lk (AV.rowsL (args.map s.ev ++ caps))))) \/
  ∃ v,APan P fn (AV.convL s.lk (fun _=>none) (args.map s.ev ++ caps)) v/\Pn v (s.put none .any [] []))
def aopsP (P:Program) (dr:Bool):List RO->AState->(AState->Prop)->(Value->AState->Prop)->Prop
 | [],s,K,_=>K s
 | ro :: ros,s,K,Pn=>match ro.op with
  | .callP f args=>ro.guard=none/\acallP P dr s ro.dst f args (fun s'=>aopsP P dr ros s' K Pn) Pn
  | .pan x=>ro.guard=none/\∃ t v,s.ev x=.D (.C (.iface t v))/\Pn (.iface t v) s
  | _=>aops P [ro] s fun s'=>aopsP P dr ros s' K Pn
def maskR:List RO->AState->AState
 | [],s=>s
 | ro :: ros,s=>maskR ros (s.put ro.dst .any [] [])

def aopsN (P:Program):List RO->AState->(AState->Prop)->Prop
 | [],_,_=>False
 | ro :: ros,s,K=>ro.guard=none/\match ro.op with
  | .nxt x=>anxt s ro.dst (fun s'=>aops P ros s' K) (s.ev x)
  | _=>False

structure MA where
 kd:KD
 k:Nat
 bytes:Nat
 m:Operand
 y:Operand
 ys:Operand
 d1:Nat
 d2:Nat
 d3:Nat
 d4:Nat
 deriving Inhabited
def nilV:Value:=.slice none 0 0
def amappT (x:MA) (K:AState->Prop) (sB:AState):Prop :=
 (∃ h k off len,sB.ev (.tmp x.d2)=.sl h k off len)/\aappend sB x.k x.bytes x.ys (some x.d3) (fun s3=>amput (s3.put (some x.d4) .any [] []) x.kd x.y (.tmp x.d3) K (s3.ev x.m)) (sB.ev (.tmp x.d2))
def amapp (x:MA) (s:AState) (K:AState->Prop):Prop:=∃ h es it r,s.ev x.m=.mref h/\s.lk h=some (.mp x.kd es it)/\mfind (s.ev x.y) es=some r /\
 match r with
 | some _=>amtake s x.kd (constMV nilV) x.k false x.y (some x.d2) (fun sB=>amappT x K (sB.put (some x.d1) .any [] [])) (.mref h)
 | none=>amput s x.kd x.y (.const nilV) (fun sM=>amappT x K (((sM.put (some x.d2) (.fl []) [] []).own0 x.d2 x.k).put (some x.d1) .any [] [])) (.mref h)

inductive RCode where
 | skip
 | reg (draw:Bool) (ros:List RO)
 | regS (lst:Bool) (ros:List RO)
 | regY (ros:List RO)
 | regP (ros:List RO)
 | regN (ros:List RO)
 | regM (ros:List RO) (x:MA)
 | regDP (ros:List RO)
 | sem (N:Nat) (c:Code)
 | seq (a b:RCode)
 | cond (c:Operand) (a b:RCode)
 | block (id:Nat) (b:RCode)
 | loop (b:RCode)
 | exit (id:Nat)
 | scope (b:RCode)
 | wkr (b:RCode)
 | ret
 deriving Inhabited

def Wk (s s':AState):Prop:=∀ E a w,ASim E s a w->ASim E s' a w
theorem Wk.refl (s:AState):Wk s s:=fun _ _ _ h=>h
theorem Wk.trans {s s' s'':AState} (h:Wk s s') (h':Wk s' s''):Wk s s'':=fun E a w q=>h' E a w (h E a w q)

def exSeq (next:AState->Prop) (Q:Exit->AState->Prop):Exit->AState->Prop
 | .normal,s=>next s
 | e,s=>Q e s
def exBlock (id:Nat) (Q:Exit->AState->Prop):Exit->AState->Prop
 | .exit i,s=>if i=id then Q .normal s else Q (.exit i) s
 | e,s=>Q e s
def exScope (Q:Exit->AState->Prop):Exit->AState->Prop
 | .goto _,_=>False
 | e,s=>Q e s

def acond (Ka Kb:Prop):AV->Prop
 | .D (.B x)=>(x=true->Ka)/\(x=false->Kb)
 | .ab=>Ka/\Kb
 | _=>False

def keepH (ld:Bool) (hs:List Hd) (s s':AState):Prop:=∀ h ∈ hs,keepB ld (s.lk h) (s'.lk h)
def hasLd (ros:List RO):Bool:=ros.any fun r=>isLd r.op
def ldOk (hs:List Hd) (op:ROp) (ev:Operand->AV):Prop :=
 match op.sArg with
 | some x=>∀ h,(ev x).hd?=some h->h ∈ hs
 | none=>True
def aopsS (P:Program) (ld:Bool) (hs:List Hd) (lst:Bool):List RO->AState->(AState->Prop)->Prop
 | [],s,K=>K s
 | ro :: r,s,K=>ldOk hs ro.op s.ev/\aops P [ro] s fun s'=>(ro.op.ht=true->lst=false\/r ≠ []->keepH ld hs s s')/\aopsS P ld hs lst r s' K

structure Yh where
 plain:Bool
 f:Nat->List AV->AState->(Bool->AState->Prop)->Prop
def noY:Yh:=⟨true,fun _ _ _ _=>False⟩
def bodyY:Yh:=⟨false,fun _ _ _ _=>False⟩
def YOk (P:Program) (r:Option Nat) (E:Ent) (Y:Yh):Prop:=(Y.plain=true->r=none/\E.nd=false/\E.dt=[])/\∀ (l:Nat) (args:List AV) (s:AState) (K:Bool->AState->Prop) (a:Act) (w:World) (vs:List Value) (G:Gh) (m:HM),
 Y.f l args s K->AtS E G m s a w->AV.RepL G m args vs->YieldAt (FR r) 0 P l vs.toArray w fun e w'=>∃ c s',e=.returned (.bool c)/\K c s'/\ASim E s' a w'
theorem YOk.none {P:Program} {E:Ent} (h:E.nd=false) (h':E.dt=[]):YOk P (Option.none:Option Nat) E noY:=⟨fun _=>⟨rfl,h,h'⟩,fun _ _ _ _ _ _ _ _ _ h=>False.elim h⟩
theorem YOk.body {P:Program} {r:Option Nat} {E:Ent}:YOk P r E bodyY:=⟨fun h=>(by cases h),fun _ _ _ _ _ _ _ _ _ h=>False.elim h⟩

def yst (s:AState) (ro:RO):Option (Nat × List AV) :=
 match ro.op with
 | .callE f args=>match s.ev f with
  | .yld l=>some (l,args.map s.ev)
  | _=>none
 | _=>none
def aopsY (P:Program) (Y:Yh):List RO->AState->(AState->Prop)->Prop
 | [],s,K=>K s
 | ro :: r,s,K =>
  match yst s ro with
  | none=>aops P [ro] s fun s'=>aopsY P Y r s' K
  | some (l,args)=>match ro.guard with
   | none=>Y.f l args s fun c s'=>aopsY P Y r (s'.put ro.dst (.D (.B c)) [] []) K
   | some (t,want)=>match s.env t with
    | .D (.B x)=>(x=want->Y.f l args s fun c s'=>aopsY P Y r (s'.put ro.dst (.D (.B c)) [] []) K)/\(¬ x=want->aopsY P Y r (s.put ro.dst .un [] []) K)
    | .D (.C (.tuple _))=>aopsY P Y r (s.put ro.dst .un [] []) K
    | _=>False

def cpost (E:Ent) (Q:Exit->AState->Prop):Exit->Act->World->Prop:=fun e a w=>∃ s,Q e s/\ASim E s a w

def unrF (A:(Exit->AState->Prop)->AState->Prop) (Q:Exit->AState->Prop):Nat->AState->Prop
 | 0,_=>False
 | n + 1,s=>A (exSeq (unrF A Q n) Q) s
def acode (P:Program) (Y:Yh):RCode->(Exit->AState->Prop)->AState->Prop
 | .skip,Q,s=>Q .normal s
 | .reg _ ros,Q,s=>aops P ros s (Q .normal)
 | .regS lst ros,Q,s=>∃ hs,aopsS P (hasLd ros) hs lst ros s (Q .normal)
 | .regY ros,Q,s=>aopsY P Y ros s (Q .normal)
 | .regN ros,Q,s=>aopsN P ros s (Q .normal)
 | .regM ros x,Q,s=>aops P ros s fun s'=>amapp x s' (Q .normal)
 | .regP ros,Q,s=>aopsP P false ros s (Q .normal) fun v s'=>Q (.panic [{ v:=v,recovered:=false }]) s'
 | .regDP ros,Q,s=>aopsP P true ros s (Q .normal) fun v s'=>Q (.panic [{ v:=v,recovered:=false }]) (maskR ros s')
 | .sem N c,Q,s=>Y.plain=true/\∀ (E:Ent) (a:Act) (w:World),YOk P none E Y->E.N=N->ASim E s a w->c.wpIn (FR none) 0 P (cpost E Q) a w
 | .seq a b,Q,s=>acode P Y a (exSeq (acode P Y b Q) Q) s
 | .cond c a b,Q,s=>acond (acode P Y a Q s) (acode P Y b Q s) (s.ev c)
 | .block id b,Q,s=>acode P Y b (exBlock id Q) s
 | .loop b,Q,s=>(∃ (I:Nat->AState->Prop) (n:Nat) (s0:AState),Wk s s0/\I n s0/\∀ n s,I n s->acode P Y b (exSeq (fun s'=>∃ n' s'',n' < n/\Wk s' s''/\I n' s'') Q) s)\/∃ (n:Nat) (s0:AState),Wk s s0/\unrF (acode P Y b) Q n s0
 | .exit id,Q,s=>Q (.exit id) s
 | .scope b,Q,s=>acode P Y b (exScope Q) s
 | .wkr b,Q,s=>∃ s0,Wk s s0/\acode P Y b Q s0
 | .ret,Q,s=>Q .ret s

theorem wpIn_loopG {F:Fence} {n0:Nat} {P:Program} {c:Code} {Q:Exit->Act->World->Prop} {a:Act} {w:World} (I:Nat->Act->World->Prop) (n:Nat) (h₀:I n a w)
  (round:∀ n a w,I n a w->c.wpIn F n0 P (Exit.then (fun a' w'=>∃ n',n' < n/\I n' a' w') Q) a w):(Code.loop c).wpIn F n0 P Q a w:=by
 intro b k cs hro hb hr
 have key:∀ n a w,I n a w->∃ e a' w',Q e a' w'/\ArrivesIn (Machine.fenced P F) P (lone (b.atR a (.code c :: .inLoop c :: k)) cs w) b k cs e a' w':=by
  intro n
  induction n using Nat.strongRecOn with
  | _ n ih =>
   intro a w hI
   obtain ⟨e,a₁,w₁,hq,harr⟩:=round n a w hI b (.inLoop c :: k) cs hro hb hr
   cases e with
   | normal =>
    obtain ⟨n',hlt,hI₁⟩:=hq
    obtain ⟨e₂,a₂,w₂,hq₂,harr₂⟩:=ih n' hlt a₁ w₁ hI₁
    exact ⟨e₂,a₂,w₂,hq₂,.of_steps (StepsIn.trans harr (.one (fenced_calm hb hr rfl) stepR_inLoop)) harr₂⟩
   | exit id=>exact ⟨_,a₁,w₁,hq,.pass (x:=.inLoop c) rfl (fun _ _=>.inl (by simp)) harr⟩
   | goto l=>exact ⟨_,a₁,w₁,hq,.pass (x:=.inLoop c) rfl (fun _ _=>.inl (by simp)) harr⟩
   | ret=>exact ⟨_,a₁,w₁,hq,.pass (x:=.inLoop c) rfl (fun _ _=>.inl (by simp)) harr⟩
   | panic ch=>exact ⟨_,a₁,w₁,hq,.pass (x:=.inLoop c) rfl (fun _ _=>.inl (by simp)) harr⟩
   | outgrown=>exact ⟨_,a₁,w₁,hq,.pass (x:=.inLoop c) rfl (fun _ _=>.inl (by simp)) harr⟩
 obtain ⟨e,a',w',hq,harr⟩:=key n a w h₀
 exact ⟨e,a',w',hq,.of_steps (.one (fenced_calm hb hr rfl) stepR_loop) harr⟩

def CodeOk (P:Program) (N:Nat) (c:Code) (rc:RCode):Prop :=
 ∀ (r:Option Nat) (Y:Yh) (E:Ent) (Q:Exit->AState->Prop) (s:AState) (a:Act) (w:World),YOk P r E Y->E.N=N->acode P Y rc Q s->ASim E s a w->c.wpIn (FR r) 0 P (cpost E Q) a w

theorem CodeOk.skip {P:Program} {N:Nat}:CodeOk P N .skip .skip:=fun _ _ _ _ _ _ _ _ _ h hA=>wpIn_skip ⟨_,h,hA⟩
theorem CodeOk.label {P:Program} {N l:Nat}:CodeOk P N (.label l) .skip:=fun _ _ _ _ _ _ _ _ _ h hA=>wpIn_label ⟨_,h,hA⟩
theorem CodeOk.exit {P:Program} {N id:Nat}:CodeOk P N (.exit id) (.exit id):=fun _ _ _ _ _ _ _ _ _ h hA=>wpIn_exit ⟨_,h,hA⟩
theorem CodeOk.ret {P:Program} {N:Nat}:CodeOk P N .ret .ret:=fun _ _ _ _ _ _ _ _ _ h hA=>wpIn_ret ⟨_,h,hA⟩
theorem CodeOk.seq {P:Program} {N:Nat} {c d:Code} {rc rd:RCode} (hc:CodeOk P N c rc) (hd:CodeOk P N d rd):CodeOk P N (.seq c d) (.seq rc rd):=fun r Y E Q s a w hY hN h hA=>by
 refine wpIn_seq (wpIn_mono (hc r Y E _ s a w hY hN h hA) fun e a' w' ⟨s',hq,hA'⟩=>?_)
 cases e with
 | normal=>exact hd r Y E Q s' a' w' hY hN hq hA'
 | _=>exact ⟨s',hq,hA'⟩
theorem CodeOk.cond {P:Program} {N:Nat} {x:Operand} (hxN:x.inN N=true) {c d:Code} {rc rd:RCode} (hc:CodeOk P N c rc) (hd:CodeOk P N d rd):CodeOk P N (.cond x c d) (.cond x rc rd):=fun r Y E Q s a w hY hN h hA=>by
 obtain ⟨G,m,hA'⟩:=hA
 subst hN
 have hr:=hA'.evs x hxN
 have h':acond (acode P Y rc Q s) (acode P Y rd Q s) (s.ev x):=h
 generalize hx:s.ev x=ax at h' hr
 unfold acond at h'
 split at h'
 ·exact wpIn_cond_split (rep_B hr) (fun e=>hc r Y E Q s a w hY rfl (h'.1 e) ⟨G,m,hA'⟩) (fun e=>hd r Y E Q s a w hY rfl (h'.2 e) ⟨G,m,hA'⟩)
 ·unfold AV.Rep at hr
  obtain ⟨b,hb⟩:=hr
  exact wpIn_cond_split hb (fun _=>hc r Y E Q s a w hY rfl h'.1 ⟨G,m,hA'⟩) (fun _=>hd r Y E Q s a w hY rfl h'.2 ⟨G,m,hA'⟩)
 ·exact h'.elim
theorem CodeOk.block {P:Program} {N id:Nat} {c:Code} {rc:RCode} (hc:CodeOk P N c rc):CodeOk P N (.block id c) (.block id rc):=fun r Y E Q s a w hY hN h hA=>by
 refine wpIn_block (wpIn_mono (hc r Y E _ s a w hY hN h hA) fun e a' w' ⟨s',hq,hA'⟩=>?_)
 cases e with
 | exit i =>
  simp only [exBlock] at hq
  simp only [Exit.inBlock]
  split at hq
  ·rename_i e;rw [if_pos e];exact ⟨s',hq,hA'⟩
  ·rename_i e;rw [if_neg e];exact ⟨s',hq,hA'⟩
 | _=>exact ⟨s',hq,hA'⟩
theorem CodeOk.scope {P:Program} {N:Nat} {c:Code} {rc:RCode} (hc:CodeOk P N c rc):CodeOk P N (.scope c) (.scope rc):=fun r Y E Q s a w hY hN h hA=>by
 refine wpIn_scope_straight (wpIn_mono (hc r Y E _ s a w hY hN h hA) fun e a' w' ⟨s',hq,hA'⟩=>?_)
 cases e with
 | goto l=>exact hq.elim
 | _=>exact ⟨s',hq,hA'⟩
theorem CodeOk.loop {P:Program} {N:Nat} {c:Code} {rc:RCode} (hc:CodeOk P N c rc):CodeOk P N (.loop c) (.loop rc):=fun r Y E Q s a w hY hN h hA=>by
 rcases h with ⟨I,n,s0,hw,hI,hround⟩ | ⟨n,s0,hw,hI⟩
 case inr =>
  refine wpIn_loopG (fun n a w=>∃ s,unrF (acode P Y rc) Q n s/\ASim E s a w) n ⟨s0,hI,hw E a w hA⟩ fun n a w ⟨s,hs,hA⟩=>?_
  cases n with
  | zero=>exact hs.elim
  | succ n =>
   refine wpIn_mono (hc r Y E _ s a w hY hN hs hA) fun e a' w' ⟨s',hq,hA'⟩=>?_
   cases e with
   | normal=>exact ⟨n,Nat.lt_succ_self n,s',hq,hA'⟩
   | _=>exact ⟨s',hq,hA'⟩
 refine wpIn_loopG (fun n a w=>∃ s,I n s/\ASim E s a w) n ⟨s0,hI,hw E a w hA⟩ fun n a w ⟨s,hs,hA⟩=>?_
 refine wpIn_mono (hc r Y E _ s a w hY hN (hround n s hs) hA) fun e a' w' ⟨s',hq,hA'⟩=>?_
 cases e with
 | normal =>
  obtain ⟨n',s'',h1,h2,h3⟩:=hq
  exact ⟨n',h1,s'',h3,h2 E a' w' hA'⟩
 | _=>exact ⟨s',hq,hA'⟩
theorem CodeOk.region {P:Program} {N id:Nat} {ops:Array Oper} {ros:List RO} (h:ResL P ops N ops.toList ros):CodeOk P N (.region id ops false) (.reg false ros):=fun r Y E Q s a w hY hN hc hA=>by
 subst hN
 exact wpIn_region_list (aops_seq h hc hA fun s' a' w' hq hA'=>⟨s',hq,hA'⟩)

theorem evs_list {E:Ent} {G:Gh} {m:HM} {s:AState} {a:Act} {w:World} (h:AtS E G m s a w):∀ (xs:List Operand),(∀ x ∈ xs,x.inN E.N=true)->AV.RepL G m (xs.map s.ev) (xs.map a.eval)
 | [],_=>by simp [AV.RepL]
 | x :: xs,hx=>by
  rw [List.map_cons,List.map_cons]
  unfold AV.RepL
  exact ⟨_,_,rfl,h.evs x (hx x (by simp)),evs_list h xs fun y hy=>hx y (by simp [hy])⟩

theorem yield_step {r:Option Nat} {P:Program} {Y:Yh} {ops:Array Oper} {E:Ent} (hY:YOk P r E Y) {Q:Exit->Act->World->Prop} {next:Act->World->Prop} {o:Oper} {ro:RO} {s:AState} {a:Act} {w:World} (h1:ResO P ops E.N o ro) {l:Nat} {args:List AV}
  (hy:yst s ro=some (l,args)) {K:Bool->AState->Prop} (h:Y.f l args s K) (hA:ASim E s a w) (hQ:∀ c s' a' w',K c s'->ASim E (s'.put ro.dst (.D (.B c)) [] []) a' w'->next a' w'):o.wpIn (FR r) 0 P a w next Q:=by
 obtain ⟨G,m,hA⟩:=hA
 unfold yst at hy
 split at hy
 ·rename_i f xs hop
  split at hy
  ·rename_i l' hl
   cases hy
   obtain ⟨b,op0,hres,hm⟩:=h1.op.resolve_left (fun e=>by rw [hop] at e;cases e)
   rw [hop] at hm
   have hxs:=h1.xs
   rw [hop] at hxs
   rcases mark_call hm with e | e
   ·rw [e] at hres
    obtain ⟨c,ho,hc,hca⟩:=res_call hres
    have hf:=hA.evs f (hxs f (by simp [ROp.operands]))
    rw [hl] at hf
    unfold AV.Rep at hf
    obtain ⟨fn,tmps,assign,body,g1,g2⟩:=hY.2 l _ s K a w _ G m h hA (evs_list hA xs fun x hx=>hxs x (by simp [ROp.operands,hx]))
    have hargs:c.args.map a.eval=(xs.map a.eval).toArray:=by
     apply Array.ext'
     simp [hca]
    have hrun:(o.semAt r a.eval).run P w=.ok (.round l fn tmps assign body) w:=by
     rw [Oper.semAt_eq _ _ _ (fun c' e'=>by rw [ho] at e';cases e')]
     simp only [execOp,ho,resolve,hc,hf,Deferred.ofValue,Sem.run_bind,Sem.run_pure,Result.andThen_ok,invoke,callFunc,hargs]
     simpa using g1
    unfold Oper.wpIn
    refine ⟨fun f _=>FR_fn r f,?_⟩
    show o.uponIn (FR r) 0 P a next Q ((o.semAt r a.eval).run P w)
    rw [hrun,Oper.uponIn_round]
    refine ⟨fun hd=>by simp [FR,Fence.wide] at hd,g2.mono ?_⟩
    rintro e w' ⟨c,s',rfl,hK,G',m',hA'⟩
    refine hQ c s' _ w' hK ?_
    rw [<- h1.dst]
    exact hA'.step (fun d hd=>h1.lt d (by rw [<- h1.dst];exact hd)) (PPost.val hA'.sim (by unfold AV.Rep DV.Rep;rfl))
   ·rw [e] at hres;exact (no_callE hres).elim
  ·cases hy
 ·cases hy

theorem aopsY_seq {r:Option Nat} {P:Program} {Y:Yh} {ops:Array Oper} {E:Ent} (hY:YOk P r E Y) {Q:Exit->Act->World->Prop}:∀ {os:List Oper} {ros:List RO} {s:AState} {a:Act} {w:World} {K:AState->Prop},ResL P ops E.N os ros->aopsY P Y ros s K->ASim E s a w ->
  (∀ s' a' w',K s'->ASim E s' a' w'->Q .normal a' w')->wpListIn (FR r) 0 P ops Q os a w
 | [],[],s,a,w,K,_,h,hA,hQ=>hQ _ _ _ h hA
 | [],_ :: _,_,_,_,_,hr,_,_,_=>hr.elim
 | _ :: _,[],_,_,_,_,hr,_,_,_=>hr.elim
 | o :: os,ro :: ros,s,a,w,K,hr,h,hA,hQ=>by
  obtain ⟨h1,h2⟩:=hr
  unfold aopsY at h
  split at h
  ·exact aops_step h1 h hA fun s' a' w' hK hA'=>aopsY_seq hY h2 hK hA' hQ
  ·rename_i l args hy
   have hgo:=h1.guard
   show wpListIn (FR r) 0 P ops Q (o :: os) a w
   unfold wpListIn
   have run:Region.wanted o (yielded ops a.tmps)=true->(Y.f l args s fun c s'=>aopsY P Y ros (s'.put ro.dst (.D (.B c)) [] []) K)->(if Region.wanted o (yielded ops a.tmps)=true then o.wpIn (FR r) 0 P a w (wpListIn (FR r) 0 P ops Q os) Q else (∀ f,o.about P w a.eval=some f->(FR r).fn f)/\wpListIn (FR r) 0 P ops Q os (a.put o.dst undef) w):=fun hw hf=>by
    rw [if_pos hw]
    exact yield_step hY h1 hy hf hA fun c s' a' w' hK hA'=>aopsY_seq hY h2 hK hA' hQ
   have skip:Region.wanted o (yielded ops a.tmps)=false->aopsY P Y ros (s.put ro.dst .un [] []) K->(if Region.wanted o (yielded ops a.tmps)=true then o.wpIn (FR r) 0 P a w (wpListIn (FR r) 0 P ops Q os) Q else (∀ f,o.about P w a.eval=some f->(FR r).fn f)/\wpListIn (FR r) 0 P ops Q os (a.put o.dst undef) w):=fun hw hf=>by
    rw [if_neg (by rw [hw];simp)]
    refine ⟨fun f _=>FR_fn r f,?_⟩
    obtain ⟨G,m,hA'⟩:=hA
    exact aopsY_seq hY h2 hf (by rw [h1.dst];exact hA'.skip h1.lt) hQ
   cases hog:o.guard with
   | none =>
    rw [hog] at hgo
    simp only at hgo
    rw [hgo] at h
    exact run (by simp [Region.wanted,hog]) h
   | some g =>
    obtain ⟨j,want⟩:=g
    rw [hog] at hgo
    obtain ⟨t,ht,htN,hg⟩:=hgo
    rw [hg] at h
    simp only at h
    have hA0:=hA
    obtain ⟨G,m,hA'⟩:=hA0
    have hrep:=hA'.env t
    rw [Ent.val_lt htN] at hrep
    have hy:yielded ops a.tmps j=match a.tmps.getD t undef with | .bool b=>some b | _=>none:=by
     unfold yielded
     rw [ht]
     simp only [Option.bind_some,Array.getD_eq_getD_getElem?]
     cases a.tmps[t]? with
     | none=>rfl
     | some v=>cases v <;> rfl
    split at h
    ·rename_i c hc
     rw [hc] at hrep
     have hv:=rep_B hrep
     rw [hv] at hy
     have hw:Region.wanted o (yielded ops a.tmps)=(c == want):=by
      simp only [Region.wanted,hog,hy]
      cases c <;> cases want <;> rfl
     by_cases e:c=want
     ·exact run (by rw [hw];simpa using e) (h.1 e)
     ·exact skip (by rw [hw];simpa using e) (h.2 e)
    ·rename_i v hc
     rw [hc] at hrep
     unfold AV.Rep DV.Rep at hrep
     rw [hrep] at hy
     exact skip (by simp only [Region.wanted,hog,hy];rfl) h
    ·exact h.elim

theorem CodeOk.regionY {P:Program} {N id:Nat} {ops:Array Oper} {ros:List RO} (h:ResL P ops N ops.toList ros):CodeOk P N (.region id ops false) (.regY ros):=fun r Y E Q s a w hY hN hc hA=>by
 subst hN
 exact wpIn_region_list (aopsY_seq hY h hc hA fun s' a' w' hq hA'=>⟨s',hq,hA'⟩)

theorem mark_callP {b:Mk} {op0:ROp} {f:Operand} {args:List Operand} (h:ROp.callP f args=markE b op0):op0=.call f args\/op0=.callP f args:=by
 cases b <;> cases op0 <;> first | (cases h;done) | (cases h;exact .inl rfl) | (cases h;exact .inr rfl)
theorem no_callP {P:Program} {o:Oper} {f:Operand} {args:List Operand} (h:resolveOp P o=some (.callP f args)):False:=by
 cases ho:o.op
 case field=>simp only [resolveOp,ho,Option.bind_eq_some_iff] at h;obtain ⟨f,_,h⟩:=h;split at h <;> cases h
 all_goals (simp only [resolveOp,ho] at h;(repeat' split at h) <;> simp_all [Option.bind_eq_some_iff,Option.map_eq_some_iff,Option.ite_none_right_eq_some])
theorem mark_pan {b:Mk} {op0:ROp} {x:Operand} (h:ROp.pan x=markE b op0):op0=.pan x:=by
 cases b <;> cases op0 <;> first | (cases h;done) | (cases h;rfl)
theorem res_pan {P:Program} {o:Oper} {x:Operand} (h:resolveOp P o=some (.pan x)):o.op=.panic x:=by
 cases ho:o.op
 case panic y=>simp only [resolveOp,ho,Option.some.injEq] at h;cases h;rfl
 case field=>exfalso;simp only [resolveOp,ho,Option.bind_eq_some_iff] at h;obtain ⟨f,_,h⟩:=h;split at h <;> cases h
 all_goals (exfalso;simp only [resolveOp,ho] at h;(repeat' split at h) <;> simp_all [Option.bind_eq_some_iff,Option.map_eq_some_iff,Option.ite_none_right_eq_some])
theorem ResO.guardN {P:Program} {ops:Array Oper} {N:Nat} {o:Oper} {ro:RO} (hr:ResO P ops N o ro) (h:ro.guard=none):o.guard=none:=by
 have hg:=hr.guard
 cases hog:o.guard with
 | none=>rfl
 | some g =>
  obtain ⟨j,want⟩:=g
  rw [hog] at hg
  obtain ⟨t,_,_,e⟩:=hg
  rw [h] at e;cases e
theorem callP_pan {r:Option Nat} {P:Program} {o:Oper} {c:Call} {f:Operand} {fn:FuncId} {vs:Array Value} {a:Act} {w:World} {pv:Value} {R:Value->World->Prop} {next:Act->World->Prop} {Q:Exit->Act->World->Prop} (ho:o.op=.call c) (hc:c.callee=.value f) (hv:a.eval f=.func (.func fn) #[] vs)
  (h:PanDoes P fn pv (c.args.map a.eval ++ vs) w R) (hQ:∀ v w',R v w'->Q (.panic [{ v:=pv,recovered:=false }]) a w'):o.wpIn (FR r) 0 P a w next Q:=by
 obtain ⟨⟨fd,h1,h2,h3⟩,h⟩:=h
 have hnone:fd.body.isNone=false:=by rw [Option.isNone_eq_false_iff];exact h2
 have hrun:(execOp a.eval o).run P w=.ok (.enter fn (c.args.map a.eval ++ vs)) w:=by
  simp only [execOp,ho,resolve,hc,hv,Deferred.ofValue,Sem.run_bind,Sem.run_pure,Result.andThen_ok,invoke,callFunc,run_program,h1,h3,hnone,Bool.false_eq_true,if_false]
  simp
 have hnd:∀ c,o.op ≠ .defer c:=fun c' e=>by rw [ho] at e;cases e
 unfold Oper.wpIn
 refine ⟨fun f _=>FR_fn r f,?_⟩
 rw [Oper.semAt_eq _ _ _ hnd,hrun]
 refine ⟨fun hd=>by simp [FR,Fence.wide] at hd,callsFR (h.mono ?_)⟩
 rintro e w'' ⟨rfl,hr⟩
 exact hQ _ _ hr
theorem aopsP_seq {r:Option Nat} {P:Program} {dr:Bool} {ops:Array Oper} {E:Ent} {Q:Exit->Act->World->Prop}:∀ {os:List Oper} {ros:List RO} {s:AState} {a:Act} {w:World} {K:AState->Prop} {Pn:Value->AState->Prop},ResL P ops E.N os ros->aopsP P dr ros s K Pn->ASim E s a w ->
  (∀ s' a' w',K s'->ASim E s' a' w'->Q .normal a' w')->(∀ v s' a' w',Pn v s'->ASim E s' a' w'->Q (.panic [{ v:=v,recovered:=false }]) a' w')->wpListIn (FR r) 0 P ops Q os a w
 | [],[],s,a,w,K,Pn,_,h,hA,hQ,_=>hQ _ _ _ h hA
 | [],_ :: _,_,_,_,_,_,hr,_,_,_,_=>hr.elim
 | _ :: _,[],_,_,_,_,_,hr,_,_,_,_=>hr.elim
 | o :: os,ro :: ros,s,a,w,K,Pn,hr,h,hA,hQ,hP=>by
  have gen:aops P [ro] s (fun s'=>aopsP P dr ros s' K Pn)->wpListIn (FR r) 0 P ops Q (o :: os) a w:=fun h =>
   aops_step (K:=fun s'=>aopsP P dr ros s' K Pn) hr.1 h hA fun s' a' w' hK hA'=>aopsP_seq hr.2 hK hA' hQ hP
  unfold aopsP at h
  split at h
  ·rename_i f args heq
   obtain ⟨hg,fn,caps,hf,h⟩:=h
   obtain ⟨b,op0,hop,hmk⟩:=hr.1.op.resolve_left (fun e=>by rw [heq] at e;cases e)
   rw [heq] at hmk
   rcases mark_callP hmk with e | e
   case inr=>rw [e] at hop;exact (no_callP hop).elim
   rw [e] at hop
   obtain ⟨c,ho,hc,rfl⟩:=res_call hop
   have hxs:=hr.1.xs
   rw [heq] at hxs
   unfold wpListIn
   rw [if_pos (by simp [Region.wanted,hr.1.guardN hg])]
   obtain ⟨G,m,hA'⟩:=hA
   have hrf:=hA'.evs f (hxs f (by simp [ROp.operands]))
   rw [hf] at hrf
   unfold AV.Rep at hrf
   obtain ⟨vs,hv,hcaps⟩:=hrf
   have hargs:AV.RepL G m (c.args.toList.map s.ev) (c.args.toList.map a.eval):=AV.RepL_map (fun x hx=>hA'.evs x (hxs x (by simp only [ROp.operands,List.mem_cons];exact .inr hx)))
   have hrep:AV.RepL G m (c.args.toList.map s.ev ++ caps) (c.args.map a.eval ++ vs).toList:=by
    rw [Array.toList_append,Array.toList_map];exact AV.RepL_append hargs hcaps
   rcases h with ⟨rr,nbs,_,hcall,hK⟩ | ⟨pv,hpan,hK⟩
   ·refine does_wpIn (does_call ho hc hv (pcall (ks:=[]) (n:=s.nx) hcall (LkSame.refl _) hA'.sim hrep (fun j hj=>hA'.fresh _ (by omega)))) fun v w' hp=>?_
    refine aopsP_seq hr.2 hK ?_ hQ hP
    rw [hr.1.dst]
    exact hA'.step hr.1.lt hp
   ·refine callP_pan ho hc hv (ppan (n:=s.nx) hpan (LkSame.refl _) hA'.sim hrep) fun v w' hp=>?_
    refine hP pv _ _ _ hK ?_
    exact hA'.step (dst:=none) (fun d hd=>by cases hd) hp
  ·rename_i x heq
   obtain ⟨hg,t,v,hx,hK⟩:=h
   obtain ⟨b,op0,hop,hmk⟩:=hr.1.op.resolve_left (fun e=>by rw [heq] at e;cases e)
   rw [heq] at hmk
   rw [mark_pan hmk] at hop
   have ho:=res_pan hop
   have hxs:=hr.1.xs
   rw [heq] at hxs
   unfold wpListIn
   rw [if_pos (by simp [Region.wanted,hr.1.guardN hg])]
   obtain ⟨G,m,hA'⟩:=hA
   have hrx:=hA'.evs x (hxs x (by simp [ROp.operands]))
   rw [hx] at hrx
   unfold AV.Rep DV.Rep at hrx
   have hnd:∀ c,o.op ≠ .defer c:=fun c' e=>by rw [ho] at e;cases e
   unfold Oper.wpIn
   refine ⟨fun f _=>FR_fn r f,?_⟩
   have hrun:(execOp a.eval o).run P w=.halt (.panic (.iface t v)) w:=by
    simp [execOp,ho,hrx,Instr.panic,goPanic]
   rw [Oper.semAt_eq _ _ _ hnd,hrun]
   exact hP _ _ _ _ hK ⟨G,m,hA'⟩
  ·exact gen h
theorem CodeOk.regionP {P:Program} {N id:Nat} {ops:Array Oper} {ros:List RO} (h:ResL P ops N ops.toList ros):CodeOk P N (.region id ops false) (.regP ros):=fun r Y E Q s a w hY hN hc hA=>by
 subst hN
 exact wpIn_region_list (aopsP_seq h hc hA (fun s' a' w' hq hA'=>⟨s',hq,hA'⟩) (fun v s' a' w' hq hA'=>⟨s',hq,hA'⟩))
end Go.Eng


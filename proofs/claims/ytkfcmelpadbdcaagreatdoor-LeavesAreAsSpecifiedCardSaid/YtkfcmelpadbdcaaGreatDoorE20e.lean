/- Texts of this claim. -/
import Derived.Test.YtkfcmelpadbdcaaGreatDoorE20d
import Derived.RecoverIn
set_option linter.all false
set_option linter.unusedSimpArgs false
set_option linter.unusedVariables false
namespace Go.Eng
open Go.RowKit

def AOut (P:Program) (f:FuncId) (args:List AV) (pv:Value):Option (AV × List Blk)->Prop
 | some p=>ACall P f args [] p.1 [] p.2
 | none=>APan P f args pv
theorem endP_ok {P:Program} {N:Nat} {E:Ent} {w:World} {G:Gh} {m:HM} {bs':List (Option Blk)} {n:Nat} {bs:List (Option Blk)} (h0:E.w0=w) (h1:E.G0=G) (h2:E.m0=m) (hN:E.N=N) (hS:Sim G m (lkOf bs []) w) {G1:Gh} {m1:HM} {s:AState} {a':Act} {w':World} (hA':AtS E G1 m1 s a' w')
  (hn:bs.length=n) (hbs:((List.range n).map fun i=>(s.bs i).map (Blk.conv s.lk (phi [])))=bs'):APost w G m (lkOf bs' []) .any undef w':=by
 subst hn
 obtain ⟨v,_,G2,m2,a1,a2,a3,a4,a5,a6⟩:=end_ok (P:=P) (fn:={ (default:Func) with ntmps:=N,results:=#[] }) (rs:=[]) (r:=.tup []) (bs':=bs') (nbs:=[]) ⟨fun x hx=>by simp at hx,rfl⟩ h0 h1 h2 hN hS hA' (e:=.ret) ⟨.inr rfl,[],.tup [],List.nodup_nil,rfl,rfl,hbs,rfl⟩
 exact ⟨G2,m2,a1,rep_any,a3,a4,a5,a6⟩

def DRec (P:Program) (f:FuncId) (args:List AV) (bs:List (Option Blk)) (u u1:FrameMode) (bs':List (Option Blk)):Prop :=
 FnOk P f/\∀ (w:World) (G:Gh) (m:HM) (vs:Array Value),Sim G m (lkOf bs []) w->(∀ i,m (.O i)=none)->AV.RepL G m args vs.toList ->
  CallsDIn (FR none) 0 P f vs u w fun e u' w'=>u'=u1/\∃ v,e=.returned v/\APost w G m (lkOf bs' []) .any v w'
def RecTo (u u1:FrameMode) (pv:Value):Prop:=∀ (c0:Frame) (cs:List Frame),c0.mode=u->(recoverD (c0 :: cs)=none/\pv=.nilIface/\u1=u)\/recoverD (c0 :: cs)=some (pv,{ c0 with mode:=u1 } :: cs)
theorem recTo_ret:RecTo .returning .returning .nilIface:=fun c0 cs h=>.inl ⟨by simp [recoverD,h],rfl,rfl⟩
theorem recTo_pan {pv:Value}:RecTo (.panicking [{ v:=pv,recovered:=false }]) (.panicking [{ v:=pv,recovered:=true }]) pv:=fun c0 cs h=>.inr (by simp [recoverD,h])

def recS (args:List AV) (bs:List (Option Blk)) (t:Nat) (v:Value):AState:=(entry args bs).put (some t) (.D (.C v)) [] []
theorem DRec.of_body {P:Program} (fl:List Nat) {f:FuncId} {fn:Func} {id t:Nat} {o:Oper} {cl:Call} {rest:Code} {rc:RCode} {rs:List RRes} {args:List AV} {bs bs':List (Option Blk)} {u u1:FrameMode} {pv:Value} {r:AV}
  (hf : P.funcs[f]? = some fn) (hb : fn.body = some (.seq (.region id #[o] false) rest)) (hname : (fn.name == "runtime.NumGoroutine") = false)
  (ho:o.op=.call cl) (hcl:cl.callee=.builtin .recover) (hca:cl.args=#[]) (hog:o.guard=none) (hot:o.dst=some t) (ht:t < fn.ntmps) (hm:P.follows .mixedOrders=true) (hrc:resolveCode P fl fn.ntmps rest=some rc) (hrs:resolveResN P fn.ntmps fn.results.toList=some rs)
  (hn:args.length <= fn.ntmps) (hrec:RecTo u u1 pv) {s0:AState} (hw0:Wk (recS args bs t pv) s0) (h:acode P bodyY rc (AEndW bs.length rs r bs' []) s0):DRec P f args bs u u1 bs':=by
 have hrs0:=resN_of hrs
 refine ⟨⟨fn,hf,by rw [hb];rfl,hname⟩,fun w G m vs hS hO hA=>callsDIn_of_wpSIn hf hb (FR_fn none f) fun c0 cs hu=>?_⟩
 refine wpSIn_seq (wpSIn_region ?_)
 have hnd:∀ c,o.op ≠ .defer c:=fun c e=>by rw [ho] at e;cases e
 have hrun:∀ ρ:Operand->Value,(execOp ρ o).run P w=.ok .recover w:=fun ρ=>by
  simp [execOp,ho,resolve,hcl,hca,invoke,builtin]
 have hent:=entry_ok true hn hS hO hA
 have hsim:∀ pv',pv'=pv->ASim { w0:=w,G0:=G,m0:=m,N:=fn.ntmps,nd:=true:Ent } (recS args bs t pv) (({ tmps:=vs ++ Array.replicate (fn.ntmps - vs.size) undef,defers:=[] }:Act).put (some t) pv') w:=fun pv' e=>by
  subst e
  exact hent.step (dst:=some t) (fun d hd=>by cases hd;exact ht) (PPost.val hent.sim (by unfold AV.Rep DV.Rep;rfl))
 have key:∀ (a:Act),ASim { w0:=w,G0:=G,m0:=m,N:=fn.ntmps,nd:=true:Ent } (recS args bs t pv) a w->∀ cs1,cs1={ c0 with mode:=u1 } :: cs->rest.wpSIn (FR none) 0 P (bodyPostS P fn c0 cs fun e u' w'=>u'=u1/\∃ v,e=.returned v/\APost w G m (lkOf bs' []) .any v w') a cs1 w:=fun a ha cs1 hcs=>by
  refine wpSIn_of_wpIn rfl (wpIn_mono (resolveCode_ok hm hrc none bodyY _ _ _ _ _ YOk.body rfl h (hw0 _ _ _ ha)) fun e a' w' ⟨s00,⟨s,hw,hq⟩,hA0⟩=>?_)
  obtain ⟨G1,m1,hA'⟩:=hw _ _ _ hA0
  obtain ⟨v,hv,hp⟩:=end_ok hrs0 rfl rfl rfl rfl hS hA' hq
  have hd:a'.defers=[]:=(marks1_nil.1 hA'.defers).2.2 rfl
  have hp':APost w G m (lkOf bs' []) .any v w':=by
   obtain ⟨G2,m2,a1,_,a3⟩:=hp
   exact ⟨G2,m2,a1,rep_any,a3⟩
  rcases hq.1 with rfl | rfl <;> exact ⟨hd,u1,hcs,v,hv,rfl,v,rfl,hp'⟩
 have hab:∀ f',o.about P w (({ tmps:=vs ++ Array.replicate (fn.ntmps - vs.size) undef,defers:=[] }:Act).eval)=some f'->(FR none).fn f':=fun f' _=>FR_fn none f'
 have hw:Region.wanted o (yielded #[o] (vs ++ Array.replicate (fn.ntmps - vs.size) undef))=true:=by simp [Region.wanted,hog]
 show wpOpsSIn _ _ _ #[o] _ [0] _ _ _
 unfold wpOpsSIn
 simp only [List.getElem?_toArray,List.getElem?_cons_zero]
 refine ⟨hab,?_⟩
 rw [if_pos hw,hrun]
 rcases hrec c0 cs hu with ⟨h1,h2,h3⟩ | h1
 ·rw [h1]
  simp only
  unfold wpOpsSIn
  refine key _ ?_ _ ?_
  ·rw [hot];exact hsim _ h2.symm
  ·rw [h3,<- hu]
 ·rw [h1]
  simp only
  unfold wpOpsSIn
  refine key _ ?_ _ rfl
  rw [hot];exact hsim _ rfl

theorem leaves_marksU {P:Program} {fn:Func} {E:Ent} {G:Gh} {m:HM} {s:AState} {R:Ending->World->Prop} {tmps:Array Value} {u:FrameMode} (hu:u ≠ .run):∀ (ms:List Deferred) (w:World),AtS E G m s { tmps:=tmps,defers:=ms ++ E.dt } w->Marks (E.w0.heap.size + E.sk) E.nd ms w ->
  (∀ w',AtS E G m s { tmps:=tmps,defers:=E.dt } w'->LeavesInM (FR none) 0 P fn tmps R E.dt u w')->LeavesInM (FR none) 0 P fn tmps R (ms ++ E.dt) u w
 | [],w,h,_,hR=>hR w h
 | d :: ms,w,h,hM,hR=>by
  obtain ⟨r,rfl,hr1,hr2⟩:=hM.1 d (by simp)
  have hnd:=hM.2.1
  have hM':Marks (E.w0.heap.size + E.sk) E.nd ms (w.putObj r (.deferred none)):=by
   refine ⟨fun d' hd'=>?_,(List.nodup_cons.1 hnd).2,fun e=>by have:=hM.2.2 e;cases this⟩
   obtain ⟨r',rfl,q1,q2⟩:=hM.1 d' (by simp [hd'])
   refine ⟨r',rfl,q1,?_⟩
   rw [World.putObj_heap_other (fun e=>(List.nodup_cons.1 hnd).1 (by subst e;exact hd'))]
   exact q2
  refine ⟨hu,.inl ⟨r,w.putObj r (.deferred none),rfl,run_takeDeferred hr2,leaves_marksU hu ms _ ?_ hM' hR⟩⟩
  exact ⟨h.sim.putObj hr2 rfl,h.env,h.size,⟨ms,rfl,hM'⟩,E.Jput _ _ _ _ h.jok hr1,h.fresh,h.frame.putObj (Nat.le_trans (Nat.le_add_right _ _) hr1),h.base,h.own,h.noO,h.nxOk⟩

def DEndR (P:Program) (N n:Nat) (g:FuncId) (k:Nat) (rs:List RRes) (r:AV) (bs':List (Option Blk)) (nbs:List Blk):Exit->AState->Prop:=fun e s =>
 ∃ u u1,(((e=.normal\/e=.ret)/\u=.returning/\u1=.returning)\/∃ pv,e=.panic [{ v:=pv,recovered:=false }]/\u=.panicking [{ v:=pv,recovered:=false }]/\u1=.panicking [{ v:=pv,recovered:=true }]) /\
  ∃ hs bs2,hs.Nodup/\hsOk s.nx hs=true/\(∀ h ∈ hs,(s.lk h).any Blk.isIt=false)/\bs2.length=hs.length /\
  DRec P g (AV.convL s.lk (phiH hs) (dfrV N s k)) (handed s.lk hs) u u1 bs2/\AEndW n rs r bs' nbs .ret (afterE s hs (dfrV N s k) none .any bs2 [])

theorem ACall.of_bodyDR {P:Program} (fl:List Nat) {f:FuncId} {fn:Func} (cs:List Code) {id:Nat} {ops:Array Oper} {os:List Oper} {od:Oper} {cl:Call} {g:FuncId} {rest:Code} {rcs:List RCode} {ros:List RO} {rc:RCode} {rs:List RRes} {args:List AV} {bs:List (Option Blk)} {r:AV} {bs':List (Option Blk)} {nbs:List Blk}
  (hf : P.funcs[f]? = some fn) (hb : fn.body = some (cs.foldr Code.seq (.seq (.region id ops false) rest))) (hname : (fn.name == "runtime.NumGoroutine") = false) (hm : P.follows .mixedOrders = true)
  (hcs:resolveAll P fl fn.ntmps cs=some rcs) (hops:ops.toList=os ++ [od]) (hod:od.op=.defer cl) (hog:od.guard=none) (hdst:od.dst=none) (hcl:cl.callee=.value (.func g)) (hxs:cl.args.toList.all (Operand.inN fn.ntmps)=true)
  (hos:resolveList P fl fn.ntmps ops os=some ros) (hrest:resolveCode P fl fn.ntmps rest=some rc) (hrs:resolveResN P fn.ntmps fn.results.toList=some rs)
  (hn:args.length <= fn.ntmps) {s0:AState} (hw0:Wk (entry args bs) s0) (h:preRun P rcs (fun s=>aops P ros s fun s'=>acode P bodyY rc (DEndR P fn.ntmps bs.length g cl.args.size rs r bs' nbs) (dfrS fn.ntmps (cl.args.toList.map s'.ev) s')) (AEndW bs.length rs r bs' nbs) s0):ACall P f args bs r bs' nbs:=by
 have hrs0:=resN_of hrs
 refine fun w G m vs hS hO hA=>.inl ⟨⟨fn,hf,by rw [hb];rfl,hname⟩,callsFR' (r:=none) (n:=0) (callsIn_of_wp_marks hf hb (FR_fn none f) ?_)⟩
 have hent:=entry_ok true hn hS hO hA
 refine preRun_ok hm (N:=fn.ntmps) rfl (fun s a1 w1 hK hA1=>?_) (fun e s a1 w1 hq hA1=>?_) hcs h (hw0 _ _ _ ⟨G,m,hent⟩)
 ·refine wpIn_seq (wpIn_region_list ?_)
  rw [hops]
  refine aops_seqK (resolveList_spec hos) hK hA1 fun s' a2 w2 hq ⟨G2,m2,hA2⟩=>?_
  unfold wpListIn
  rw [if_pos (by simp [Region.wanted,hog])]
  unfold Oper.wpIn
  refine ⟨fun f' _=>FR_fn none f',?_⟩
  rw [FR_round,Oper.semAt_none]
  have hexec:(execOp a2.eval od).run P w2=.ok (.defer { target:=.fn (.func g) #[],args:=cl.args.map a2.eval }) w2:=by
   simp only [execOp,hod,resolve,hcl,Deferred.ofValue,Act.eval,Sem.run_bind]
   simp
  rw [hexec,Oper.uponIn_defer,hdst]
  unfold wpListIn
  show Exit.then _ _ .normal _ _
  show rest.wpIn _ _ _ _ _ _
  have hd0:a2.defers=[]:=(marks1_nil.1 hA2.defers).2.2 rfl
  obtain ⟨d,hd⟩:∃ d:Deferred,d={ target:=.fn (.func g) #[],args:=cl.args.map a2.eval }:=⟨_,rfl⟩
  have hrl:AV.RepL G2 m2 (cl.args.toList.map s'.ev) d.args.toList:=by
   rw [hd,Array.toList_map]
   exact AV.RepL_map fun x hx=>hA2.evs x (List.all_eq_true.1 hxs x hx)
  let E2:Ent:={ w0:=w,G0:=G,m0:=m,N:=fn.ntmps,cv:=cvLow fun i=>d.args.toList.getD i undef,dt:=[d] }
  have hE2v:∀ a t,E2.val a (fn.ntmps + 1 + t)=d.args.toList.getD t undef:=fun a t=>val_low (E:=E2) (f:=fun i=>d.args.toList.getD i undef) rfl t
  have hA3:AtS E2 G2 m2 (dfrS fn.ntmps (cl.args.toList.map s'.ev) s') { a2 with defers:=d :: a2.defers } w2:=by
   refine hA2.turn (E':=E2) _ rfl rfl rfl hA2.sim hA2.frame (shE_rep (N:=fn.ntmps) (v:=E2.val _) (fun t ht=>?_) rep_any fun t=>?_) hA2.size ⟨[],by rw [hd0];rfl,Marks.nil⟩ trivial
   ·have:=hA2.env t
    rw [Ent.val_lt ht] at this
    rw [Ent.val_lt (E:=E2) ht]
    exact this
   ·rw [hE2v]
    rw [List.getD_eq_getElem?_getD,List.getD_eq_getElem?_getD]
    cases h1:(cl.args.toList.map s'.ev)[t]? with
    | none=>exact rep_any
    | some x =>
     obtain ⟨v,h2,h3⟩:=AV.RepL_get hrl h1
     rw [h2];exact h3
  rw [<- hd]
  refine wpIn_mono (resolveCode_ok hm hrest none bodyY E2 _ _ _ _ YOk.body rfl hq ⟨G2,m2,hA3⟩) fun e a' w' ⟨s,hq,G1,m1,hA1⟩=>?_
  obtain ⟨u,u1,he,hs,bs2,hnd,hok,hits,hlen,hcall,hend⟩:=hq
  obtain ⟨tmps,ds⟩:=a'
  obtain ⟨ms,e1,hM⟩:=hA1.defers
  have e1:ds=ms ++ E2.dt:=e1
  subst e1
  obtain ⟨fd,hfd,hbd,hnm⟩:=hcall.1
  have hset:settle u1=.returning:=by
   rcases he with ⟨_,_,rfl⟩ | ⟨pv,_,_,rfl⟩ <;> rfl
  have hur:u ≠ .run:=by
   rcases he with ⟨_,rfl,_⟩ | ⟨pv,_,rfl,_⟩ <;> (intro e;cases e)
  have key:LeavesInM (FR none) 0 P fn tmps (fun e w'=>∃ v,e=.returned v/\APost w G m (lkOf bs' nbs) r v w') (ms ++ E2.dt) u w':=by
   refine leaves_marksU (E:=E2) hur ms w' hA1 hM fun w4 h4=>?_
   refine ⟨hur,.inr ⟨fun hd=>by simp [FR,Fence.wide] at hd,.func g,#[],g,d.args,by rw [hd],?_,fun f' _=>FR_fn none f',?_⟩⟩
   ·rw [hd]
    have hnone:fd.body.isNone=false:=by cases hb2:fd.body <;> rw [hb2] at hbd <;> simp_all
    simp only [invoke,callFunc,Sem.run_bind,run_program,hfd,hnm,hnone,Bool.false_eq_true,if_false,Result.andThen_ok]
    simp
   ·obtain ⟨c1,c2,c3,c4⟩:=callE_sim (s:=s) (dst:=none) (vals:=dfrV fn.ntmps s cl.args.size) (r:=.any) (nbs:=[]) hnd hok hits hlen
    have hrep4:AV.RepL G1 m1 (dfrV fn.ntmps s cl.args.size) d.args.toList:=by
     have:=dfrV_rep (G:=G1) (m:=m1) (N:=fn.ntmps) (s:=s) (vs:=d.args.toList) (fun i v hi=>by
      have:=h4.env (fn.ntmps + 1 + i)
      rw [hE2v,List.getD_eq_getElem?_getD,hi] at this
      exact this) cl.args.size (by rw [hd];simp)
     rwa [List.take_of_length_le (by rw [hd];simp)] at this
    obtain ⟨G3,m3,hS3,hO3,hr3,hpost⟩:=c4 G1 m1 w4 d.args h4.sim hrep4 (fun j hj _=>h4.fresh j hj)
    refine (hcall.2 w4 G3 m3 d.args hS3 hO3 hr3).mono ?_
    rintro e u' w5 ⟨hu',v,rfl,hp⟩
    have hA5:AtS { w0:=w,G0:=G,m0:=m,N:=fn.ntmps,cv:=cvLow fun i=>d.args.toList.getD i undef:Ent } G1 m1 s { tmps:=tmps,defers:=[] } w4 :=
     ⟨h4.sim,h4.env,h4.size,marks1_nil.2 Marks.nil,trivial,h4.fresh,h4.frame,h4.base,h4.own,trivial,h4.nxOk⟩
    obtain ⟨s6,hw6,hq6⟩:=hend
    obtain ⟨G6,m6,hA6⟩:=hw6 _ _ _ (hA5.epost (fun t=>c1 t (by simp)) c2 c3 (hpost v w5 hp))
    obtain ⟨v6,hv6,hp6⟩:=end_ok hrs0 rfl rfl rfl rfl hS hA6 hq6
    show LeavesInM _ _ _ _ _ _ [] (settle u') _
    rw [hu',hset]
    exact ⟨v6,hv6,v6,rfl,hp6⟩
  rcases he with ⟨rfl | rfl,rfl,_⟩ | ⟨pv,rfl,rfl,_⟩ <;> exact key
 ·obtain ⟨s',hw,hq⟩:=hq
  obtain ⟨G1,m1,hA'⟩:=hw _ _ _ hA1
  have key:∀ w',AtS { w0:=w,G0:=G,m0:=m,N:=fn.ntmps,nd:=true:Ent } G1 m1 s' { tmps:=a1.tmps,defers:=[] } w'->∃ v,(results fn a1.tmps).run P w'=.ok v w'/\∃ v',Ending.returned v=.returned v'/\APost w G m (lkOf bs' nbs) r v' w':=fun w' hA'=>by
   obtain ⟨v,hv,hp⟩:=end_ok hrs0 rfl rfl rfl rfl hS hA' hq
   exact ⟨v,hv,v,rfl,hp⟩
  rcases hq.1 with rfl | rfl <;> exact leaves_marks0 rfl a1.defers w1 hA' key
theorem ACall.of_bodyRR {P:Program} (fl:List Nat) {f:FuncId} {fn:Func} {c:Code} {g:FuncId} {xs:List Operand} {rcs:List RCode} {ros:List RO} {rc:RCode} {rs:List RRes} {args:List AV} {bs:List (Option Blk)} {r:AV} {bs':List (Option Blk)} {nbs:List Blk}
  (hf : P.funcs[f]? = some fn) (hb : fn.body = some c) (hname : (fn.name == "runtime.NumGoroutine") = false) (hm : P.follows .mixedOrders = true)
  (hrc:resolveD P fl fn.ntmps c=some (rcs,ros,g,xs,rc)) (hrs:resolveResN P fn.ntmps fn.results.toList=some rs)
  (hn:args.length <= fn.ntmps) {s0:AState} (hw0:Wk (entry args bs) s0) (h:preRun P rcs (fun s=>aops P ros s fun s'=>acode P bodyY rc (DEndR P fn.ntmps bs.length g xs.length rs r bs' nbs) (dfrS fn.ntmps (xs.map s'.ev) s')) (AEndW bs.length rs r bs' nbs) s0):ACall P f args bs r bs' nbs:=by
 obtain ⟨cs,id,ops,os,od,cl,rest,rfl,h0,h1,h2,h3,h4,h5,h6,h7,rfl,h8⟩:=resolveD_spec hrc
 exact ACall.of_bodyDR fl cs hf hb hname hm h0 h1 h2 h3 h4 h5 h6 h7 h8 hrs hn hw0 (by simpa using h)
end Go.Eng


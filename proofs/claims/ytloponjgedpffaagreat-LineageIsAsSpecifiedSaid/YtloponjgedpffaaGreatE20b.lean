/- Texts of this claim. -/
import Derived.Test.YtloponjgedpffaaGreatE20
import Derived.RangeFuncIn
set_option linter.all false
set_option linter.unusedSimpArgs false
set_option linter.unusedVariables false
namespace Go.Eng
open Go.RowKit

def shE (N:Nat) (top:Nat->AV) (g:AV) (low:Nat->AV):Nat->AV:=fun t=>if t < N then top t else if t=N then g else low (t - N - 1)
def dnE (N:Nat) (env:Nat->AV):Nat->AV:=fun t=>env (N + 1 + t)
def bA6 (l:List AV):Nat->AV:=fun t=>l.getD t .un
def aCy:List Nat->List AV->(Nat->AV)->Nat->AV
 | p :: ps,x :: xs,env=>aCy ps xs (upd env p x)
 | _,_,env=>env

def AState.withEnv (s:AState) (env:Nat->AV):AState:={ s with env:=env }
def aAt (N2 l:Nat) (caps:List AV) (s:AState):AState:=s.withEnv (shE N2 (bA6 (.yld l :: caps)) (.gst none) s.env)
def uZ (N N2:Nat) (s:AState):AState:=s.withEnv (upd (dnE N2 s.env) N .any)
def aJn (N N2:Nat) (ps:List Nat) (args:List AV) (s:AState):AState:=s.withEnv (shE N (aCy ps args (dnE N2 s.env)) .any s.env)
def zH (N N2:Nat) (c:Option Code) (s:AState):AState:=s.withEnv (upd (dnE N s.env) N2 (.gst c))

def nrm (k:AState->Prop):Exit->AState->Prop
 | .normal,s=>k s
 | _,_=>False
def bdQ (N N2:Nat) (K:Bool->AState->Prop):Exit->AState->Prop
 | .normal,s=>K true (zH N N2 none s)
 | .exit id,s=>K false (zH N N2 (some (.exit id)) s)
 | .ret,s=>K false (zH N N2 (some .ret) s)
 | _,_=>False
def aLa (Q:Exit->AState->Prop) (s:AState):AV->Prop
 | .gst none=>Q .normal s
 | .gst (some (.exit id))=>Q (.exit id) s
 | .gst (some .ret)=>Q .ret s
 | _=>False
def itQ (N N2:Nat) (Q:Exit->AState->Prop):Exit->AState->Prop:=fun e s=>(e=.normal\/e=.ret)/\aLa Q (uZ N N2 s) (s.env N2)
def yIt (P:Program) (rcA rcB:RCode) (N N2 l:Nat) (ps:List Nat):Yh :=
 ⟨false,fun l' args s K=>l'=l/\args.length=ps.length/\s.env N2=.gst none/\eZ P aCf rcA (nrm (eZ P aCf rcB (bdQ N N2 K))) (aJn N N2 ps args s)⟩

structure RecAt (B:Nat) (fid:FuncId) (tmps:Array Value) (ps:Array Tmp) (as bd:Code) (ds:List Deferred) (st:LoopState) (pd:Option Code) (E:Ent) (x0:AV) (w:World):Prop where
 rec_:w.heap[B + 1]?=some (.loop { state:=st,pending:=pd,fn:=fid,tmps:=tmps,params:=ps,assign:=as,body:=bd,defers:=B })
 blk:w.heap[B]?=some (.deferred (some []))
 marks:Marks (E.w0.heap.size + E.sk) E.nd ds w
 j:E.J x0 w

theorem RecAt.keep {B:Nat} {fid:FuncId} {tmps:Array Value} {ps:Array Tmp} {as bd:Code} {ds:List Deferred} {st:LoopState} {pd:Option Code} {E:Ent} {x0:AV} {w w':World} (h:RecAt B fid tmps ps as bd ds st pd E x0 w) (hk:KeepO w w'):RecAt B fid tmps ps as bd ds st pd E x0 w' :=
 ⟨hk _ _ h.rec_ rfl,hk _ _ h.blk rfl,h.marks.keep hk,E.Jkeep _ _ _ h.j hk⟩

theorem Marks.put {B:Nat} {nd:Bool} {ds:List Deferred} {w:World} (h:Marks B nd ds w) {r:Nat} {o:Obj} (hr:∀ d ∈ ds,d.target ≠ .collected r):Marks B nd ds (w.putObj r o) :=
 ⟨fun d hd=>let ⟨r',h1,h2,h3⟩:=h.1 d hd;⟨r',h1,h2,by rw [World.putObj_heap_other (fun e=>hr d hd (by rw [h1,e]))];exact h3⟩,h.2⟩

theorem RecAt.put {B:Nat} {fid:FuncId} {tmps:Array Value} {ps:Array Tmp} {as bd:Code} {ds:List Deferred} {st st':LoopState} {pd pd':Option Code} {E:Ent} {x0:AV} {w:World} (h:RecAt B fid tmps ps as bd ds st pd E x0 w) (hB:E.w0.heap.size + E.sk <= B) :
    RecAt B fid tmps ps as bd ds st' pd' E x0 (w.putObj (B + 1) (.loop { state:=st',pending:=pd',fn:=fid,tmps:=tmps,params:=ps,assign:=as,body:=bd,defers:=B })) :=
  ⟨World.putObj_heap_same (Array.getElem?_eq_some_iff.1 h.rec_).1,by rw [World.putObj_heap_other (by omega)];exact h.blk,
   h.marks.put (fun d hd e=>by
     obtain ⟨r,h1,_,h3⟩:=h.marks.1 d hd
     rw [h1] at e;cases e
     rw [h.rec_] at h3;cases h3),E.Jput _ _ _ _ h.j (by omega)⟩

theorem RecAt.putO {B:Nat} {fid:FuncId} {tmps:Array Value} {ps:Array Tmp} {as bd:Code} {ds:List Deferred} {st:LoopState} {pd:Option Code} {E:Ent} {x0:AV} {w:World} (h:RecAt B fid tmps ps as bd ds st pd E x0 w) (hlt:∀ d ∈ ds,∀ r,d.target=.collected r->r < B)
  (hB:E.w0.heap.size + E.sk <= B) {r:Nat} {o:Obj} (hr:B + 2 <= r):RecAt B fid tmps ps as bd ds st pd E x0 (w.putObj r o) :=
 ⟨by rw [World.putObj_heap_other (by omega)];exact h.rec_,by rw [World.putObj_heap_other (by omega)];exact h.blk,h.marks.put (fun d hd e=>by have:=hlt d hd r e;omega),E.Jput _ _ _ _ h.j (by omega)⟩

def JIt (B:Nat) (fid:FuncId) (tmps:Array Value) (ps:Array Tmp) (as bd:Code) (ds:List Deferred) (E:Ent) (x0:AV) (x:AV) (w:World):Prop :=
 AV.isSl x=false/\∃ st pd,st ≠ .busy/\RecAt B fid tmps ps as bd ds st pd E x0 w/\∀ c,x=.gst c->pd=c/\(c=none->st=.ready)

theorem bB6 {ψ:Hd->Hd} {x:AV} {c:Option Code} (h:AV.ren ψ x=.gst c):x=.gst c:=by cases x <;> simp_all [AV.ren]
theorem bEa {ψ:Hd->Hd} {x:AV}:AV.isSl (AV.ren ψ x)=AV.isSl x:=by cases x <;> simp [AV.ren,AV.isSl]
theorem aVp {lk:aH} {φ:Hd->Option Hd} {x:AV} {c:Option Code} (h:AV.conv lk φ x=.gst c):x=.gst c:=by
 cases x <;> simp only [AV.conv] at h <;> (repeat' split at h) <;> first | (cases h;done) | exact h
theorem bA1 {lk:aH} {φ:Hd->Option Hd} {x:AV} (h:AV.isSl x=false):AV.isSl (AV.conv lk φ x)=false:=by
 cases x <;> simp only [AV.conv] <;> (repeat' split) <;> first | rfl | (cases h;done)

section
variable {B:Nat} {fid:FuncId} {tmps:Array Value} {ps:Array Tmp} {as bd:Code} {ds:List Deferred} {E:Ent} {x0:AV}

theorem JIt.keep (x:AV) (w w':World) (h:JIt B fid tmps ps as bd ds E x0 x w) (hk:KeepO w w'):JIt B fid tmps ps as bd ds E x0 x w' :=
 let ⟨h0,st,pd,h1,h2,h3⟩:=h;⟨h0,st,pd,h1,h2.keep hk,h3⟩
theorem JIt.any (x:AV) (w:World) (h:JIt B fid tmps ps as bd ds E x0 x w):JIt B fid tmps ps as bd ds E x0 .any w :=
 let ⟨_,st,pd,h1,h2,_⟩:=h;⟨rfl,st,pd,h1,h2,(fun _ e=>by cases e)⟩
theorem JIt.sl (x:AV) (w:World) (y:AV) (hx:AV.isSl x=true) (h:JIt B fid tmps ps as bd ds E x0 x w):JIt B fid tmps ps as bd ds E x0 y w:=by
 have:=h.1
 rw [hx] at this;cases this
theorem JIt.ren (x:AV) (w:World) (ψ:Hd->Hd) (h:JIt B fid tmps ps as bd ds E x0 x w):JIt B fid tmps ps as bd ds E x0 (AV.ren ψ x) w :=
 let ⟨h0,st,pd,h1,h2,h3⟩:=h;⟨by rw [bEa];exact h0,st,pd,h1,h2,fun c e=>h3 c (bB6 e)⟩
theorem JIt.conv (x:AV) (w:World) (lk:aH) (φ:Hd->Option Hd) (h:JIt B fid tmps ps as bd ds E x0 x w):JIt B fid tmps ps as bd ds E x0 (AV.conv lk φ x) w :=
 let ⟨h0,st,pd,h1,h2,h3⟩:=h;⟨bA1 h0,st,pd,h1,h2,fun c e=>h3 c (aVp e)⟩
theorem JIt.put (hlt:∀ d ∈ ds,∀ r,d.target=.collected r->r < B) (hB:E.w0.heap.size + E.sk <= B) (x:AV) (w:World) (r:Nat) (o:Obj) (h:JIt B fid tmps ps as bd ds E x0 x w) (hr:B + 2 <= r):JIt B fid tmps ps as bd ds E x0 x (w.putObj r o) :=
 let ⟨h0,st,pd,h1,h2,h3⟩:=h;⟨h0,st,pd,h1,h2.putO hlt hB hr,h3⟩
theorem JIt.sz (x:AV) (w:World) (h:JIt B fid tmps ps as bd ds E x0 x w):B + 2 <= w.heap.size :=
 let ⟨_,_,_,_,h2,_⟩:=h;(Array.getElem?_eq_some_iff.1 h2.rec_).1
end

theorem aHh {G:Gh} {m:HM}:∀ {ps:List Nat} {xs:List AV} {vs:List Value} {env:Nat->AV} {tmps:Array Value},AV.RepL G m xs vs->(∀ t,t < tmps.size->AV.Rep G m (env t) (tmps.getD t undef)) ->
  ((ps.zip vs).foldl (fun tmps (t,a)=>tmps.setIfInBounds t a) tmps).size=tmps.size/\∀ t,t < tmps.size->AV.Rep G m (aCy ps xs env t) (((ps.zip vs).foldl (fun tmps (t,a)=>tmps.setIfInBounds t a) tmps).getD t undef)
 | [],xs,vs,env,tmps,_,h=>by simpa [aCy] using h
 | p :: ps,[],vs,env,tmps,hx,h=>by unfold AV.RepL at hx;subst hx;simpa [aCy] using h
 | p :: ps,x :: xs,vs,env,tmps,hx,h=>by
  unfold AV.RepL at hx
  obtain ⟨v,vs',rfl,hv,hvs⟩:=hx
  simp only [List.zip_cons_cons,List.foldl_cons,aCy]
  have ih:=aHh (ps:=ps) (env:=upd env p x) (tmps:=tmps.setIfInBounds p v) hvs (fun t ht=>by
   rw [Array.size_setIfInBounds] at ht
   unfold upd
   by_cases e:t=p
   ·rw [if_pos e];subst e
    simpa [Array.getD_eq_getD_getElem?,Array.getElem?_setIfInBounds_self_of_lt ht] using hv
   ·rw [if_neg e]
    simpa only [Array.getD_eq_getD_getElem?,Array.getElem?_setIfInBounds_ne (Ne.symm e)] using h t ht)
  rw [Array.size_setIfInBounds] at ih
  exact ih

theorem wS (s:AState) (env:Nat->AV):(s.withEnv env).lk=s.lk:=by funext h;cases h <;> rfl

theorem AtS.turn {E E':Ent} {G:Gh} {m:HM} {s:AState} {a a':Act} {w w':World} (h:AtS E G m s a w) (env:Nat->AV) (h0:E'.w0=E.w0) (h1:E'.G0=E.G0) (h2:E'.m0=E.m0) (hs:Sim G m s.lk w') (hf:Fr (Own E.m0) (Own E.m0) E.G0 G E.w0 w')
  (he:∀ t,AV.Rep G m (env t) (E'.val a' t)) (hsz:a'.tmps.size=E'.N) (hd:Marks1 E'.dt (E'.w0.heap.size + E'.sk) E'.nd a'.defers w') (hj:E'.J (env E'.N) w'):AtS E' G m (s.withEnv env) a' w':=by
 refine ⟨by rw [wS];exact hs,he,hsz,hd,hj,h.fresh,by rw [h0,h1,h2];exact hf,by rw [h2];exact h.base,by rw [h0,h2];exact h.own,trivial,h.nxOk⟩

theorem aQs {G:Gh} {m:HM} {N:Nat} {top low:Nat->AV} {g:AV} {v:Nat->Value} (h1:∀ t,t < N->AV.Rep G m (top t) (v t)) (h2:AV.Rep G m g (v N)) (h3:∀ t,AV.Rep G m (low t) (v (N + 1 + t))) (t:Nat):AV.Rep G m (shE N top g low t) (v t):=by
 unfold shE
 split
 ·exact h1 t ‹_›
 ·split
  ·rename_i e;subst e;exact h2
  ·rename_i ha hb
   have:=h3 (t - N - 1)
   rwa [show N + 1 + (t - N - 1)=t by omega] at this

def aSe (f:Nat->Value):Nat->Value:=fun j=>if j=0 then undef else f (j - 1)
theorem aSl {E:Ent} {a:Act} {f:Nat->Value} (h:E.cv=aSe f) (t:Nat):E.val a (E.N + 1 + t)=f t:=by
 rw [Ent.val_ge (by omega),h]
 unfold aSe
 rw [if_neg (by omega),show E.N + 1 + t - E.N - 1=t by omega]
theorem aSd {G:Gh} {m:HM} {v:Value}:AV.Rep G m .any v:=by unfold AV.Rep;trivial
theorem aQn {G:Gh} {m:HM} {v:Value} {c:Option Code}:AV.Rep G m (.gst c) v:=by unfold AV.Rep;trivial

theorem aX7 {P:Program} {Y:Yh} {Q:Exit->AState->Prop} {s:AState} {N:Nat} {g:Operand} {ps:Array Tmp} {as bd:Code} (fl flB:List Nat) {f:FuncId} {fn:Func} {c2:Code} {rc2 rcA rcB:RCode} {caps:List AV}
  (hf : P.funcs[f]? = some fn) (hb : fn.body = some c2) (hname : (fn.name == "runtime.NumGoroutine") = false) (hm : P.follows .mixedOrders = true) (hrc : aE P fl fn.ntmps c2 = some rc2) (hAs : aE P flB N as = some rcA) (hBd : aE P flB N bd = some rcB)
  (hres:fn.results=#[]) (hg:g.inN N=true) (hs:s.ev g=.clo f caps) (hn:caps.length + 1 <= fn.ntmps) (hY:Y.plain=true)
  (h:∀ l,eZ P (yIt P rcA rcB N fn.ntmps l ps.toList) rc2 (itQ N fn.ntmps Q) (aAt fn.ntmps l caps s)):eZ P Y (.sem N (.rangeFunc g ps as bd)) Q s:=by
 refine ⟨hY,fun E a w hYE hN ⟨G,m,hA⟩=>?_⟩
 subst hN
 have hnd:=(hYE.1 hY).2.1
 have hdt:=(hYE.1 hY).2.2
 have hAd:Marks (E.w0.heap.size + E.sk) E.nd a.defers w:=by have:=hA.defers;rw [hdt] at this;exact eI.1 this
 obtain ⟨B,hB⟩:∃ B,B=w.heap.size:=⟨_,rfl⟩
 have hBE:E.w0.heap.size + E.sk <= B:=hB ▸ E.Jsz _ _ hA.jok hA.frame.size
 have hdlt:∀ d ∈ a.defers,∀ r,d.target=.collected r->r < B:=fun d hd r hr=>by
  obtain ⟨r',h1,_,h3⟩:=hAd.1 d hd
  rw [h1] at hr;cases hr
  rw [hB];exact (Array.getElem?_eq_some_iff.1 h3).1
 have hgr:=hA.evs g hg
 rw [hs] at hgr
 unfold AV.Rep at hgr
 obtain ⟨cvs,hgv,hcvs⟩:=hgr
 refine wpIn_rangeFunc fun fid _=>?_
 obtain ⟨w1,hw1⟩:∃ w1,w1=(w.alloc (.deferred (some []))).alloc (.loop { state:=.ready,pending:=none,fn:=fid,tmps:=a.tmps,params:=ps,assign:=as,body:=bd,defers:=B }):=⟨_,rfl⟩
 obtain ⟨args,hargs⟩:∃ args:Array Value,args=#[.func (.yield (B + 1)) #[] #[]] ++ cvs:=⟨_,rfl⟩
 have hlenc:caps.length=cvs.size:=by simpa using AV.RepL_length hcvs
 have hrec:RecAt B fid a.tmps ps as bd a.defers .ready none E (s.env E.N) w1:=by
  have hk:KeepO w w1:=fun b o hb' _=>by
   have hlt:=(Array.getElem?_eq_some_iff.1 hb').1
   rw [hw1,heap_alloc_old _ _ (by simp;omega),heap_alloc_old _ _ hlt];exact hb'
  refine ⟨?_,?_,hAd.keep hk,E.Jkeep _ _ _ hA.jok hk⟩
  ·have:=World.alloc_heap_new (w.alloc (.deferred (some []))) (.loop { state:=.ready,pending:=none,fn:=fid,tmps:=a.tmps,params:=ps,assign:=as,body:=bd,defers:=B })
   rw [World.size_alloc,<- hB,<- hw1] at this
   exact this
  ·rw [hw1,heap_alloc_old _ _ (by simp;omega),hB];exact World.alloc_heap_new w _
 let E2:Ent:={ w0:=w,G0:=G,m0:=m,N:=fn.ntmps,cv:=aSe (E.val a),J:=JIt B fid a.tmps ps as bd a.defers E (s.env E.N),Jkeep:=JIt.keep,Jany:=JIt.any,Jsl:=JIt.sl,Jren:=JIt.ren,Jconv:=JIt.conv,sk:=2,nd:=true,Jput:=fun x w' r o hj hr=>JIt.put hdlt hBE x w' r o hj (by omega),Jsz:=fun x w' hj _=>(by have:=JIt.sz x w' hj;omega) }
 have hE2v:∀ a2 t,E2.val a2 (fn.ntmps + 1 + t)=E.val a t:=fun a2 t=>aSl (E:=E2) rfl t
 have harg0:((#[.const (.func (.yield (B + 1)) #[] #[])]:Array Operand).map a.eval)=#[.func (.yield (B + 1)) #[] #[]]:=by simp [Act.eval]
 refine ⟨B + 1,[{ target:=.collected B,args:=#[] }],w1,⟨.fn (.func f) cvs,#[.func (.yield (B + 1)) #[] #[]]⟩,w1,f,args,w1,by rw [hw1,hB];exact run_enterLoop_outer _ _ _ _ _,?_,fun _ _=>trivial,?_,fun hd=>by simp [FR,Fence.wide] at hd,?_⟩
 ·simp only [resolve,rangeCall,harg0,hgv,Deferred.ofValue]
  simp
 ·have hnone:fn.body.isNone=false:=by rw [hb];rfl
  simp only [invoke,callFunc,Sem.run_bind,run_program,hf,hname,hnone,Bool.false_eq_true,if_false,Result.andThen_ok,hargs]
  simp
 have hargsize:args.size=cvs.size + 1:=by rw [hargs];simp;omega
 refine callsIn_of_wp_marks hf hb (tM none f) ?_
 have hlen:args.size <= fn.ntmps:=by omega
 have hfr1:Fr (Own m) (Own m) G G w w1:=by rw [hw1];exact (Fr.alloc _).trans (Fr.alloc _)
 have hent:AtS E2 G m (aAt fn.ntmps (B + 1) caps s) { tmps:=args ++ Array.replicate (fn.ntmps - args.size) undef,defers:=[] } w1:=by
  refine ⟨by rw [aAt,wS,hw1];exact (hA.sim.alloc _).alloc _,fun t=>?_,by simp [E2];omega,eI.2 Marks.nil,?_,hA.fresh,hfr1,fun i=>.inl rfl,fun x l b hi hl=>.inr ⟨x,l,hi,hl⟩,trivial,hA.nxOk⟩
  ·refine aQs (N:=fn.ntmps) (v:=E2.val _) (fun t ht=>?_) aQn (fun t=>by rw [hE2v];exact hA.env t) t
   rw [Ent.val_lt (E:=E2) ht]
   show AV.Rep G m (bA6 (.yld (B + 1) :: caps) t) _
   have hrl:AV.RepL G m (.yld (B + 1) :: caps) args.toList:=by
    rw [hargs,Array.toList_append]
    unfold AV.RepL
    exact ⟨_,_,rfl,by unfold AV.Rep;rfl,hcvs⟩
   rcases Nat.lt_or_ge t args.size with ht' | ht'
   ·have h1:(AV.yld (B + 1) :: caps)[t]?=some ((AV.yld (B + 1) :: caps)[t]'(by simp;omega)):=by simp
    obtain ⟨v,h2,h3⟩:=AV.RepL_get hrl h1
    unfold bA6
    rw [List.getD_eq_getElem?_getD,h1]
    simp only [Array.getElem?_toList] at h2
    simp only [Array.getD_eq_getD_getElem?,Array.getElem?_append_left ht',h2]
    exact h3
   ·unfold bA6
    rw [List.getD_eq_getElem?_getD,List.getElem?_eq_none (by simp;omega)]
    have:(args ++ Array.replicate (fn.ntmps - args.size) undef).getD t undef=undef:=by
     simp only [Array.getD_eq_getD_getElem?,Array.getElem?_append_right ht',Array.getElem?_replicate]
     split <;> rfl
    rw [this]
    show AV.Rep G m .un undef
    unfold AV.un AV.Rep DV.Rep;rfl
  ·show JIt _ _ _ _ _ _ _ _ _ (shE fn.ntmps _ (.gst none) _ fn.ntmps) _
   unfold shE
   rw [if_neg (by omega),if_pos rfl]
   exact ⟨rfl,.ready,none,(by intro e;cases e),hrec,fun c e=>by cases e;exact ⟨rfl,fun _=>rfl⟩⟩
 have hY2:YOk P none E2 (yIt P rcA rcB E.N fn.ntmps (B + 1) ps.toList):=by
  refine ⟨fun h=>(by cases h),fun l' xs s1 K a2 w2 vs G1 m1 hf1 hA1 hxs=>?_⟩
  obtain ⟨rfl,hlx,hgst,hrun⟩:=hf1
  have hj1:=hA1.jok
  rw [show s1.env E2.N=.gst none from hgst] at hj1
  obtain ⟨_,st,pd,_,hR,hpd⟩:=hj1
  obtain ⟨rfl,hst⟩:=hpd none rfl
  obtain rfl:=hst rfl
  have hlv:=AV.RepL_length hxs
  have hd2:a2.defers=[]:=(eI.1 hA1.defers).2.2 rfl
  have hps:=aHh (ps:=ps.toList) (env:=dnE fn.ntmps s1.env) (tmps:=a.tmps) hxs (fun t ht=>by
   have:=hA1.env (fn.ntmps + 1 + t)
   rw [hE2v,Ent.val_lt (by rw [<- hA.size];exact ht)] at this
   exact this)
  let E3:LoopState->Ent:=fun st=>{ w0:=w,G0:=G,m0:=m,N:=E.N,cv:=aSe (E2.val a2),J:=fun _ w'=>RecAt B fid a.tmps ps as bd a.defers st none E (s.env E.N) w',Jkeep:=fun _ _ _ h hk=>h.keep hk,Jany:=fun _ _ h=>h,Jsl:=fun _ _ _ _ h=>h,Jren:=fun _ _ _ h=>h,Jconv:=fun _ _ _ _ h=>h,sk:=2,Jput:=fun x w' r o hj hr=>hj.putO hdlt hBE (by omega),Jsz:=fun x w' hj _=>(by have:=(Array.getElem?_eq_some_iff.1 hj.rec_).1;omega) }
  have hE3v:∀ st a3 t,(E3 st).val a3 (E.N + 1 + t)=E2.val a2 t:=fun st a3 t=>aSl (E:=E3 st) rfl t
  have hback:∀ (s3:AState) (a3:Act) (w3:World) (c:Option Code),ASim (E3 .busy) s3 a3 w3->∃ w4,(Instr.endRound (B + 1) c).run P w3=.ok (.bool c.isNone) w4/\ASim E2 (zH E.N fn.ntmps c s3) a2 w4:=fun s3 a3 w3 c ⟨G3,m3,hA3⟩=>by
   have hR3:RecAt B fid a.tmps ps as bd a.defers .busy none E (s.env E.N) w3:=hA3.jok
   refine ⟨_,run_endRound c hR3.rec_,G3,m3,hA3.turn (E':=E2) _ rfl rfl rfl (hA3.sim.putObj hR3.rec_ rfl) (hA3.frame.putObj (by show w.heap.size <= B + 1;omega)) (fun t=>?_) hA1.size (by rw [hd2];exact eI.2 Marks.nil) ?_⟩
   ·unfold upd
    split
    ·exact aQn
    ·have:=hA3.env (E.N + 1 + t)
     rw [hE3v] at this
     exact this
   ·show JIt B fid a.tmps ps as bd a.defers E (s.env E.N) (upd _ fn.ntmps (.gst c) fn.ntmps) _
    unfold upd
    rw [if_pos rfl]
    refine ⟨rfl,_,_,?_,hR3.put hBE,fun c' e=>by cases e;exact ⟨rfl,fun e=>by subst e;rfl⟩⟩
    cases c <;> (intro e;cases e)
  refine ⟨fid,_,as,bd,run_yield hR.rec_ (by simp only [List.size_toArray];rw [<- hlv,hlx];simp),?_⟩
  refine roundIn_of_wpIn (tM none _) ?_
  have hfold:((ps.zip vs.toArray).foldl (fun (tmps:Array Value) (x:Tmp × Value)=>tmps.setIfInBounds x.1 x.2) a.tmps)=(ps.toList.zip vs).foldl (fun tmps (t,a)=>tmps.setIfInBounds t a) a.tmps:=by
   rw [<- Array.foldl_toList,Array.toList_zip]
  have hA3:AtS (E3 .ready) G1 m1 (aJn E.N fn.ntmps ps.toList xs s1) { tmps:=(ps.toList.zip vs).foldl (fun tmps (t,a)=>tmps.setIfInBounds t a) a.tmps,defers:=[] } w2:=by
   refine hA1.turn (E':=E3 .ready) _ rfl rfl rfl hA1.sim hA1.frame (aQs (N:=E.N) (v:=(E3 .ready).val _) (fun t ht=>?_) aSd (fun t=>by rw [hE3v];exact hA1.env t)) (by rw [hps.1];exact hA.size) (eI.2 Marks.nil) hR
   rw [Ent.val_lt (E:=E3 .ready) ht]
   exact hps.2 t (by rw [hA.size];exact ht)
  have hgoal:=bP hm hAs (some (B + 1)) aCf (E3 .ready) _ _ _ _ YOk.body rfl hrun ⟨G1,m1,hA3⟩
  rw [<- hfold] at hgoal
  refine wpIn_mono hgoal fun e a3 w3 ⟨s3,hq3,G3,m3,hA3'⟩=>?_
  cases e with
  | normal =>
   have hR3:RecAt B fid a.tmps ps as bd a.defers .ready none E (s.env E.N) w3:=hA3'.jok
   refine ⟨_,run_beginRound hR3.rec_ rfl,?_⟩
   have hA4:AtS (E3 .busy) G3 m3 s3 a3 (w3.putObj (B + 1) (.loop { state:=.busy,pending:=none,fn:=fid,tmps:=a.tmps,params:=ps,assign:=as,body:=bd,defers:=B })):=by
    have:=hA3'.turn (E':=E3 .busy) s3.env rfl rfl rfl (hA3'.sim.putObj (o':=.loop { state:=.busy,pending:=none,fn:=fid,tmps:=a.tmps,params:=ps,assign:=as,body:=bd,defers:=B }) hR3.rec_ rfl) (hA3'.frame.putObj (by show w.heap.size <= B + 1;omega)) hA3'.env hA3'.size
     (eI.2 ⟨fun d hd=>by
      obtain ⟨r,q1,q2,q3⟩:=(eI.1 hA3'.defers).1 d hd
      refine ⟨r,q1,q2,?_⟩
      rw [World.putObj_heap_other (fun e=>by subst e;rw [hR3.rec_] at q3;cases q3)];exact q3,(eI.1 hA3'.defers).2⟩) (hR3.put hBE)
    exact this
   refine wpIn_mono (bP hm hBd (some (B + 1)) aCf (E3 .busy) _ _ _ _ YOk.body rfl hq3 ⟨G3,m3,hA4⟩) fun e a5 w5 ⟨s5,hq5,hA5⟩=>?_
   cases e with
   | normal=>obtain ⟨w6,h1,h2⟩:=hback _ _ _ none hA5;exact ⟨_,w6,h1,true,_,rfl,hq5,h2⟩
   | ret=>obtain ⟨w6,h1,h2⟩:=hback _ _ _ (some .ret) hA5;exact ⟨_,w6,h1,false,_,rfl,hq5,h2⟩
   | exit id=>obtain ⟨w6,h1,h2⟩:=hback _ _ _ (some (.exit id)) hA5;exact ⟨_,w6,h1,false,_,rfl,hq5,h2⟩
   | goto l=>exact hq5.elim
   | panic ch=>exact hq5.elim
   | outgrown=>exact hq5.elim
  | _=>exact hq3.elim
 refine wpIn_mono (bP hm hrc none _ E2 _ _ _ _ hY2 rfl (h (B + 1)) ⟨G,m,hent⟩) fun e a' w' ⟨s2,⟨he,hend⟩,G1,m1,hA2⟩=>?_
 have key:∀ w',AtS E2 G1 m1 s2 { tmps:=a'.tmps,defers:=[] } w'->∃ v,(results fn a'.tmps).run P w'=.ok v w'/\rangePost (FR none) 0 P (B + 1) (aLr E Q) { a with defers:=[{ target:=.collected B,args:=#[] }] ++ a.defers } (.returned v) w':=fun w' hA2=>by
  refine ⟨.tuple #[],by simp [results,hres],?_⟩
  have hj2:=hA2.jok
  obtain ⟨_,st,pd,hnb,hR,hpd⟩:=hj2
  have hw4:ASim E (uZ E.N fn.ntmps s2) { a with defers:=[{ target:=.collected B,args:=#[] }] ++ a.defers } (w'.putObj (B + 1) (.loop { state:=.exhausted,pending:=pd,fn:=fid,tmps:=a.tmps,params:=ps,assign:=as,body:=bd,defers:=B })):=by
   have hR4:=hR.put (st':=.exhausted) (pd':=pd) hBE
   have hfr:=hA2.frame.putObj (r:=B + 1) (o:=.loop { state:=.exhausted,pending:=pd,fn:=fid,tmps:=a.tmps,params:=ps,assign:=as,body:=bd,defers:=B }) (by show w.heap.size <= B + 1;omega)
   refine ⟨G1,m1,by rw [uZ,wS];exact hA2.sim.putObj hR.rec_ rfl,fun t=>?_,hA.size,?_,?_,hA2.fresh,hA.frame.step hfr (fun b hb q=>hA.ownOld hb q) (fun b hb q=>hA.ownOld hb q),fun i=>(hA.base i).trans (hA2.base i),fun x l b hi hl=>?_,trivial,hA2.nxOk⟩
   ·show AV.Rep G1 m1 (upd (dnE fn.ntmps s2.env) E.N .any t) _
    unfold upd
    split
    ·exact aSd
    ·have:=hA2.env (fn.ntmps + 1 + t)
     rw [hE2v] at this
     exact this
   ·rw [hdt]
    refine eI.2 ⟨fun d hd=>?_,?_,fun e=>by rw [hnd] at e;cases e⟩
    ·rcases List.mem_append.1 hd with hd | hd
     ·simp only [List.mem_singleton] at hd
      subst hd
      exact ⟨B,rfl,hBE,hR4.blk⟩
     ·exact hR4.marks.1 d hd
    ·refine List.nodup_cons.2 ⟨fun hd=>?_,hR4.marks.2.1⟩
     exact Nat.lt_irrefl _ (hdlt _ hd B rfl)
   ·show E.J (upd (dnE fn.ntmps s2.env) E.N .any E.N) _
    unfold upd
    rw [if_pos rfl]
    exact E.Jany _ _ hR4.j
   ·rcases hA2.own x l b hi hl with h1 | h1
    ·exact .inl (Nat.le_trans hA.frame.size h1)
    ·rcases Nat.lt_or_ge b E.w0.heap.size with h2 | h2
     ·exact .inr (hA.ownOld h2 h1)
     ·exact .inl h2
  refine ⟨pd,_,run_endLoop hR.rec_ hnb,?_⟩
  generalize hgs:s2.env E2.N=gs at hpd
  have hend':aLa Q (uZ E.N fn.ntmps s2) gs:=by rw [<- hgs];exact hend
  unfold aLa at hend'
  split at hend'
  ·obtain ⟨rfl,_⟩:=hpd _ rfl
   exact ⟨_,hend',hw4⟩
  ·obtain ⟨rfl,_⟩:=hpd _ rfl
   exact wpIn_exit ⟨_,hend',hw4⟩
  ·obtain ⟨rfl,_⟩:=hpd _ rfl
   exact wpIn_ret ⟨_,hend',hw4⟩
  ·exact hend'.elim
 rcases he with rfl | rfl <;> exact wH rfl a'.defers w' hA2 key

end Go.Eng


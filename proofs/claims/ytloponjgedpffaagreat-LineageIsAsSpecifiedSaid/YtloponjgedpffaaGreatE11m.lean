/- Texts of this claim. -/
import Derived.Test.YtloponjgedpffaaGreatE11k
import Derived.Laws.IdiomRangeMap
set_option linter.all false
set_option linter.unusedSimpArgs false
set_option linter.unusedVariables false
namespace Go.Eng
open Go.RowKit

theorem aSf {G:Gh} {m m':HM}:∀ {xs ys:List AV} {us vs:List Value} {r:Bool},AV.RepL G m xs us->AV.RepL G m' ys vs->vP xs ys=some r->(r=true ↔ us=vs)
 | xs,ys,us,vs,r,hu,hv,h=>by
  unfold vP at h
  split at h
  ·cases h
   unfold AV.RepL at hu hv
   subst hu;subst hv;simp
  ·rename_i k n xs k' n' ys
   rw [Option.ite_none_right_eq_some] at h
   obtain ⟨rfl,h⟩:=h
   split at h
   ·rename_i b hb
    cases h
    unfold AV.RepL at hu hv
    obtain ⟨u,us',rfl,a1,a2⟩:=hu
    obtain ⟨v,vs',rfl,b1,b2⟩:=hv
    have ih:=aSf a2 b2 hb
    unfold AV.Rep DV.Rep at a1 b1
    subst a1;subst b1
    simp [ih]
   ·cases h
  ·cases h
theorem aEx {G:Gh} {m m':HM} {a b:AV} {x y:Value} {r:Bool} (ha:AV.Rep G m a x) (hb:AV.Rep G m' b y) (h:a.keq b=some r):r=true ↔ x=y:=by
 unfold AV.keq at h
 split at h
 ·rename_i k n k' n'
  unfold AV.Rep DV.Rep at ha hb
  subst ha;subst hb
  rw [Option.ite_none_right_eq_some] at h
  obtain ⟨rfl,h⟩:=h
  cases h
  simp
 ·rename_i s t
  unfold AV.Rep DV.Rep at ha hb
  subst ha;subst hb
  cases h
  simp
 ·unfold AV.Rep at ha hb
  obtain ⟨us,rfl,ha⟩:=ha
  obtain ⟨vs,rfl,hb⟩:=hb
  have:=aSf ha hb h
  rw [this]
  constructor
  ·intro e;exact congrArg Value.agg (Array.toList_inj.1 e)
  ·intro e;cases e;rfl
 ·cases h
theorem aR7 {G:Gh} {m:HM}:∀ {ks:List IntKind} {cs:List AV} {vs:List Value},AV.RepL G m cs vs->uA ks cs=true->∃ ns:List Int,ns.length=ks.length/\vs=List.zipWith Value.int ks ns
 | ks,cs,vs,hr,h=>by
  unfold uA at h
  split at h
  ·unfold AV.RepL at hr
   subst hr
   exact ⟨[],rfl,rfl⟩
  ·rename_i k ks k' n cs
   rw [Bool.and_eq_true] at h
   obtain ⟨h1,h2⟩:=h
   unfold AV.RepL at hr
   obtain ⟨v,vs',rfl,a1,a2⟩:=hr
   obtain ⟨ns,e1,rfl⟩:=aR7 a2 h2
   unfold AV.Rep DV.Rep at a1
   subst a1
   obtain rfl:=of_decide_eq_true h1
   exact ⟨n :: ns,congrArg (· + 1) e1,rfl⟩
  ·cases h
theorem aBq {G:Gh} {m:HM} {kd:KD} {a:AV} {x:Value} (ha:AV.Rep G m a x) (h:a.isK kd=true):fM kd x:=by
 unfold AV.isK at h
 split at h
 ·unfold AV.Rep DV.Rep at ha
  subst ha
  exact (of_decide_eq_true h:_=_)
 ·unfold AV.Rep DV.Rep at ha
  subst ha
  trivial
 ·unfold AV.Rep at ha
  obtain ⟨vs,rfl,ha⟩:=ha
  obtain ⟨ns,e1,e2⟩:=aR7 ha h
  exact ⟨ns,e1,e2⟩
 ·cases h
theorem lY {G:Gh} {m:HM} {key:AV} {kv:Value} (hk:AV.Rep G m key kv) {w:World}:∀ {es:List (AV × MV)} {xs:List MapEntry} {f:List Nat} {r:Option (Nat × MV)},EntsRep G es xs f w->bW key es=some r ->
  match r with
  | none=>∀ x ∈ xs,x.key ≠ kv
  | some (j,mv)=>∃ x k2 f1 f2 f3,xs[j]?=some x/\es[j]?=some (k2,mv)/\x.key=kv/\AV.Rep G (fun _=>none) k2 x.key/\MV.Rep G mv x.val f2 w/\f=f1 ++ f2 ++ f3
 | [],xs,f,r,h,hf=>by
  unfold bW at hf
  cases hf
  obtain ⟨rfl,rfl⟩:=h
  intro x hx;cases hx
 | e :: es,xs,f,r,h,hf=>by
  obtain ⟨x,xs',f1,fp',rfl,rfl,h1,h2,h3⟩:=h
  unfold bW at hf
  split at hf
  ·rename_i hq
   cases hf
   exact ⟨x,e.1,[],f1,fp',rfl,rfl,((aEx hk h1 hq).1 rfl).symm,h1,h2,rfl⟩
  ·rename_i hq
   have hne:x.key ≠ kv:=fun e=>by have:=(aEx hk h1 hq).2 e.symm;cases this
   split at hf
   ·rename_i j v hj
    cases hf
    obtain ⟨y,k2,g1,g2,g3,q1,q2,q3,q4,q5,q6⟩:=lY hk h3 hj
    exact ⟨y,k2,f1 ++ g1,g2,g3,q1,q2,q3,q4,q5,by rw [q6];simp⟩
   ·rename_i hj
    cases hf
    have:=lY hk h3 hj
    intro y hy
    rcases List.mem_cons.1 hy with rfl | hy
    ·exact hne
    ·exact this y hy
   ·cases hf
  ·cases hf
theorem dG {P:Program} {k0:TypeId} {kd:KD} {arr:Array MapEntry} {clk:Nat} {kv:Value} (hT:wO P k0 kd) (hk:fM kd kv) (hs:MapKept.Stamped arr clk) (hks:∀ x ∈ arr.toList,fM kd x.key) {r:Option (Nat × MapEntry)}
  (h:match r with
  | none=>∀ x ∈ arr.toList,x.key ≠ kv
  | some (j,x)=>arr.toList[j]?=some x/\x.key=kv) (w:World):(Instr.findKey k0 kv arr.toList).run P w=.ok (r.map fun p=>(p.1,p.2.val)) w:=by
 rcases aUm hT hk w arr.toList hks with ⟨h1,h2⟩ | ⟨j,e,h1,h2,h3⟩
 ·rw [h1]
  split at h
  ·rfl
  ·rename_i j x
   exact absurd h.2 (h2 x (List.mem_of_getElem? h.1))
 ·rw [h1]
  split at h
  ·exact absurd h3 (h e (List.mem_of_getElem? h2))
  ·rename_i j' x
   have hn:=hs.2.2
   have e1:(arr.toList.map (·.key))[j]?=some kv:=by rw [List.getElem?_map,h2];simp [h3]
   have e2:(arr.toList.map (·.key))[j']?=some kv:=by rw [List.getElem?_map,h.1];simp [h.2]
   have hlt:=(List.getElem?_eq_some_iff.1 e1).1
   have:=(List.getElem?_inj hlt hn).1 (e1.trans e2.symm)
   subst this
   rw [h2] at h
   have:=Option.some.inj h.1
   subst this
   rfl
theorem aMu {G:Gh} {k:Nat} {es:List (List DV)} {v:Value} {f:List Nat} {w:World} (h:OwnRep G false k es v f w):DV.Rep G (.L es) v:=by
 rcases h with ⟨a,rfl,rfl,_⟩ | ⟨b,sz,cap,rfl,rfl,h3,h4,h5⟩
 ·unfold DV.Rep
  exact ⟨a,0,rfl,Nat.le_refl _,fun _=>rfl,fun h=>absurd rfl h⟩
 ·unfold BlkRep at h5
  obtain ⟨vs,T,_,_,_,h6,_⟩:=h5
  unfold DV.Rep
  exact ⟨_,cap,rfl,h3,(fun h=>by cases h),fun _=>⟨b,0,k,rfl,h6⟩⟩
theorem bB8 {G:Gh} {m:HM} {mv:MV} {v:Value} {f:List Nat} {w:World} (h:MV.Rep G mv v f w):AV.Rep G m mv.av v:=by
 cases mv with
 | v a=>exact AV.Rep.mono (Gh.le.refl G) (fun _ _ h=>by cases h) _ _ h.2
 | o k rs=>show AV.Rep G m (.D (.L rs)) v;unfold AV.Rep;exact aMu h
 | ow k rs=>show AV.Rep G m .any v;unfold AV.Rep;trivial
theorem eU {G:Gh} {m:HM} {lk:aH} {w:World} (hS:Sim G m lk w) {h:Hd} {v:Value} {kd:KD} {es:List (AV × MV)} {i:Option (Hd × List AV × List AV)} (hr:AV.Rep G m (.mref h) v) (hl:lk h=some (.mp kd es i)) :
  ∃ b sz fp,m h=some (.atx b sz fp)/\v=.map (some b)/\BlkX G m (.mp kd es i) b sz fp w:=by
 unfold AV.Rep at hr
 obtain ⟨_,loc,hloc,hp⟩:=hr
 have hnd:loc ≠ .dead:=fun e=>by subst e;rw [hS.dead _ hloc] at hl;cases hl
 obtain ⟨b,sz,fp,rfl,hv⟩:=hp hnd
 obtain ⟨bl,hl',hb⟩:=hS.blkx _ _ _ _ hloc
 rw [hl] at hl'
 cases hl'
 exact ⟨b,sz,fp,hloc,hv,hb⟩
theorem aPe {lk lk2:aH} (hls:LkSame lk lk2) {h:Hd} {kd:KD} {es:List (AV × MV)} {i:Option (Hd × List AV × List AV)} (hl:lk h=some (.mp kd es i)):lk2 h=some (.mp kd es i):=by
 obtain ⟨b',h1,h2⟩:=hls _ _ hl
 rcases h2 with rfl | rfl <;> exact h1

section
variable {P:Program} {o:Oper} {lk:aH} {n:Nat} {ev:Operand->AV} {K:AV->List Blk->List Hd->Prop}
theorem bEo {T e:TypeId} {kd:KD} (ho:o.op=.makeMap T none) (h:aN P lk n ev (.mkm kd) K):PS P o (.mkm kd) lk n ev K:=by
 refine ⟨_,_,_,h,(by intro hh;cases hh),(by intro h hh;cases hh),fun G m w ρ _ lk2 _ hS hev hn=>?_⟩
 refine Does.val (v:=.map (some w.heap.size)) (w':=w.alloc (.map #[] 0)) ?_ (PPost.newG hS (by simpa using hn 0 (by simp)) _ _ (.atx w.heap.size 0 []) rfl (fun m' _=>⟨fun _ _ e=>(by cases e),fun b sz fp e=>?_⟩) fun m' _ hm'=>?_)
 ·simp [execOp,ho,Instr.makeMap]
 ·cases e
  exact ⟨rfl,List.nodup_nil,#[],0,heap_alloc_new w _,MapKept.stamped_empty 0,(fun x hx=>by simp at hx),⟨rfl,rfl⟩,fun _ _ e=>by cases e⟩
 ·unfold AV.Rep
  exact ⟨rfl,_,hm',fun _=>⟨_,_,_,rfl,rfl⟩⟩
theorem bBj {T e k0:TypeId} {kd:KD} {x y:Operand} {ok:Bool} {i:TypeInfo} {z:Value} {kk:Nat} (ho:o.op=.lookup T x y ok) (hT:P.underlying T=some (.map k0 e)) (hk0:wO P k0 kd) (hi:P.info? e=some i) (hz:i.zero=some z)
  (h:aN P lk n ev (.mget kd (gC z) kk ok x y) K):PS P o (.mget kd (gC z) kk ok x y) lk n ev K:=by
 obtain ⟨hd,es,it,r,hx,hl,hy,hf,hK⟩:=h
 have key:∀ (G:Gh) (m:HM) (w:World) (ρ:Operand->Value) (lk2:aH),LkSame lk lk2->Sim G m lk2 w->AV.Rep G m (ev x) (ρ x)->AV.Rep G m (ev y) (ρ y) ->
   match r with
   | some (_,mv)=>∃ u f,MV.Rep G mv u f w/\(Instr.lookup T (ρ x) (ρ y) ok).run P w=.ok (if ok then .tuple #[u,.bool true] else u) w
   | none=>(Instr.lookup T (ρ x) (ρ y) ok).run P w=.ok (if ok then .tuple #[z,.bool false] else z) w:=fun G m w ρ lk2 hls hS hrx hry=>by
  rw [hx] at hrx
  obtain ⟨b,sz,fp,hm,hv,hb⟩:=eU hS hrx (aPe hls hl)
  obtain ⟨_,_,arr,clk,h1,h2,h3,h4,_⟩:=hb
  have hky:=aBq hry hy
  have hfo:=lY hry h4 hf
  match r,hfo with
  | none,hfo =>
   have hfn:=dG hk0 (r:=none) hky h2 h3 hfo
   simp only [Instr.lookup,Sem.run_bind,run_underlying hT,Result.andThen_ok,hv,MapKept.run_getObj_map h1,Sem.run_pure,dH hk0 hky,hfn,Option.map_none,gL hi hz]
  | some (j,mv),⟨u,k2,f1,f2,f3,q1,q2,q3,q4,q5,_⟩ =>
   have hfn:=dG hk0 (r:=some (j,u)) hky h2 h3 ⟨q1,q3⟩
   refine ⟨u.val,f2,q5,?_⟩
   simp only [Instr.lookup,Sem.run_bind,run_underlying hT,Result.andThen_ok,hv,MapKept.run_getObj_map h1,Sem.run_pure,dH hk0 hky,hfn,Option.map_some]
 match r,hK with
 | some (j,mv),hK =>
  refine ⟨_,_,_,hK,(by intro hh;cases hh),(by intro h hh;cases hh),fun G m w ρ _ lk2 hls hS hev _=>?_⟩
  obtain ⟨u,f,hu,hrun⟩:=key G m w ρ lk2 (hls rfl) hS (hev x (by simp [ROp.operands])) (hev y (by simp [ROp.operands]))
  have hu':AV.Rep G m mv.av u:=bB8 hu
  refine Does.val (v:=if ok then .tuple #[u,.bool true] else u) (w':=w) (by simp [execOp,ho,hrun]) (PPost.val hS ?_)
  cases ok with
  | true=>show AV.Rep G m (.tup [mv.av,.D (.B true)]) (.tuple #[u,.bool true]);unfold AV.Rep;exact ⟨_,rfl,by unfold AV.RepL AV.RepL AV.RepL;exact ⟨_,_,rfl,hu',_,_,rfl,by unfold AV.Rep DV.Rep;rfl,rfl⟩⟩
  | false=>exact hu'
 | none,hK =>
  refine ⟨_,_,_,hK,(by intro hh;cases hh),(by intro h hh;cases hh),fun G m w ρ _ lk2 hls hS hev _=>?_⟩
  have hrun:=key G m w ρ lk2 (hls rfl) hS (hev x (by simp [ROp.operands])) (hev y (by simp [ROp.operands]))
  have hu':AV.Rep G m (gC z) z:=aL3 G m z
  refine Does.val (v:=if ok then .tuple #[z,.bool false] else z) (w':=w) (by simp [execOp,ho,hrun]) (PPost.val hS ?_)
  cases ok with
  | true=>show AV.Rep G m (.tup [gC z,.D (.B false)]) (.tuple #[z,.bool false]);unfold AV.Rep;exact ⟨_,rfl,by unfold AV.RepL AV.RepL AV.RepL;exact ⟨_,_,rfl,hu',_,_,rfl,by unfold AV.Rep DV.Rep;rfl,rfl⟩⟩
  | false=>exact hu'
theorem EntsRep.len {G:Gh} {w:World}:∀ {es:List (AV × MV)} {xs:List MapEntry} {f:List Nat},EntsRep G es xs f w->es.length=xs.length
 | [],_,_,h=>by rw [h.1];rfl
 | e :: es,_,_,h=>by
  obtain ⟨x,xs',f,fp',rfl,rfl,h2,h3,h4⟩:=h
  exact congrArg (· + 1) h4.len
theorem bAj {c:Call} {T e k0:TypeId} {x:Operand} (ho:o.op=.call c) (hc:c.callee=.builtin .len) (ha:c.args.toList=[x]) (ht:c.argTypes.toList=[T]) (hT:P.underlying T=some (.map k0 e))
  (h:aN P lk n ev (.mlen x) K):PS P o (.mlen x) lk n ev K:=by
 obtain ⟨hd,kd,es,it,hx,hl,hK⟩:=h
 refine ⟨_,_,_,hK,(by intro hh;cases hh),(by intro h hh;cases hh),fun G m w ρ _ lk2 hls hS hev _=>?_⟩
 have ha':c.args=#[x]:=by rw [<- Array.toArray_toList (xs:=c.args),ha]
 have ht':c.argTypes=#[T]:=by rw [<- Array.toArray_toList (xs:=c.argTypes),ht]
 obtain ⟨b,sz,fp,hm,hv,hb⟩:=eU hS (hx ▸ hev x (by simp [ROp.operands])) (aPe (hls rfl) hl)
 obtain ⟨_,_,arr,clk,h1,h2,h3,h4,_⟩:=hb
 refine Does.val (v:=.int .i64 es.length) (w':=w) ?_ (PPost.val hS (by unfold AV.Rep DV.Rep;rfl))
 have hlen:=h4.len
 simp only [execOp,ho,resolve,hc,ha',ht',invoke,builtin]
 simp [Builtin.len_,run_underlying hT,hv,MapKept.run_getObj_map h1,goInt,hlen]
theorem aAd {G:Gh} {m:HM} {lk:aH} {w:World} (hS:Sim G m lk w) {hd hi:Hd} {v:Value} {kd:KD} {es:List (AV × MV)} {q:List AV × List AV} (hr:AV.Rep G m (.itr hd hi) v) (hlive:(lk hi).isSome=true) (hl:lk hd=some (.mp kd es (some (hi,q)))) :
  ∃ b sz fp bi szi fpi arr clk seen l,m hd=some (.atx b sz fp)/\m hi=some (.atx bi szi fpi)/\v=.pointer (some ⟨bi,0,none⟩)/\sz=0/\fp.Nodup/\w.heap[b]?=some (.map arr clk)/\MapKept.Stamped arr clk/\(∀ x ∈ arr.toList,fM kd x.key)/\EntsRep G es arr.toList fp w /\
   w.heap[bi]?=some (.mapIter (some b) clk seen clk)/\l.Perm (arr.toList.filter fun e=>!seen.contains e.born)/\KeysRep G q.2 l/\∀ key,q.1=[key]->∃ e ∈ arr.toList,seen.back?=some e.born/\AV.Rep G (fun _=>none) key e.key:=by
 unfold AV.Rep at hr
 obtain ⟨_,⟨lm,hlm⟩,loc,hloc,hp⟩:=hr
 have hnd:loc ≠ .dead:=fun e=>by subst e;rw [hS.dead _ hloc] at hlive;cases hlive
 obtain ⟨bi,szi,fpi,rfl,hv⟩:=hp hnd
 have hnm:lm ≠ .dead:=fun e=>by subst e;rw [hS.dead _ hlm] at hl;cases hl
 have hmx:∃ b sz fp,lm=.atx b sz fp:=by
  cases lm with
  | dead=>exact absurd rfl hnm
  | none=>obtain ⟨_,_,e⟩:=hS.nil _ hlm;rw [hl] at e;cases e
  | at_ b sz=>obtain ⟨bl,e,hb⟩:=hS.blk _ _ _ hlm;rw [hl] at e;cases e;exact hb.elim
  | atx b sz fp=>exact ⟨b,sz,fp,rfl⟩
 obtain ⟨b,sz,fp,rfl⟩:=hmx
 obtain ⟨bl,hl',hb⟩:=hS.blkx _ _ _ _ hlm
 rw [hl] at hl'
 cases hl'
 obtain ⟨h0,h0',arr,clk,h1,h2,h3,h4,h5⟩:=hb
 obtain ⟨loc2,g1,g2⟩:=h5 hi q rfl
 rw [hloc] at g1
 cases g1
 obtain ⟨bi',szi',fpi',seen,l,e,q1,q2,q3,q4⟩:=g2 (fun e=>by cases e)
 cases e
 exact ⟨b,sz,fp,bi,szi,fpi,arr,clk,seen,l,hlm,hloc,hv,h0,h0',h1,h2,h3,h4,q1,q2,q3,q4⟩
theorem bEw {x:Operand} (ho:o.op=.entry x) (h:aN P lk n ev (.ent x) K):PS P o (.ent x) lk n ev K:=by
 obtain ⟨hi,hd,kd,es,cur,rem,j,mv,hx,hlive,hl,hky,hf,hK⟩:=h
 refine ⟨_,_,_,hK,(by intro hh;cases hh),(by intro h hh;cases hh),fun G m w ρ _ lk2 hls hS hev _=>?_⟩
 obtain ⟨bi,hbi⟩:=Option.isSome_iff_exists.1 hlive
 obtain ⟨bi',hbi',_⟩:=hls rfl _ _ hbi
 obtain ⟨b,sz,fp,bi,szi,fpi,arr,clk,seen,l,_,_,hv,_,_,h1,h2,h3,h4,h5,_,_,h6⟩:=aAd hS (hx ▸ hev x (by simp [ROp.operands])) (by rw [hbi'];rfl) (aPe (hls rfl) hl)
 obtain ⟨e,he,hback,hrk⟩:=h6 cur rfl
 obtain ⟨u,k2,f1,f2,f3,q1,q2,q3,q4,q5,_⟩:=lY hrk h4 hf
 have hu:u=e:=by
  obtain ⟨j',hj'⟩:=List.getElem?_of_mem he
  have e1:(arr.toList.map (·.key))[j]?=some e.key:=by rw [List.getElem?_map,q1];simp [q3]
  have e2:(arr.toList.map (·.key))[j']?=some e.key:=by rw [List.getElem?_map,hj'];rfl
  have:=(List.getElem?_inj (List.getElem?_eq_some_iff.1 e1).1 h2.2.2).1 (e1.trans e2.symm)
  subst this
  rw [q1] at hj';exact Option.some.inj hj'
 subst hu
 have hfind:arr.find? (·.born == u.born)=some u:=by rw [<- Array.find?_toList];exact find_born u arr.toList h2.2.1 he
 refine Does.val (v:=.tuple #[u.key,u.val]) (w':=w) ?_ (PPost.val hS ?_)
 ·simp only [execOp,ho,Instr.entry,hv,getObj,Sem.run_bind,Sem.run,h5,h1,Result.andThen,hback,bne_self_eq_false,Bool.false_eq_true,if_false,hfind]
  simp
 ·unfold AV.Rep
  exact ⟨_,rfl,by unfold AV.RepL AV.RepL AV.RepL;exact ⟨_,_,rfl,AV.Rep.mono (Gh.le.refl G) (fun _ _ h=>by cases h) _ _ hrk,_,_,rfl,bB8 q5,rfl⟩⟩
end
end Go.Eng


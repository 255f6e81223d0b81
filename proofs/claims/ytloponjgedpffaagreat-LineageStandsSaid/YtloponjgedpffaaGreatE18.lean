/- Texts of this claim. -/
import Derived.Test.YtloponjgedpffaaGreatE17
set_option linter.all false
set_option linter.unusedSimpArgs false
set_option linter.unusedVariables false
namespace Go.Eng
open Go.RowKit

theorem getD_tf {listed:Array Bool} {i:Nat} (h:listed.getD i true=false):listed.getD i false=false:=by
 rcases Nat.lt_or_ge i listed.size with h' | h'
 ·simp [h'] at h |-;exact h
 ·simp [Array.getElem?_eq_none h'] at h
theorem getD_set_i {listed:Array Bool} {i j:Nat} (hi:i < listed.size):(listed.setIfInBounds i true).getD j false=true ↔ (j=i\/listed.getD j false=true):=by
 by_cases e:j=i
 ·subst e;simp [hi]
 ·have e':i ≠ j:=fun h=>e h.symm
  simp only [Array.getD_eq_getD_getElem?,Array.getElem?_setIfInBounds_ne e',e,false_or]

section
variable {P:Program} {ops:Array Oper} {N:Nat} {r:Nat->RO} {st:Nat->AState}

theorem name_of (j:Nat):∀ (d a:Nat),(st a).nx <= j->j < (st (a + d)).nx->∃ k,a <= k/\k < a + d/\(st k).nx <= j/\j < (st (k + 1)).nx
 | 0,a,h1,h2=>by simp at h2;omega
 | d + 1,a,h1,h2=>by
  by_cases h:(st (a + d)).nx <= j
  ·exact ⟨a + d,by omega,by omega,h,h2⟩
  ·obtain ⟨k,q1,q2,q3,q4⟩:=name_of j d a h1 (by omega)
   exact ⟨k,q1,by omega,q3,q4⟩

theorem ht_of_names {o:Oper} {ro:RO} {s s':AState} (h:RStep P o ro s s') (hn:s.nx < s'.nx):ro.op.ht=true:=by
 cases h with
 | skip h1 h2=>subst h2;simp [AState.put] at hn
 | run h1 he x nbs fz h2 h3 =>
  subst h2
  cases hh:ro.op.ht with
  | true=>rfl
  | false=>obtain ⟨rfl,_⟩:=h3 hh;simp [AState.put] at hn
 | eff h1 he h2=>exact eff_ht he

theorem next_eff (r:Nat->RO) (n:Nat):∀ (d i:Nat),i + d=n->∃ p,i <= p/\p <= n/\(∀ j,i <= j->j < p->(r j).op.eff=false)/\(p < n->(r p).op.eff=true)
 | 0,i,h=>⟨i,Nat.le_refl _,by omega,fun j a b=>by omega,fun h'=>by omega⟩
 | d + 1,i,h=>by
  cases he:(r i).op.eff with
  | true=>exact ⟨i,Nat.le_refl _,by omega,fun j a b=>by omega,fun _=>he⟩
  | false =>
   obtain ⟨p,a,b,c,e⟩:=next_eff r n d (i + 1) (by omega)
   refine ⟨p,by omega,b,fun j h1 h2=>?_,e⟩
   by_cases ej:j=i
   ·subst ej;exact he
   ·exact c j (by omega) h2

theorem inv_step {rd:Option Nat} (hst:∀ i,i < ops.size->∃ o,ops[i]?=some o/\ResO P ops N o (r i)/\RStep P o (r i) (st i) (st (i + 1))) {e:Nat} (hD:DrawOk ops r e) (h0:∀ j,(st 0).nx <= j->(st 0).own j=none)
  (hstab:∀ i x,i < ops.size->(r i).op.sArg=some x->∀ h,((st i).ev x).hd?=some h->∀ q,q <= ops.size->(∀ j,j < q->(r j).op.eff=true->¬ anc ops i j=true)->keepB (isLd (r i).op) ((st i).lk h) ((st q).lk h))
  {E:Ent} (hN:E.N=N) {Q:Exit->Act->World->Prop} {listed:Array Bool} {a:Act} {w:World} (hI:Inv P ops r st e E listed a w) {i:Nat} (hi:i ∈ Region.ready .any ops listed) :
  wpOpIn (FR rd) 0 P ops Q i (Inv P ops r st e E (listed.setIfInBounds i true)) a w:=by
 subst hN
 obtain ⟨hun,oi,hoi,hall⟩:=mem_ready.1 hi
 have hlt:i < ops.size:=(Array.getElem?_eq_some_iff.1 hoi).1
 have hunL:¬ listed.getD i false=true:=by rw [getD_tf hun];simp
 obtain ⟨o',ho',hres,hstep⟩:=hst i hlt
 rw [hoi] at ho'
 cases ho'
 obtain ⟨hsize,hclosed,G,m,p,hpn,hp1,hp2,hS,htm,hasz,hdef,hfr1,hfr2,hframe,hbase,hown,hearly⟩:=hI
 have haft:∀ e ∈ afterOf ops i,listed.getD e false=true:=fun e he=>by
  unfold afterOf at he
  rw [hoi] at he
  obtain ⟨ed,h1,rfl⟩:=List.mem_map.1 he
  obtain ⟨h1,h2⟩:=List.mem_filter.1 h1
  exact hall ed (by simpa using h1) h2
 have hancL:∀ j,anc ops j i=true->listed.getD j false=true:=fun j hj=>by
  obtain ⟨e,he,rfl | h2⟩:=anc_step hD.lt hlt hj
  ·exact haft _ he
  ·exact anc_listed hD.lt (L:=fun k=>listed.getD k false=true) hclosed e j (Nat.lt_trans (hD.lt i hlt e he) hlt) h2 (haft e he)
 have hancN:∀ j,j < ops.size->anc ops i j=true->¬ listed.getD j false=true:=fun j hj h hL =>
  hunL (anc_listed hD.lt (L:=fun k=>listed.getD k false=true) hclosed j i hj h hL)
 have hpe:p <= e->e < ops.size->p ≠ e:=fun h he2 h'=>by
  subst h'
  obtain ⟨zs,hz⟩:=hD.nw he2
  have:=(hp2 he2).1
  rw [hz] at this;cases this
 have hte:p <= e->e < ops.size->i ≠ e->∀ t,(r e).dst=some t->t ∉ (r i).names:=fun h he2 hie t ht hin=>by
  obtain ⟨t',ht',hus⟩:=hD.us he2
  rw [ht] at ht';cases ht'
  have hlt2:p < e:=Nat.lt_of_le_of_ne h (hpe h he2)
  obtain ⟨g1,g2⟩:=hp2 (by omega)
  rw [hancL p (hus i hlt hie hin p hlt2 g1)] at g2;cases g2
 have hver:∀ t ∈ (r i).names,Ver ops.size r (fun k=>listed.getD k false=true) t (lastW r t i):=fun t ht=>by
  obtain ⟨h1,h2⟩:=lastW_spec r t i
  refine ⟨Nat.le_trans (lastW_le r t i) (Nat.le_of_lt hlt),?_,fun j h3 h4 h5 h6=>?_⟩
  ·rcases h1 with h1 | ⟨k,h3,h4,h5⟩
   ·exact .inl h1
   ·exact .inr ⟨k,h4,hancL k (hD.wr k i h3 hlt t h5 ht),h5⟩
  ·rcases Nat.lt_trichotomy j i with h7 | h7 | h7
   ·exact h2 j h3 h7 h6
   ·subst h7;exact hunL h5
   ·exact hancN j h4 (hD.rw i j h7 h4 t h6 ht) h5
 have henv:∀ t ∈ (r i).names,AV.Rep G m ((st i).env t) (E.val a t):=fun t ht=>by
  rw [<- lastW_env hst t i (Nat.le_of_lt hlt)]
  refine htm t _ (hver t ht) fun hq=>?_
  rcases Nat.lt_or_ge e p with h | h
  ·exact h
  ·exfalso
   have hle:=lastW_le r t i
   rcases (lastW_spec r t i).1 with h1 | ⟨k,h2,h3,h4⟩
   ·omega
   ·have hke:k=e:=by omega
    subst hke
    exact hte h (by omega) (by omega) t h4 ht
 have hevs:∀ x ∈ (r i).op.operands,AV.Rep G m ((st i).ev x) (a.eval x):=fun x hx=>by
  cases x with
  | tmp t =>
   have htN:t < E.N:=by simpa [Operand.inN] using hres.xs _ hx
   show AV.Rep G m ((st i).env t) (a.tmps.getD t undef)
   rw [<- Ent.val_lt htN]
   refine henv t ?_
   unfold RO.names
   refine List.mem_append_left _ (List.mem_append_right _ ?_)
   exact List.mem_filterMap.2 ⟨_,hx,rfl⟩
  | const v=>exact constAV_rep G m v
  | global g =>
   show AV.Rep G m (match glOf g with | some ds=>.rop ds | none=>.any) (.pointer (some ⟨g,0,none⟩))
   cases hg:glOf g with
   | none=>unfold AV.Rep;trivial
   | some ds=>unfold AV.Rep;exact ⟨g,0,rfl,hS.gl g ds hg⟩
  | func f=>show AV.Rep G m (.clo f []) _;unfold AV.Rep;exact ⟨#[],rfl,by simp [AV.RepL]⟩
 have hL':∀ j,(listed.setIfInBounds i true).getD j false=true ↔ (j=i\/listed.getD j false=true):=fun j=>getD_set_i (by rw [hsize];exact hlt)
 have hclosed':∀ j,j < ops.size->(listed.setIfInBounds i true).getD j false=true->∀ e ∈ afterOf ops j,(listed.setIfInBounds i true).getD e false=true:=fun j hj h e he=>by
  rw [hL'] at h |-
  rcases h with rfl | h
  ·exact .inr (haft e he)
  ·exact .inr (hclosed j hj h e he)
 have htm':∀ {G':Gh} {m':HM} {v:Value},Gh.le G G'->HM.le m m'->(i ≠ e->∀ d,(r i).dst=some d->AV.Rep G' m' ((st (i + 1)).env d) v)->(i=e->e < p->∀ d,(r i).dst=some d->AV.Rep G' m' ((st (i + 1)).env d) v) ->
   ∀ t q,Ver ops.size r (fun k=>(listed.setIfInBounds i true).getD k false=true) t q->(q=e + 1->e < p)->AV.Rep G' m' ((st q).env t) (E.val (a.put oi.dst v) t):=fun {G' m' v} hG hm hd0 hd1 t q hv hqe=>by
  rw [val_put t hasz hres.lt,<- hres.dst]
  by_cases e':(r i).dst=some t
  ·rw [if_pos e']
   have hq:i < q:=by
    rcases Nat.lt_or_ge i q with h | h
    ·exact h
    ·exact absurd e' (hv.last i h hlt ((hL' i).2 (.inl rfl)))
   rcases hv.by_ with rfl | ⟨k,rfl,hk,hkd⟩
   ·omega
   ·have hki:k=i:=by
     rcases Nat.lt_trichotomy k i with h | h | h
     ·omega
     ·exact h
     ·exfalso
      have hkn:k < ops.size:=by have:=hv.le;omega
      have:=hancN k hkn (hD.wr i k h hkn t e' (by unfold RO.names;rw [hkd];simp))
      rcases (hL' k).1 hk with h' | h'
      ·omega
      ·exact this h'
    subst hki
    by_cases hke:k=e
    ·exact hd1 hke (hqe (by rw [hke])) t e'
    ·exact hd0 hke t e'
  ·rw [if_neg e']
   refine AV.Rep.mono hG hm _ _ (htm t q ⟨hv.le,hv.by_.imp id fun ⟨k,h1,h2,h3⟩=>⟨k,h1,?_,h3⟩,fun j h1 h2 h3=>hv.last j h1 h2 ((hL' j).2 (.inr h3))⟩ hqe)
   rcases (hL' k).1 h2 with rfl | h2
   ·exact absurd h3 e'
   ·exact h2
 have hnxmono:∀ k,k < ops.size->(st k).nx <= (st (k + 1)).nx:=fun k hk=>by obtain ⟨o,_,_,hs⟩:=hst k hk;exact rstep_nx hs
 have hnames:∀ k j,k < ops.size->(st k).nx <= j->j < (st (k + 1)).nx->(r k).op.ht=true:=fun k j hk h1 h2=>by
  obtain ⟨o,_,_,hs⟩:=hst k hk
  exact ht_of_names hs (by omega)
 have heffp:(r i).op.eff=true->p=i:=fun he=>by
  rcases Nat.lt_trichotomy p i with h | h | h
  ·exfalso
   obtain ⟨h1,h2⟩:=hp2 (by omega)
   have hie:i ≠ e:=fun hie=>by
    subst hie
    obtain ⟨zs,hz⟩:=hD.nw hlt
    rw [hz] at he;cases he
   rw [hancL p (hD.eh p i h hlt hie h1 (eff_ht he))] at h2;cases h2
  ·exact h
  ·exact absurd (hp1 i h he) hunL
 have heffe:(r i).op.eff=true->i ≠ e:=fun he hie=>by
  subst hie
  obtain ⟨zs,hz⟩:=hD.nw hlt
  rw [hz] at he;cases he
 have hvalE:p <= e->e < ops.size->i ≠ e->∀ t v,(r e).dst=some t->E.val (a.put oi.dst v) t=E.val a t:=fun h he2 hie t v ht=>by
  rw [val_put t hasz hres.lt,<- hres.dst,if_neg]
  intro h'
  exact hte h he2 hie t ht (by unfold RO.names;rw [h'];simp)
 have hlE:∀ {b sz:Nat} {es:List (List DV)} {G':Gh} {m':HM},BlkRep G' m' (.row true 1 es) b sz w->b < w.heap.size:=fun hb=>by
  unfold BlkRep at hb
  obtain ⟨vs,T,h1,_⟩:=hb
  exact (Array.getElem?_eq_some_iff.1 h1).1
 have hearlyGo:p <= e->i ≠ e->∀ {G':Gh} {m':HM} {w':World} {v:Value},(∀ b,b < w.heap.size->¬ Own m b->w'.heap[b]?=w.heap[b]?/\∀ o,G' b o=G b o)->(∀ b,b < w.heap.size->¬ Own m b->¬ Own m' b)->Gh.le G G' ->
   (e < ops.size->listed.getD e false=true->p <= e->Early r st e E G m a w)->(e < ops.size->listed.getD e false=true->Early r st e E G' m' (a.put oi.dst v) w'):=fun hpe2 hie {G' m' w' v} h1 h2 hG h he2 hl=>by
  obtain ⟨t,b,sz,es,a1,a2,a3,a4,a5,a6,a7,a8⟩:=h he2 hl hpe2
  have hbl:b < w.heap.size:=hlE (a5 m)
  have hno:¬ Own m b:=a7
  obtain ⟨g1,g2⟩:=h1 b hbl hno
  exact ⟨t,b,sz,es,a1,a2,a3,a4,fun m''=>(a5 m'').mono hG (HM.le.refl _) g2 g1,a6,h2 b hbl hno,by rw [hvalE hpe2 he2 hie t v a1];exact a8⟩
 have forEff:(r i).op.eff=true->∀ {G':Gh} {m':HM} {w':World} {v:Value},Sim G' m' (st (i + 1)).lk w'->Fr (Own E.m0) (Own E.m0) E.G0 G' E.w0 w'->KeepO w w'->Gh.le G G'->HM.le m m' ->
   (∀ b,b < w.heap.size->¬ Own m b->w'.heap[b]?=w.heap[b]?/\∀ o,G' b o=G b o)->(∀ b,b < w.heap.size->¬ Own m b->¬ Own m' b) ->
   (∀ j,SameB (E.m0 (.B j)) (m' (.B j)))->(∀ j,(j < (st i).nx\/(st (i + 1)).nx <= j)->m (.O j)=none->m' (.O j)=none)->(∀ h l b,m' h=some l->b ∈ l.blks->E.w0.heap.size <= b\/Own E.m0 b) ->
   (∀ d,(r i).dst=some d->AV.Rep G' m' ((st (i + 1)).env d) v)->Inv P ops r st e E (listed.setIfInBounds i true) (a.put oi.dst v) w':=fun he {G' m' w' v} hS' hF' hkeep hG' hmle hEh hEo hbase' hmO hown' hd=>by
  have hpi:=heffp he
  have hie:=heffe he
  subst hpi
  obtain ⟨p',hp'1,hp'2,hp'3,hp'4⟩:=next_eff r ops.size (ops.size - (p + 1)) (p + 1) (by omega)
  have hnone:∀ j,(st (p + 1)).nx <= j->j < (st p').nx->m' (.O j)=none:=fun j h1 h2=>by
   obtain ⟨k,q1,q2,q3,q4⟩:=name_of (st:=st) j (p' - (p + 1)) (p + 1) h1 (by rw [show p + 1 + (p' - (p + 1))=p' by omega];exact h2)
   have hkn:k < ops.size:=by omega
   refine hmO j (.inr h1) (hfr1 k hkn ?_ j q3 q4)
   by_cases hke:k=e
   ·exact .inr ⟨hke,by omega⟩
   ·have hkL:¬ listed.getD k false=true:=hancN k hkn (hD.eh p k (by omega) hkn hke he (hnames k j hkn q3 q4))
    exact .inl (by simpa using hkL)
  obtain ⟨G2,hS2,hF2⟩:=sim_goes hst hp'1 hp'2 (fun j h1 h2=>hp'3 j h1 h2) hnone hS'
  have hp'u:p' < ops.size->(listed.setIfInBounds p true).getD p' false=false:=fun h=>by
   have hp'e:p' ≠ e:=fun hh=>by
    subst hh
    obtain ⟨zs,hz⟩:=hD.nw h
    have:=hp'4 h
    rw [hz] at this;cases this
   have hkL:¬ listed.getD p' false=true:=hancN p' h (hD.eh p p' (by omega) h hp'e he (eff_ht (hp'4 h)))
   have:¬ (listed.setIfInBounds p true).getD p' false=true:=by
    rw [hL'];rintro (h1 | h1)
    ·omega
    ·exact hkL h1
   simpa using this
  have hlist':∀ j,j < p'->(r j).op.eff=true->(listed.setIfInBounds p true).getD j false=true:=fun j h1 h2=>by
   rw [hL']
   rcases Nat.lt_trichotomy j p with h3 | h3 | h3
   ·exact .inr (hp1 j h3 h2)
   ·exact .inl h3
   ·rw [hp'3 j (by omega) h1] at h2;cases h2
  have hFr2:Fr (Own E.m0) (Own E.m0) E.G0 G2 E.w0 w':=hF'.step hF2 (fun _ _ q=>q.elim) (fun b hb q=>by
   obtain ⟨x,l,hx,hl⟩:=q
   rcases hown' x l b hx hl with h1 | h1
   ·omega
   ·exact h1)
  have hfr1':∀ k,k < ops.size->((listed.setIfInBounds p true).getD k false=false\/(k=e/\p <= e))->∀ j,(st k).nx <= j->j < (st (k + 1)).nx->m' (.O j)=none:=fun k hk hkL j h1 h2=>by
   have hkp:k ≠ p:=fun e'=>by
    subst e'
    rcases hkL with hkL | ⟨hkL,_⟩
    ·rw [(hL' k).2 (.inl rfl)] at hkL;cases hkL
    ·exact hie hkL
   have hold:listed.getD k false=false\/(k=e/\p <= e):=hkL.imp (fun hkL=>by
    have hkL':¬ listed.getD k false=true:=fun h=>by rw [(hL' k).2 (.inr h)] at hkL;cases hkL
    simpa using hkL') id
   refine hmO j ?_ (hfr1 k hk hold j h1 h2)
   rcases Nat.lt_or_gt_of_ne hkp with h3 | h3
   ·exact .inl (Nat.lt_of_lt_of_le h2 (by have:=nx_le hst (p - (k + 1)) (k + 1) (by omega);rwa [show k + 1 + (p - (k + 1))=p by omega] at this))
   ·exact .inr (Nat.le_trans (by have:=nx_le hst (k - (p + 1)) (p + 1) (by omega);rwa [show p + 1 + (k - (p + 1))=k by omega] at this) h1)
  have hfr2':∀ j,(st ops.size).nx <= j->m' (.O j)=none:=fun j h=>hmO j (.inr (Nat.le_trans (by have:=nx_le hst (ops.size - (p + 1)) (p + 1) (by omega);rwa [show p + 1 + (ops.size - (p + 1))=ops.size by omega] at this) h)) (hfr2 j h)
  have hdef':Marks1 E.dt (E.w0.heap.size + E.sk) E.nd (a.put oi.dst v).defers w'/\E.J ((st 0).env E.N) w':=⟨by rw [put_defers];exact hdef.1.keep hkeep,E.Jkeep _ _ _ hdef.2 hkeep⟩
  by_cases hab:e < ops.size/\listed.getD e false=true/\p <= e/\e < p'
  · -- the variable that was made early is known from here on
   obtain ⟨he2,hle,hpe2,hep'⟩:=hab
   have hlt2:p < e:=Nat.lt_of_le_of_ne hpe2 (hpe hpe2 he2)
   obtain ⟨t,b,sz,es,a1,a2,a3,a4,a5,a6,a7,a8⟩:=hearlyGo hpe2 hie (v:=v) hEh hEo hG' hearly he2 hle
   have hn0:m' (.O (st e).nx)=none:=hfr1' e he2 (.inr ⟨rfl,hpe2⟩) _ (Nat.le_refl _) (by omega)
   have hlk:(st p').lk (.O (st e).nx)=some (.row true 1 es):=by
    have:=lk_same hst (p' - (e + 1)) (e + 1) (by omega) (fun k h1 h2=>by
     have hk1:=hp'3 k (by omega) (by omega)
     refine ⟨hk1,?_⟩
     cases hht:(r k).op.ht with
     | false=>rfl
     | true =>
      exfalso
      obtain ⟨q,q1,q2,q3⟩:=hD.bt he2 k (by omega) (by omega) hht hk1
      rw [hp'3 q (by omega) (by omega)] at q3;cases q3)
    rw [show e + 1 + (p' - (e + 1))=p' by omega] at this
    rw [this];exact a3
   have hbl:b < w'.heap.size:=by
    have:=a5 m
    unfold BlkRep at this
    obtain ⟨vs,T,h1,_⟩:=this
    exact (Array.getElem?_eq_some_iff.1 h1).1
   have hno:¬ Own m' b:=a7
   have hS3:=hS2.know hn0 hlk (fun m''=>(a5 m'').mono hF2.le (HM.le.refl _) (fun o=>hF2.gh b hbl hno o) rfl) a7
   have hle3:=hmSet_le (loc:=.at_ b sz) hn0
   refine ⟨by simp [hsize],hclosed',G2,hmSet m' (.O (st e).nx) (.at_ b sz),p',hp'2,hlist',fun h=>⟨hp'4 h,hp'u h⟩,hS3,fun t' q hv _=>?_,by rw [put_size];exact hasz,hdef',fun k hk hkL j h1 h2=>?_,fun j h=>?_,hFr2,fun j=>?_,fun x l b' hx hl=>?_,fun _ _ h=>by omega⟩
   ·by_cases hqe:q=e + 1
    ·subst hqe
     have htt:t'=t:=by
      rcases hv.by_ with h1 | ⟨k,h1,_,h3⟩
      ·omega
      ·have:k=e:=by omega
       subst this
       rw [a1] at h3;cases h3;rfl
     subst htt
     rw [a4,a8]
     exact eptr_new (b:=b) (sz:=sz) (by simp [hmSet])
    ·exact AV.Rep.mono hF2.le hle3 _ _ (htm' hG' hmle (fun _=>hd) (fun h=>absurd h hie) t' q hv (fun h=>absurd h hqe))
   ·have hke:k ≠ e:=fun hh=>by
     subst hh
     rcases hkL with h | ⟨_,h⟩
     ·rw [(hL' k).2 (.inr hle)] at h;cases h
     ·omega
    have:j ≠ (st e).nx:=fun hh=>by
     subst hh
     rcases Nat.lt_or_gt_of_ne hke with h3 | h3
     ·have:=nx_le hst (e - (k + 1)) (k + 1) (by omega);rw [show k + 1 + (e - (k + 1))=e by omega] at this;omega
     ·have:=nx_le hst (k - (e + 1)) (e + 1) (by omega);rw [show e + 1 + (k - (e + 1))=k by omega] at this;omega
    unfold hmSet
    rw [if_neg (fun h=>this (by cases h;rfl))]
    exact hfr1' k hk (hkL.imp id fun h=>absurd h.1 hke) j h1 h2
   ·have:=nx_le hst (ops.size - (e + 1)) (e + 1) (by omega)
    rw [show e + 1 + (ops.size - (e + 1))=ops.size by omega] at this
    unfold hmSet
    rw [if_neg (fun h'=>by cases h';omega)]
    exact hfr2' j h
   ·unfold hmSet
    rw [if_neg (fun h=>by cases h)]
    exact hbase' j
   ·unfold hmSet at hx
    split at hx
    ·cases hx;rw [List.mem_singleton.1 hl];exact .inl a6
    ·exact hown' x l b' hx hl
  ·refine ⟨by simp [hsize],hclosed',G2,m',p',hp'2,hlist',fun h=>⟨hp'4 h,hp'u h⟩,hS2,fun t' q hv hqe=>?_,by rw [put_size];exact hasz,hdef',fun k hk hkL=>hfr1' k hk (hkL.imp id fun h=>⟨h.1,by omega⟩),hfr2',hFr2,hbase',hown',fun he2 hle hp'e=>?_⟩
   ·refine AV.Rep.mono hF2.le (HM.le.refl m') _ _ (htm' hG' hmle (fun _=>hd) (fun h=>absurd h hie) t' q hv fun hq=>?_)
    have h1:=hqe hq
    rcases Nat.lt_or_ge e p with h2 | h2
    ·exact h2
    ·exfalso
     refine hab ⟨by have:=hv.le;omega,?_,h2,h1⟩
     rcases hv.by_ with h3 | ⟨k,h3,h4,_⟩
     ·omega
     ·have:k=e:=by omega
      subst this
      rcases (hL' k).1 h4 with h5 | h5
      ·exact absurd h5.symm hie
      ·exact h5
   ·have hle':listed.getD e false=true:=by
     rcases (hL' e).1 hle with h5 | h5
     ·exact absurd h5.symm hie
     ·exact h5
    obtain ⟨t,b,sz,es,a1,a2,a3,a4,a5,a6,a7,a8⟩:=hearlyGo (by omega) hie (v:=v) hEh hEo hG' hearly he2 hle'
    have hbl:b < w'.heap.size:=by
     have:=a5 m
     unfold BlkRep at this
     obtain ⟨vs,T,h1,_⟩:=this
     exact (Array.getElem?_eq_some_iff.1 h1).1
    have hno:¬ Own m' b:=a7
    exact ⟨t,b,sz,es,a1,a2,a3,a4,fun m''=>(a5 m'').mono hF2.le (HM.le.refl _) (fun o=>hF2.gh b hbl hno o) rfl,a6,a7,a8⟩
 have forRest:(r i).op.eff=false->(i=e->e < p)->∀ {G':Gh} {m':HM} {w':World} {v:Value},Sim G' m' (st p).lk w'->Fr (Own E.m0) (Own E.m0) E.G0 G' E.w0 w'->KeepO w w'->Gh.le G G'->HM.le m m' ->
   (∀ b,b < w.heap.size->¬ Own m b->w'.heap[b]?=w.heap[b]?/\∀ o,G' b o=G b o)->(∀ b,b < w.heap.size->¬ Own m b->¬ Own m' b) ->
   (∀ j,m' (.B j)=m (.B j))->(∀ j,(j < (st i).nx\/(st (i + 1)).nx <= j)->m' (.O j)=m (.O j))->(∀ h l b,m' h=some l->b ∈ l.blks->E.w0.heap.size <= b\/Own E.m0 b) ->
   (∀ d,(r i).dst=some d->AV.Rep G' m' ((st (i + 1)).env d) v)->Inv P ops r st e E (listed.setIfInBounds i true) (a.put oi.dst v) w':=fun he hiep {G' m' w' v} hS' hF' hkeep hG' hm' hEh hEo hmB hmO hown' hd=>by
  refine ⟨by simp [hsize],hclosed',G',m',p,hpn,fun j h1 h2=>(hL' j).2 (.inr (hp1 j h1 h2)),fun h=>⟨(hp2 h).1,?_⟩,hS',htm' hG' hm' (fun _=>hd) (fun _ _=>hd),by rw [put_size];exact hasz,⟨by rw [put_defers];exact hdef.1.keep hkeep,E.Jkeep _ _ _ hdef.2 hkeep⟩,fun k hk hkL j h1 h2=>?_,fun j h=>?_,hF',fun j=>by rw [hmB];exact hbase j,hown',fun he2 hle hpe2=>?_⟩
  ·have:¬ (listed.setIfInBounds i true).getD p false=true:=by
    rw [hL'];rintro (h1 | h1)
    ·subst h1;rw [(hp2 h).1] at he;cases he
    ·rw [(hp2 h).2] at h1;cases h1
   simpa using this
  ·have hki:k ≠ i:=fun e'=>by
    subst e'
    rcases hkL with hkL | ⟨hkL,h⟩
    ·rw [(hL' k).2 (.inl rfl)] at hkL;cases hkL
    ·have:=hiep hkL;omega
   have hold:listed.getD k false=false\/(k=e/\p <= e):=hkL.imp (fun hkL=>by
    have hkL':¬ listed.getD k false=true:=fun h=>by rw [(hL' k).2 (.inr h)] at hkL;cases hkL
    simpa using hkL') id
   rw [hmO j ?_]
   ·exact hfr1 k hk hold j h1 h2
   ·rcases Nat.lt_or_gt_of_ne hki with h3 | h3
    ·exact .inl (Nat.lt_of_lt_of_le h2 (by have:=nx_le hst (i - (k + 1)) (k + 1) (by omega);rwa [show k + 1 + (i - (k + 1))=i by omega] at this))
    ·exact .inr (Nat.le_trans (by have:=nx_le hst (k - (i + 1)) (i + 1) (by omega);rwa [show i + 1 + (k - (i + 1))=k by omega] at this) h1)
  ·rw [hmO j (.inr (Nat.le_trans (by have:=nx_le hst (ops.size - (i + 1)) (i + 1) (by omega);rwa [show i + 1 + (ops.size - (i + 1))=ops.size by omega] at this) h))]
   exact hfr2 j h
  ·have hie:i ≠ e:=fun h=>by have:=hiep h;omega
   have hle':listed.getD e false=true:=by
    rcases (hL' e).1 hle with h5 | h5
    ·exact absurd h5.symm hie
    ·exact h5
   exact hearlyGo hpe2 hie hEh hEo hG' hearly he2 hle'
 have hyield:∀ (j t:Nat),(ops[j]?).bind (·.dst)=some t->yielded ops a.tmps j=match a.tmps.getD t undef with | .bool b=>some b | _=>none:=fun j t ht=>by
  unfold yielded
  rw [ht]
  simp only [Option.bind_some,Array.getD_eq_getD_getElem?]
  cases a.tmps[t]? with
  | none=>rfl
  | some v=>cases v <;> rfl
 have hgname:∀ t want,(r i).guard=some (t,want)->t ∈ (r i).names:=fun t want h=>by unfold RO.names;rw [h];simp
 have hwT:gTrue (r i) (st i).env->Region.wanted oi (yielded ops a.tmps)=true:=fun hg=>by
  have hgd:=hres.guard
  cases hog:oi.guard with
  | none=>simp [Region.wanted,hog]
  | some g =>
   obtain ⟨j,want⟩:=g
   rw [hog] at hgd
   obtain ⟨t,ht,htN,hgd⟩:=hgd
   unfold gTrue at hg
   rw [hgd] at hg
   have hv:=rep_B (hg ▸ henv t (hgname t want hgd))
   rw [Ent.val_lt htN] at hv
   simp only [Region.wanted,hog,hyield j t ht,hv]
   cases want <;> rfl
 have hwF:gFalse (r i) (st i).env->Region.wanted oi (yielded ops a.tmps)=false:=fun hg=>by
  have hgd:=hres.guard
  cases hog:oi.guard with
  | none=>rw [hog] at hgd;unfold gFalse at hg;rw [hgd] at hg;exact hg.elim
  | some g =>
   obtain ⟨j,want⟩:=g
   rw [hog] at hgd
   obtain ⟨t,ht,htN,hgd⟩:=hgd
   unfold gFalse at hg
   rw [hgd] at hg
   rcases hg with ⟨c,hc,hne⟩ | ⟨v,hc⟩
   ·have hv:=rep_B (hc ▸ henv t (hgname t want hgd))
    rw [Ent.val_lt htN] at hv
    simp only [Region.wanted,hog,hyield j t ht,hv]
    cases c <;> cases want <;> first | rfl | exact absurd rfl hne
   ·have hv:=henv t (hgname t want hgd)
    rw [hc,Ent.val_lt htN] at hv
    unfold AV.Rep DV.Rep at hv
    simp only [Region.wanted,hog,hyield j t ht,hv]
    rfl
 unfold wpOpIn
 rw [hoi]
 simp only
 cases hstep with
 | skip h1 h2 =>
  rw [hwF h1]
  refine ⟨fun f _=>FR_fn rd f,?_⟩
  have hun':∀ (m':HM) d,(r i).dst=some d->AV.Rep G m' ((st (i + 1)).env d) undef:=fun m' d hd=>by
   rw [h2]
   show AV.Rep G m' (setDst (st i).env (r i).dst .un d) undef
   rw [hd]
   show AV.Rep G m' (upd (st i).env d .un d) undef
   unfold upd
   rw [if_pos rfl]
   unfold AV.un AV.Rep DV.Rep
   rfl
  have hlk:(st (i + 1)).lk=(st i).lk:=by rw [h2,lk_put,lkN_nil,lkF_nil]
  have hnx:(st (i + 1)).nx=(st i).nx:=by rw [h2];rfl
  cases he:(r i).op.eff with
  | true =>
   have hpi:=heffp he
   exact forEff he (by rw [hlk,<- hpi];exact hS) hframe (KeepO.refl w) (Gh.le.refl G) (HM.le.refl m) (fun _ _ _=>⟨rfl,fun _=>rfl⟩) (fun _ _ h=>h) hbase (fun _ _ h=>h) hown (hun' m)
  | false =>
   refine forRest he (fun hie=>?_) hS hframe (KeepO.refl w) (Gh.le.refl G) (HM.le.refl m) (fun _ _ _=>⟨rfl,fun _=>rfl⟩) (fun _ _ h=>h) (fun _=>rfl) (fun _ _=>rfl) hown (hun' m)
   exfalso
   subst hie
   unfold gFalse at h1
   rw [hD.gd hlt] at h1
   exact h1
 | eff h1 he h2 =>
  rw [hwT h1]
  have hpi:=heffp he
  have hO:∀ b,b < E.w0.heap.size->Own m b->Own E.m0 b:=fun b hb ⟨y,l,hy,hl⟩=>by
   rcases hown y l b hy hl with h | h
   ·omega
   ·exact h
  refine does_wpIn (h2.run G m w a.eval (fun _=>rfl) (hpi ▸ hS) hevs (fun j q1 q2=>hfr1 i hlt (.inl (getD_tf hun)) _ q1 q2)) fun v w' hp'=>?_
  obtain ⟨G1,m1,hS1,hr1,hF1,hle1,hB1,hO1,hnew1⟩:=hp'
  refine forEff he hS1 (hframe.step hF1 hO hO) (hF1.keep fun b q=>hS.data q) hF1.le hle1 (fun b hb hno=>⟨hF1.heap b hb hno,fun o=>hF1.gh b hb hno o⟩) (fun b hb hno ⟨x,l,hx,hl⟩=>?_) (fun j=>(hbase j).trans (hB1 j)) (fun j hj hn=>(hO1 j hj).none hn) (fun x l b hj hl=>?_) hr1
  ·rcases hnew1 x l b hx hl with q | q
   ·omega
   ·exact hno q
  ·rcases hnew1 x l b hj hl with q | q
   ·exact .inl (Nat.le_trans hframe.size q)
   ·rcases Nat.lt_or_ge b E.w0.heap.size with q2 | q2
    ·exact .inr (hO b q2 q)
    ·exact .inl q2
 | run h1 he x nbs fz h2 h3 h5 h4 h6 =>
  rw [hwT h1]
  have hnx:(st (i + 1)).nx=(st i).nx + nbs.length:=by rw [h2];rfl
  by_cases hearly2:i=e/\p <= e
  · -- it is made early
   obtain ⟨hie,hpe2⟩:=hearly2
   subst hie
   obtain ⟨zs,hz⟩:=hD.nw hlt
   obtain ⟨rfl,es,rfl,rfl,hnew⟩:=h6 (by rw [hz];rfl)
   obtain ⟨t,ht,_⟩:=hD.us hlt
   refine does_wpIn (hnew G m (st p).lk w a.eval hS) fun v w' hp'=>?_
   obtain ⟨rfl,vs,T,rfl,hblk⟩:=hp'
   have hFa:Fr (fun _=>False) (fun _=>False) G G w (w.alloc (.cells vs T)):=Fr.alloc _
   refine ⟨by simp [hsize],hclosed',G,m,p,hpn,fun j h1 h2=>(hL' j).2 (.inr (hp1 j h1 h2)),fun h=>⟨(hp2 h).1,?_⟩,hS.alloc _,htm' (Gh.le.refl G) (HM.le.refl m) (fun h=>absurd rfl h) (fun _ h=>by omega),by rw [put_size];exact hasz,⟨by rw [put_defers];exact hdef.1.keep (hFa.keep fun b q=>q.elim),E.Jkeep _ _ _ hdef.2 (hFa.keep fun b q=>q.elim)⟩,fun k hk hkL j g1 g2=>?_,hfr2,hframe.step hFa (fun _ _ q=>q.elim) (fun _ _ q=>q.elim),hbase,hown,fun _ _ _=>?_⟩
   ·have:¬ (listed.setIfInBounds i true).getD p false=true:=by
     rw [hL'];rintro (g1 | g1)
     ·exact hpe hpe2 hlt g1
     ·rw [(hp2 h).2] at g1;cases g1
    simpa using this
   ·by_cases hki:k=i
    ·subst hki;exact hfr1 k hk (.inl (getD_tf hun)) j g1 g2
    ·refine hfr1 k hk (.inl ?_) j g1 g2
     rcases hkL with hkL | ⟨hkL,_⟩
     ·have hkL':¬ listed.getD k false=true:=fun h=>by rw [(hL' k).2 (.inr h)] at hkL;cases hkL
      simpa using hkL'
     ·exact absurd hkL hki
   ·refine ⟨t,w.heap.size,vs.size,es,ht,by rw [hnx];rfl,?_,?_,hblk,hframe.size,fun ⟨x,l,hx,hl⟩=>?_,?_⟩
    ·rw [h2,lk_put,lkF_nil]
     simp [lkN]
    ·rw [h2]
     show setDst (st i).env (r i).dst _ t=_
     rw [ht]
     show upd (st i).env t _ t=_
     unfold upd
     rw [if_pos rfl]
    ·have:=hS.ltG hx hl;omega
    ·rw [val_put t hasz hres.lt,<- hres.dst,if_pos ht]
  have hiep:i=e->e < p:=fun h=>Nat.lt_of_not_le fun h'=>hearly2 ⟨h,h'⟩
  have hip:(r i).op.ht=true->i < p/\∀ j,i <= j->j < p->(r j).op.eff=false:=fun hht=>by
   have hlt':i < p:=by
    rcases Nat.lt_trichotomy p i with h | h | h
    ·exfalso
     obtain ⟨g1,g2⟩:=hp2 (by omega)
     rw [hancL p (hD.eh p i h hlt (fun hh=>by have:=hiep hh;omega) g1 hht)] at g2;cases g2
    ·exfalso
     obtain ⟨g1,g2⟩:=hp2 (by omega)
     rw [h] at g1;rw [g1] at he;cases he
    ·exact h
   refine ⟨hlt',fun j g1 g2=>?_⟩
   cases hej:(r j).op.eff with
   | false=>rfl
   | true =>
    exfalso
    rcases Nat.eq_or_lt_of_le g1 with g3 | g3
    ·subst g3;rw [hej] at he;cases he
    ·exact hancN j (by omega) (hD.he i j g3 (by omega) hht hej) (hp1 j g2 hej)
  have hnone:=own_none hst h0
  have hls:(r i).op.ht=true->LkSame (st i).lk (st p).lk:=fun hht=>by
   obtain ⟨g1,g2⟩:=hip hht
   obtain ⟨hs,hh⟩:=lk_goes hst (p - i) i (by omega) (fun j a1 a2=>g2 j a1 (by omega))
   rw [show i + (p - i)=p by omega] at hh
   intro h b hb
   have:=hh h (fun j a1 _ e=>by
    subst e
    have:(st i).own j=some b:=hb
    rw [hnone i (Nat.le_of_lt hlt) j a1] at this;cases this)
   rw [hb] at this
   split at this
   ·exact ⟨_,this,.inr rfl⟩
   ·exact ⟨_,this,.inl rfl⟩
  have hneed:Need (r i).op (st i).ev (st i).lk (st p).lk:=by
   unfold Need
   split
   ·rename_i x hl
    exact fun h hx=>hstab i x hlt hl h hx p hpn fun j hj he ha=>hancN j (by omega) ha (hp1 j hj he)
   ·exact hls
  refine does_wpIn (h4 G m w a.eval (fun _=>rfl) (st p).lk hneed hS hevs (fun j hj=>hfr1 i hlt (.inl (getD_tf hun)) _ (by omega) (by omega))) fun v w' hp'=>?_
  obtain ⟨G1,m1,hS1,hr1,hF1,hold,hnew⟩:=hp'
  have hm1:HM.le m m1:=fun h loc hx=>.inl (.inl (by
   rw [hold h (fun j hj e=>by subst e;rw [hfr1 i hlt (.inl (getD_tf hun)) _ (by omega) (by omega)] at hx;cases hx)];exact hx))
  have hfin:∃ G2,Sim G2 m1 (st p).lk w'/\Fr (fun _=>False) (fun b=>w.heap.size <= b\/Own m b) G1 G2 w' w':=by
   cases hht:(r i).op.ht with
   | false =>
    obtain ⟨rfl,rfl⟩:=h3 hht
    rw [lkN_nil,lkF_nil] at hS1
    exact ⟨G1,hS1,Fr.refl _ _ _ _⟩
   | true =>
    obtain ⟨g1,g2⟩:=hip hht
    obtain ⟨hs,hh⟩:=lk_goes hst (p - (i + 1)) (i + 1) (by omega) (fun j a1 a2=>g2 j (by omega) (by omega))
    rw [show i + 1 + (p - (i + 1))=p by omega] at hh
    have hnew1:(st (i + 1)).lk=lkN (lkF (st i).lk fz) (st i).nx nbs:=by rw [h2,lk_put]
    let ns:List Hd:=((List.range nbs.length).map fun j=>Hd.O ((st i).nx + j)).filter (fun h=>decide (h ∈ hs))
    obtain ⟨G2,k1,k2,k3⟩:=hS1.freeze ns
    refine ⟨G2,k1.congr (fun h hh1=>?_),rfl,.same rfl rfl,rfl,Nat.le_refl _,fun _ _ _=>rfl,fun b hb hnb o=>k3 b (fun h hin sz e=>?_) o,k2⟩
    ·by_cases hc:∃ j,j < nbs.length/\h=.O ((st i).nx + j)
     ·obtain ⟨j,hj,rfl⟩:=hc
      have e1:(st p).lk (.O ((st i).nx + j))=if Hd.O ((st i).nx + j) ∈ hs then ((st (i + 1)).lk (.O ((st i).nx + j))).map Blk.frz else (st (i + 1)).lk (.O ((st i).nx + j)) :=
       hh _ (fun k a1 _ e=>by cases e;omega)
      have e2:(st (i + 1)).lk (.O ((st i).nx + j))=lkN (lkF (st p).lk fz) (st i).nx nbs (.O ((st i).nx + j)):=by
       rw [hnew1]
       simp only [lkN]
       rw [if_pos ⟨by omega,by omega⟩,if_pos ⟨by omega,by omega⟩]
      have e3:(Hd.O ((st i).nx + j) ∈ ns) ↔ Hd.O ((st i).nx + j) ∈ hs:=by
       simp only [ns,List.mem_filter,List.mem_map,List.mem_range,decide_eq_true_eq]
       exact ⟨fun h=>h.2,fun h=>⟨⟨j,hj,rfl⟩,h⟩⟩
      unfold lkF at *
      rw [e1,e2]
      by_cases e4:Hd.O ((st i).nx + j) ∈ hs
      ·rw [if_pos e4,if_pos (e3.2 e4)]
      ·rw [if_neg e4,if_neg (fun h=>e4 (e3.1 h))]
     ·have hc':∀ j,j < nbs.length->h ≠ .O ((st i).nx + j):=fun j hj e=>hc ⟨j,hj,e⟩
      have hns:h ∉ ns:=fun hin=>by
       simp only [ns,List.mem_filter,List.mem_map,List.mem_range] at hin
       obtain ⟨⟨j,hj,rfl⟩,_⟩:=hin
       exact hc' j hj rfl
      have e1:lkN (lkF (st p).lk fz) (st i).nx nbs h=lkF (st p).lk fz h:=by
       cases h with
       | B j=>rfl
       | O j =>
        simp only [lkN]
        rw [if_neg (fun hcc=>hc' (j - (st i).nx) (by omega) (by rw [show (st i).nx + (j - (st i).nx)=j by omega]))]
      show (st p).lk h=lkF (lkN (lkF (st p).lk fz) (st i).nx nbs) ns h
      have e2:lkF (lkN (lkF (st p).lk fz) (st i).nx nbs) ns h=lkN (lkF (st p).lk fz) (st i).nx nbs h:=by
       show (if h ∈ ns then _ else _)=_
       rw [if_neg hns]
      rw [e2,e1]
      show (st p).lk h=if h ∈ fz then ((st p).lk h).map Blk.frz else (st p).lk h
      by_cases e3:h ∈ fz
      ·rw [if_pos e3]
       have hex:=h5 h e3
       obtain ⟨b,hb⟩:=Option.isSome_iff_exists.1 hex
       have hsmall:∀ j,(st i).nx <= j->h ≠ .O j:=fun j a1 e=>by
        subst e
        have:(st i).own j=some b:=hb
        rw [hnone i (Nat.le_of_lt hlt) j a1] at this;cases this
       have e4:(st (i + 1)).lk h=(some b).map Blk.frz:=by
        rw [hnew1]
        have:lkN (lkF (st i).lk fz) (st i).nx nbs h=lkF (st i).lk fz h:=by
         cases h with
         | B j=>rfl
         | O j=>simp only [lkN];rw [if_neg (fun hcc=>hsmall j hcc.1 rfl)]
        rw [this]
        show (if h ∈ fz then ((st i).lk h).map Blk.frz else (st i).lk h)=_
        rw [if_pos e3,hb]
       have e5:=hh h (fun j a1 _=>hsmall j (by omega))
       rw [e4] at e5
       rw [e5]
       split <;> simp [Blk.frz_frz]
      ·rw [if_neg e3]
    ·simp only [ns,List.mem_filter,List.mem_map,List.mem_range] at hin
     obtain ⟨⟨j,hj,rfl⟩,_⟩:=hin
     exact hnb (.inl (hnew j _ b hj e (List.mem_singleton.2 rfl)))
  obtain ⟨G2,hS2,hF2⟩:=hfin
  have hF12:Fr (Own E.m0) (Own E.m0) E.G0 G2 E.w0 w':=by
   have hO:∀ b,b < E.w0.heap.size->Own m b->Own E.m0 b:=fun b hb ⟨y,l,hy,hl⟩=>by
    rcases hown y l b hy hl with h | h
    ·omega
    ·exact h
   refine (hframe.step hF1 (fun _ _ q=>q.elim) hO).step hF2 (fun _ _ q=>q.elim) (fun b hb q=>?_)
   rcases q with q | q
   ·have:=hframe.size;omega
   ·exact hO b hb q
  refine forRest he hiep hS2 hF12 (hF1.keep fun b q=>q.elim) (hF1.le.trans hF2.le) hm1 (fun b hb hno=>⟨hF1.heap b hb (fun q=>q),fun o=>?_⟩) (fun b hb hno ⟨y,l,hy,hl⟩=>?_) (fun j=>hold _ (fun _ _ e=>by cases e)) (fun j hj=>hold _ (fun k hk e=>by cases e;omega)) (fun x l b hj hl=>?_) (fun d hd=>?_)
  ·have hb1:b < w'.heap.size:=Nat.lt_of_lt_of_le hb hF1.size
   rw [hF2.gh b hb1 (fun q=>q.elim (fun q=>by omega) hno) o]
   exact hF1.gh b hb hno o
  ·by_cases hc:∃ k,k < nbs.length/\y=.O ((st i).nx + k)
   ·obtain ⟨k,hk,rfl⟩:=hc
    have:=hnew k l b hk hy hl
    omega
   ·rw [hold y (fun k hk e'=>hc ⟨k,hk,e'⟩)] at hy
    exact hno ⟨_,l,hy,hl⟩
  ·by_cases hc:∃ k,k < nbs.length/\x=.O ((st i).nx + k)
   ·obtain ⟨k,hk,rfl⟩:=hc
    exact .inl (Nat.le_trans hframe.size (hnew k l b hk hj hl))
   ·rw [hold x (fun k hk e=>hc ⟨k,hk,e⟩)] at hj
    exact hown x l b hj hl
  ·refine AV.Rep.mono hF2.le (HM.le.refl m1) _ _ ?_
   rw [h2]
   show AV.Rep G1 m1 (setDst (st i).env (r i).dst x d) v
   rw [hd]
   show AV.Rep G1 m1 (upd (st i).env d x d) v
   unfold upd
   rw [if_pos rfl]
   exact hr1

end
end Go.Eng


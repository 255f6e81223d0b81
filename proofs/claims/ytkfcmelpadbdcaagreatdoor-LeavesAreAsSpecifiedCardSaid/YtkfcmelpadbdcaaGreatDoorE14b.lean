/- Texts of this claim. -/
import Derived.Test.YtkfcmelpadbdcaaGreatDoorE14
set_option linter.all false
set_option linter.unusedSimpArgs false
set_option linter.unusedVariables false
namespace Go.Eng
open Go.RowKit

def EPost (G:Gh) (m:HM) (s:AState) (dst:Option Nat) (s':AState) (w:World) (v:Value) (w':World):Prop :=
 ∃ G' m',Sim G' m' s'.lk w'/\(∀ d,dst=some d->AV.Rep G' m' (s'.env d) v)/\Fr (Own m) (Own m) G G' w w'/\HM.le m m' /\
  (∀ i,SameB (m (.B i)) (m' (.B i))) /\
  (∀ j,(j < s.nx\/s'.nx <= j)->SameB (m (.O j)) (m' (.O j))) /\
  (∀ h l b,m' h=some l->b ∈ l.blks->w.heap.size <= b\/Own m b)

structure EOk (P:Program) (o:Oper) (xs:List Operand) (dst:Option Nat) (s s':AState):Prop where
 env:∀ t,dst ≠ some t->s'.env t=s.env t
 nx:s.nx <= s'.nx
 own:(∀ i,s.nx <= i->s.own i=none)->∀ i,s'.nx <= i->s'.own i=none
 run:∀ (G:Gh) (m:HM) (w:World) (ρ:Operand->Value),(∀ v,ρ (.const v)=v)->Sim G m s.lk w->(∀ x ∈ xs,AV.Rep G m (s.ev x) (ρ x))->(∀ j,s.nx <= j->j < s'.nx->m (.O j)=none) ->
  Does P o ρ w (EPost G m s dst s' w)

structure EOkX (P:Program) (o:Oper) (xs:List Operand) (dst:Option Nat) (s s':AState) (X:HM->World->World->Prop):Prop where
 env:∀ t,dst ≠ some t->s'.env t=s.env t
 nx:s.nx <= s'.nx
 own:(∀ i,s.nx <= i->s.own i=none)->∀ i,s'.nx <= i->s'.own i=none
 run:∀ (G:Gh) (m:HM) (w:World) (ρ:Operand->Value),(∀ v,ρ (.const v)=v)->Sim G m s.lk w->(∀ x ∈ xs,AV.Rep G m (s.ev x) (ρ x))->(∀ j,s.nx <= j->j < s'.nx->m (.O j)=none) ->
  Does P o ρ w fun v w'=>EPost G m s dst s' w v w'/\X m w w'
theorem EOkX.ok {P:Program} {o:Oper} {xs:List Operand} {dst:Option Nat} {s s':AState} {X:HM->World->World->Prop} (h:EOkX P o xs dst s s' X):EOk P o xs dst s s' :=
 ⟨h.env,h.nx,h.own,fun G m w ρ h1 h2 h3 h4=>(h.run G m w ρ h1 h2 h3 h4).mono fun _ _ h=>h.1⟩
def OwnAt (m:HM) (h:Hd) (b:Nat):Prop:=∃ l,m h=some l/\b ∈ l.blks
theorem OwnAt.at_ {m:HM} {h:Hd} {b sz:Nat} (hm:m h=some (.at_ b sz)):OwnAt m h b:=⟨_,hm,List.mem_singleton.2 rfl⟩
theorem OwnAt.own {m:HM} {h:Hd} {b:Nat} (q:OwnAt m h b):Own m b:=let ⟨l,q1,q2⟩:=q;⟨h,l,q1,q2⟩
def HeapAt (h:Hd) (m:HM) (w w':World):Prop:=∀ b,b < w.heap.size->¬ OwnAt m h b->w'.heap[b]?=w.heap[b]?
theorem Fr.at_ {m:HM} {h:Hd} {og:Nat->Prop} {G G':Gh} {w w':World} (hF:Fr (OwnAt m h) og G G' w w'):Fr (Own m) og G G' w w'/\HeapAt h m w w':=⟨hF.mono (fun _ _ ⟨l,q1,q2⟩=>⟨h,l,q1,q2⟩) (fun _ _ q=>q),fun b hb ho=>hF.heap b hb ho⟩
theorem AtS.eff {P:Program} {o:Oper} {xs:List Operand} {E:Ent} {G:Gh} {m:HM} {s s':AState} {a:Act} {w:World} (h:AtS E G m s a w) {dst:Option Nat} (hd:∀ d,dst=some d->d < E.N) (hx:∀ x ∈ xs,x.inN E.N=true) (hE:EOk P o xs dst s s') :
  Does P o a.eval w fun v w'=>ASim E s' (a.put dst v) w':=by
 refine (hE.run G m w a.eval (fun _=>rfl) h.sim (fun x hm=>h.evs x (hx x hm)) (fun j hj _=>h.fresh j hj)).mono fun v w' hp=>?_
 obtain ⟨G',m',hS,hr,hF,hle,hB,hO,hnew⟩:=hp
 have hk:KeepO w w':=hF.keep (fun b q=>h.sim.data q)
 refine ⟨G',m',hS,fun t=>?_,by rw [put_size];exact h.size,by rw [put_defers];exact h.defers.keep hk,by rw [hE.env _ (fun e=>Nat.lt_irrefl _ (hd _ e))];exact E.Jkeep _ _ _ h.jok hk,fun i hi=>?_,h.frame.step hF (fun b hb q=>h.ownOld hb q) (fun b hb q=>h.ownOld hb q),fun i=>(h.base i).trans (hB i),fun x l b hi hl=>?_,h.noO,hE.own h.nxOk⟩
 ·rw [val_put t h.size hd]
  by_cases e:dst=some t
  ·rw [if_pos e];exact hr t e
  ·rw [if_neg e,hE.env t e];exact AV.Rep.mono hF.le hle _ _ (h.env t)
 ·exact (hO i (.inr hi)).none (h.fresh i (Nat.le_trans hE.nx hi))
 ·rcases hnew x l b hi hl with h1 | h1
  ·exact .inl (Nat.le_trans h.frame.size h1)
  ·rcases Nat.lt_or_ge b E.w0.heap.size with h2 | h2
   ·exact .inr (h.ownOld h2 h1)
   ·exact .inl h2

theorem Sim.kill {G:Gh} {m:HM} {lk:Look} {w:World} (hS:Sim G m lk w) (h:Hd):Sim G (hmSet m h .dead) (fun x=>if x=h then none else lk x) w:=by
 have hle:HM.le m (hmSet m h .dead):=fun x loc hx=>by
  unfold hmSet
  by_cases e:x=h
  ·rw [if_pos e];exact .inr rfl
  ·rw [if_neg e];exact .inl (.inl hx)
 have get:∀ {x loc},hmSet m h .dead x=some loc->loc ≠ .dead->x ≠ h/\m x=some loc:=fun {x loc} hx hl=>by
  unfold hmSet at hx
  split at hx
  ·cases hx;exact absurd rfl hl
  ·exact ⟨‹_›,hx⟩
 refine ⟨fun x b sz hx=>?_,fun x hx=>?_,fun x y l l' b hx hy hb hb'=>?_,hS.gh,fun x hx=>?_,hS.gl,fun x b sz fp hx=>?_⟩
 rotate_right
 ·obtain ⟨e,hx⟩:=get hx (by simp)
  obtain ⟨bl,h1,h2⟩:=hS.blkx x b sz fp hx
  exact ⟨bl,by rw [if_neg e];exact h1,h2.mono (Gh.le.refl G) hle (fun _ _ _=>rfl) (fun _ _=>rfl) (KeepIt.refl _ _)⟩
 ·obtain ⟨e,hx⟩:=get hx (by simp)
  obtain ⟨bl,h1,h2⟩:=hS.blk x b sz hx
  exact ⟨bl,by rw [if_neg e];exact h1,h2.mono (Gh.le.refl G) hle (fun _=>rfl) rfl⟩
 ·obtain ⟨e,hx⟩:=get hx (by simp)
  obtain ⟨mt,k,h1⟩:=hS.nil x hx
  exact ⟨mt,k,by rw [if_neg e];exact h1⟩
 ·exact hS.injG x y l l' b (get hx (fun e=>by subst e;cases hb)).2 (get hy (fun e=>by subst e;cases hb')).2 hb hb'
 ·by_cases e:x=h
  ·rw [if_pos e]
  ·rw [if_neg e]
   unfold hmSet at hx
   rw [if_neg e] at hx
   exact hS.dead x hx

theorem Sim.move {G:Gh} {m:HM} {lk:Look} {w:World} (hS:Sim G m lk w) {h h':Hd} (hn:m h'=none) {loc:Loc} (hm:m h=some loc) (hd:loc ≠ .dead) :
  Sim G (hmSet (hmSet m h .dead) h' loc) (fun x=>if x=h' then lk h else if x=h then none else lk x) w/\HM.le m (hmSet (hmSet m h .dead) h' loc):=by
 have hne:h' ≠ h:=fun e=>by rw [e,hm] at hn;cases hn
 have hle:HM.le m (hmSet (hmSet m h .dead) h' loc):=fun x l hx=>by
  unfold hmSet
  by_cases e1:x=h'
  ·rw [e1,hn] at hx;cases hx
  ·rw [if_neg e1]
   by_cases e:x=h
   ·rw [if_pos e];exact .inr rfl
   ·rw [if_neg e];exact .inl (.inl hx)
 have get:∀ {x l},hmSet (hmSet m h .dead) h' loc x=some l->l ≠ .dead->(x=h'/\m h=some l)\/(x ≠ h'/\x ≠ h/\m x=some l):=fun {x l} hx hl=>by
  unfold hmSet at hx
  split at hx
  ·cases hx;exact .inl ⟨‹_›,hm⟩
  ·split at hx
   ·cases hx;exact absurd rfl hl
   ·exact .inr ⟨‹_›,‹_›,hx⟩
 have hb':∀ {bl b sz},BlkRep G m bl b sz w->BlkRep G (hmSet (hmSet m h .dead) h' loc) bl b sz w:=fun hb=>hb.mono (Gh.le.refl G) hle (fun _=>rfl) rfl
 refine ⟨⟨fun x b sz hx=>?_,fun x hx=>?_,fun x y l l' b hx hy hb hb2=>?_,hS.gh,fun x hx=>?_,hS.gl,fun x b sz fp hx=>?_⟩,hle⟩
 rotate_right
 ·have hbx:∀ {bl b sz fp},BlkX G m bl b sz fp w->BlkX G (hmSet (hmSet m h .dead) h' loc) bl b sz fp w:=fun hb=>hb.mono (Gh.le.refl G) hle (fun _ _ _=>rfl) (fun _ _=>rfl) (KeepIt.refl _ _)
  rcases get hx (by simp) with ⟨e,h1⟩ | ⟨e1,e2,h1⟩
  ·obtain ⟨bl,h2,h3⟩:=hS.blkx _ _ _ _ h1
   exact ⟨bl,by rw [if_pos e];exact h2,hbx h3⟩
  ·obtain ⟨bl,h2,h3⟩:=hS.blkx _ _ _ _ h1
   exact ⟨bl,by rw [if_neg e1,if_neg e2];exact h2,hbx h3⟩
 ·rcases get hx (by simp) with ⟨e,h1⟩ | ⟨e1,e2,h1⟩
  ·obtain ⟨bl,h2,h3⟩:=hS.blk _ _ _ h1
   exact ⟨bl,by rw [if_pos e];exact h2,hb' h3⟩
  ·obtain ⟨bl,h2,h3⟩:=hS.blk _ _ _ h1
   exact ⟨bl,by rw [if_neg e1,if_neg e2];exact h2,hb' h3⟩
 ·rcases get hx (by simp) with ⟨e,h1⟩ | ⟨e1,e2,h1⟩
  ·obtain ⟨mt,k,h2⟩:=hS.nil _ h1
   exact ⟨mt,k,by rw [if_pos e];exact h2⟩
  ·obtain ⟨mt,k,h2⟩:=hS.nil _ h1
   exact ⟨mt,k,by rw [if_neg e1,if_neg e2];exact h2⟩
 ·rcases get hx (fun e=>by subst e;cases hb) with ⟨e,h1⟩ | ⟨e1,e2,h1⟩ <;> rcases get hy (fun e=>by subst e;cases hb2) with ⟨f,h2⟩ | ⟨f1,f2,h2⟩
  ·rw [e,f]
  ·exact absurd (hS.injG _ _ l l' b h1 h2 hb hb2).symm f2
  ·exact absurd (hS.injG _ _ l l' b h1 h2 hb hb2) e2
  ·exact hS.injG _ _ l l' b h1 h2 hb hb2
 ·unfold hmSet at hx
  split at hx
  ·cases hx;exact absurd rfl hd
  ·rename_i e1
   rw [if_neg e1]
   split at hx
   ·rename_i e2;rw [if_pos e2]
   ·rename_i e2;rw [if_neg e2];exact hS.dead x hx

section
variable {P:Program} {o:Oper}

theorem run_append_room {t u ty e:TypeId} {d:TypeDesc} {i:TypeInfo} (ht:P.underlying t=some (.slice e)) (hu:P.underlying u=some d) (hd:d=.string\/∃ e',d=.slice e') (hi:P.info? e=some i)
  {w:World} {x:Value} {b off sLen sCap m:Nat} {news:List Value} {vs:Array Value} {T':TypeId} (hlen:∀ w1:World,(Builtin.lenOf x).run P w1=.ok m w1)
  (hnews:(Builtin.firstCells i.size m x).run P w=.ok news.toArray w) (hle:sLen + m <= sCap) (hb:w.heap[b]?=some (.cells vs T' (0,0))) (hsz:off + sLen * i.size + news.length <= vs.size) (hone:∀ u ∈ news,u.oneCell'=true) :
  (Builtin.append_ #[t,u] ty #[.slice (some ⟨b,off,none⟩) sLen sCap,x]).run P w=.ok (.slice (some ⟨b,off,none⟩) (sLen + m) sCap)
   (w.setRow b (vs.toList.take (off + sLen * i.size) ++ news ++ vs.toList.drop (off + sLen * i.size + news.length)).toArray):=by
 have hst:=run_storeCells_at P b (off + sLen * i.size) T' news 0 vs w hb (by simpa using hsz) hone
 simp only [Nat.add_zero] at hst
 rcases hd with rfl | ⟨e',rfl⟩
 ·simp [Builtin.append_,sizeOf,typeInfo,run_underlying ht,run_underlying hu,hi,hlen,hle,hnews,Addr.add_lit,hst]
 ·simp [Builtin.append_,sizeOf,typeInfo,run_underlying ht,run_underlying hu,hi,hlen,hle,hnews,Addr.add_lit,hst]

theorem cells_one {G:Gh} {f:Nat->Option Value}:∀ {ds:List DV} {o:Nat},DV.cells G f o ds->ds.all DV.one=true->∀ j v,j < ds.length->f (o + j)=some v->v.oneCell'=true
 | [],_,_,_,j,_,hj,_=>by simp at hj
 | d :: ds,o,hc,h1,j,v,hj,hv=>by
  unfold DV.cells at hc
  obtain ⟨⟨u,hu,hr⟩,hc⟩:=hc
  simp only [List.all_cons,Bool.and_eq_true] at h1
  match j with
  | 0 =>
   rw [Nat.add_zero,hu] at hv
   cases hv
   cases d with
   | C x=>unfold DV.Rep at hr;subst hr;exact h1.1
   | L es=>unfold DV.Rep at hr;obtain ⟨a,cap,rfl,_⟩:=hr;rfl
   | B _=>unfold DV.Rep at hr;subst hr;rfl
   | I _ _=>unfold DV.Rep at hr;subst hr;rfl
   | S _=>unfold DV.Rep at hr;subst hr;rfl
  | j + 1=>exact cells_one hc h1.2 j v (by simpa using hj) (by rw [<- hv];congr 1;omega)
theorem rows_one {G:Gh} {f:Nat->Option Value} {k:Nat}:∀ {es:List (List DV)} {o:Nat},DV.rows G f k o es->oneL es=true->∀ j v,j < es.length * k->f (o + j)=some v->v.oneCell'=true
 | [],_,_,_,j,_,hj,_=>by simp at hj
 | e :: es,o,hr,h1,j,v,hj,hv=>by
  unfold DV.rows at hr
  obtain ⟨hk,hc,hr⟩:=hr
  simp only [oneL,List.all_cons,Bool.and_eq_true] at h1
  by_cases hlt:j < k
  ·exact cells_one hc h1.1 j v (by omega) hv
  ·have:(e :: es).length * k=k + es.length * k:=by simp [Nat.add_mul];omega
   exact rows_one hr h1.2 (j - k) v (by omega) (by rw [<- hv];congr 1;omega)

theorem EOk.of_ps {P:Program} {o:Oper} {ro:ROp} {s:AState} {dst:Option Nat} {K:AState->Prop} (h:PS P o ro s.lk s.nx s.ev fun a nbs fz=>K (s.put dst a nbs fz)):∃ s',K s'/\EOk P o ro.operands dst s s':=by
 obtain ⟨a,nbs,fz,hK,_,hfz,hrun⟩:=h
 have hn0:∀ h loc j {m:HM},(∀ j,s.nx <= j->j < s.nx + nbs.length->m (.O j)=none)->m h=some loc->j < nbs.length->h ≠ .O (s.nx + j):=fun h loc j m hn hm hj e=>by
  rw [e,hn _ (by omega) (by omega)] at hm;cases hm
 refine ⟨_,hK,⟨fun t ht=>?_,Nat.le_add_right _ _,fun hown j hj=>put_own hown j hj,fun G m w ρ hρ hS hev hn=>?_⟩⟩
 ·show setDst s.env dst a t=_
  cases dst with
  | none=>rfl
  | some dd=>simp only [setDst,upd];rw [if_neg (fun q=>ht (by rw [q]))]
 ·have hn':∀ j,s.nx <= j->j < s.nx + nbs.length->m (.O j)=none:=hn
  refine (hrun G m w ρ hρ s.lk (Need.refl _ _ _) hS hev (fun j hj=>hn' _ (by omega) (by omega))).mono fun v w' hp=>?_
  obtain ⟨G',m',h1,h2,h3,h4,h5⟩:=hp
  refine ⟨G',m',by rw [lk_put];exact h1,fun d hd=>?_,h3.mono (fun _ _ q=>q.elim) (fun _ _ q=>q),fun x loc hx=>.inl (.inl ?_),fun i=>.inl (h4 _ (fun j _ e=>by cases e)),fun j hj=>.inl (h4 _ (fun i hi e=>?_)),fun x l b hj hl=>?_⟩
  ·subst hd
   show AV.Rep G' m' (upd s.env d a d) v
   unfold upd
   rw [if_pos rfl];exact h2
  ·rw [h4 x (fun j hj=>hn0 x loc j hn' hx hj)];exact hx
  ·cases e
   have:(s.put dst a nbs fz).nx=s.nx + nbs.length:=rfl
   rw [this] at hj;omega
  ·by_cases hc:∃ j,j < nbs.length/\x=.O (s.nx + j)
   ·obtain ⟨j,hlt,rfl⟩:=hc
    exact .inl (h5 j l b hlt hj hl)
   ·rw [h4 _ (fun i hi e=>hc ⟨i,hi,e⟩)] at hj
    exact .inr ⟨_,l,hj,hl⟩

theorem Sim.nilRow {G:Gh} {m:HM} {s:AState} {w:World} (hS:Sim G m s.lk w) (hn:m (.O s.nx)=none) (d:Option Nat) (a:AV) (k:Nat):Sim G (hmSet m (.O s.nx) .none) (s.put d a [.row true k []] []).lk w:=by
 have hlk:∀ x,(s.put d a [.row true k []] []).lk x=if x=.O s.nx then some (.row true k []) else s.lk x:=fun x=>by
  rw [lk_put,lkF_nil]
  unfold lkN
  cases x with
  | B j=>simp
  | O j =>
   by_cases e:j=s.nx
   ·subst e;simp
   ·have e1:¬ (s.nx <= j/\j < s.nx + [Blk.row true k []].length):=by simp;omega
    simp only [e1,if_false,Hd.O.injEq,e]
 have hle:HM.le m (hmSet m (.O s.nx) .none):=fun x loc hx=>by
  unfold hmSet
  by_cases e:x=.O s.nx
  ·rw [e,hn] at hx;cases hx
  ·rw [if_neg e];exact .inl (.inl hx)
 have get:∀ {x loc},hmSet m (.O s.nx) .none x=some loc->(x=.O s.nx/\loc=.none)\/(x ≠ .O s.nx/\m x=some loc):=fun {x loc} hx=>by
  unfold hmSet at hx
  split at hx
  ·cases hx;exact .inl ⟨‹_›,rfl⟩
  ·exact .inr ⟨‹_›,hx⟩
 refine ⟨fun x b sz hx=>?_,fun x hx=>?_,fun x y l l' b hx hy hb hb'=>?_,hS.gh,fun x hx=>?_,hS.gl,fun x b sz fp hx=>?_⟩
 rotate_right
 ·rcases get hx with ⟨_,h⟩ | ⟨e,h⟩
  ·cases h
  ·obtain ⟨bl,h1,h2⟩:=hS.blkx x b sz fp h
   exact ⟨bl,by rw [hlk,if_neg e];exact h1,h2.mono (Gh.le.refl G) hle (fun _ _ _=>rfl) (fun _ _=>rfl) (KeepIt.refl _ _)⟩
 ·rcases get hx with ⟨_,h⟩ | ⟨e,h⟩
  ·cases h
  ·obtain ⟨bl,h1,h2⟩:=hS.blk x b sz h
   exact ⟨bl,by rw [hlk,if_neg e];exact h1,h2.mono (Gh.le.refl G) hle (fun _=>rfl) rfl⟩
 ·rcases get hx with ⟨e,_⟩ | ⟨e,h⟩
  ·exact ⟨true,k,by rw [hlk,if_pos e]⟩
  ·obtain ⟨mt,k',h1⟩:=hS.nil x h
   exact ⟨mt,k',by rw [hlk,if_neg e];exact h1⟩
 ·rcases get hx with ⟨_,rfl⟩ | ⟨_,h⟩
  ·cases hb
  ·rcases get hy with ⟨_,rfl⟩ | ⟨_,h'⟩
   ·cases hb'
   ·exact hS.injG x y _ _ b h h' hb hb'
 ·rcases get hx with ⟨_,h⟩ | ⟨e,h⟩
  ·cases h
  ·rw [hlk,if_neg e];exact hS.dead x h

def AState.own0 (s:AState) (t k:Nat):AState:=s.put (some t) (.sl (.O s.nx) k 0 0) [.row true k []] []
theorem Sim.writeR {G:Gh} {m:HM} {s:AState} {w:World} (hS:Sim G m s.lk w) {hd:Hd} {b sz k:Nat} (hm:m hd=some (.at_ b sz)) {ws:Array Value} {T:TypeId} (hb:w.heap[b]?=some (.cells ws T (0,0))) {mt:Bool} {es ys:List (List DV)} (hrep:BlkRep G m (.row mt k es) b sz w) (hl:s.lk hd=some (.row mt k es))
  {news:List Value} (hn:news.length=ys.length * k) (hlen:es.length * k + ys.length * k <= sz) (hrows:∀ (G2:Gh) (f:Nat->Option Value) (o:Nat),Gh.le G G2->(∀ j,j < news.length->f (o + j)=news[j]?)->DV.rows G2 f k o ys) :
  ∃ G1,Sim G1 m (s.setBlk hd (some (.row mt k (es ++ ys)))).lk (w.setRow b (ws.toList.take (0 + es.length * k) ++ news ++ ws.toList.drop (0 + es.length * k + news.length)).toArray)/\Fr (OwnAt m hd) (Own m) G G1 w (w.setRow b (ws.toList.take (0 + es.length * k) ++ news ++ ws.toList.drop (0 + es.length * k + news.length)).toArray):=by
 obtain ⟨h1,h2,h3⟩:w.heap[b]?=some (.cells ws T (0,0))/\ws.size=sz/\es.length * k <= sz:=by
  cases mt <;> (unfold BlkRep at hrep;obtain ⟨vs,T',q1,q2,q3,_⟩:=hrep;rw [hb] at q1;cases q1;exact ⟨hb,q2,q3⟩)
 simp only [Nat.zero_add]
 have htl:(ws.toList.take (es.length * k)).length=es.length * k:=by simp;omega
 have hold:∀ p,p < es.length * k->(ws.toList.take (es.length * k) ++ news ++ ws.toList.drop (es.length * k + news.length)).toArray[p]?=ws[p]?:=fun p hp=>by
  rw [List.getElem?_toArray,List.append_assoc,List.getElem?_append_left (by omega),List.getElem?_take_of_lt hp,Array.getElem?_toList]
 have hnew:∀ p,p < news.length->(ws.toList.take (es.length * k) ++ news ++ ws.toList.drop (es.length * k + news.length)).toArray[es.length * k + p]?=news[p]?:=fun p hp=>by
  rw [List.getElem?_toArray,List.append_assoc,List.getElem?_append_right (by omega),List.getElem?_append_left (by omega)]
  congr 1;omega
 have hsz:(ws.toList.take (es.length * k) ++ news ++ ws.toList.drop (es.length * k + news.length)).toArray.size=sz:=by simp;omega
 generalize (ws.toList.take (es.length * k) ++ news ++ ws.toList.drop (es.length * k + news.length)).toArray=vs' at *
 cases mt with
 | true =>
  unfold BlkRep at hrep
  obtain ⟨vs,T',q1,q2,q3,q4,q5⟩:=hrep
  rw [hb] at q1;cases q1
  obtain ⟨r1,r2⟩:=hS.write hm hb q5 (vs':=vs') (bl:=.row true k (es ++ ys)) (fun w' hw'=>by
   unfold BlkRep
   refine ⟨_,T,hw',hsz,by rw [List.length_append,Nat.add_mul];exact hlen,?_,q5⟩
   refine DV.rows_append (DV.rows_congr (fun p hp=>?_) q4) (hrows G _ _ (Gh.le.refl G) (fun p hp=>?_))
   ·rw [Nat.zero_add];exact hold p hp
   ·rw [Nat.zero_add];exact hnew p hp)
  exact ⟨G,r1,Fr.setRow (OwnAt.at_ hm) _⟩
 | false =>
  unfold BlkRep at hrep
  obtain ⟨vs,T',q1,q2,q3,q4,q5⟩:=hrep
  rw [hb] at q1;cases q1
  let G':Gh:=fun c o=>if c=b/\es.length * k <= o/\o < es.length * k + ys.length * k then vs'[o]? else G c o
  have hle:Gh.le G G':=fun c o v hv=>by
   show (if c=b/\es.length * k <= o/\o < es.length * k + ys.length * k then vs'[o]? else G c o)=some v
   split
   ·rename_i hc
    rw [hc.1,q5 o hc.2.1] at hv;cases hv
   ·exact hv
  have hother:∀ c,c ≠ b->∀ o,G' c o=G c o:=fun c hne o=>by
   show (if c=b/\_ then vs'[o]? else G c o)=_
   rw [if_neg (fun hc=>hne hc.1)]
  have hsame:∀ o,o < es.length * k->G' b o=G b o:=fun o ho=>by
   show (if b=b/\es.length * k <= o/\o < es.length * k + ys.length * k then vs'[o]? else G b o)=_
   rw [if_neg (fun hc=>by omega)]
  have hnewG:∀ p,p < ys.length * k->G' b (es.length * k + p)=vs'[es.length * k + p]?:=fun p hp=>by
   show (if b=b/\es.length * k <= es.length * k + p/\es.length * k + p < es.length * k + ys.length * k then vs'[es.length * k + p]? else G b _)=_
   rw [if_pos ⟨rfl,by omega,by omega⟩]
  have hheap:=setRow_heap w b ws vs' T (0,0) hb
  have hki:KeepIt m w (w.setRow b vs'):=fun _ b' _ _ _ _ _ _ _ hb'=>setRow_other w b b' vs' (fun e=>by rw [e,hb] at hb';cases hb')
  refine ⟨G',⟨fun x b' sz' hx=>?_,fun x hx=>?_,hS.injG,fun b' o v hv=>?_,fun x hx=>?_,hS.gl.mono hle,fun x b' sz' fp hx=>?_⟩,⟨rfl,.same rfl rfl,rfl,by simp,fun c _ hc=>setRow_other w b c vs' (fun e=>hc (e ▸ .at_ hm)),fun c _ hc o=>hother c (fun e=>hc (e ▸ .at_ hm)) o,hle⟩⟩
  ·rw [lk_setBlk]
   by_cases e:x=hd
   ·subst e
    rw [if_pos rfl]
    have:Loc.at_ b' sz'=Loc.at_ b sz:=by rw [hm] at hx;exact (Option.some.inj hx).symm
    cases this
    refine ⟨_,rfl,?_⟩
    unfold BlkRep
    refine ⟨_,T,hheap,hsz,by rw [List.length_append,Nat.add_mul];exact hlen,?_,fun o ho=>?_⟩
    ·refine DV.rows_append (DV.rows_congr (fun p hp=>?_) (DV.rows.mono hle (fun _ _ h=>h) _ _ _ q4)) (hrows G' _ _ hle (fun p hp=>?_))
     ·rw [Nat.zero_add];exact hsame p hp
     ·rw [Nat.zero_add,hnewG p (by omega)];exact hnew p hp
    ·rw [List.length_append,Nat.add_mul] at ho
     show (if b=b/\es.length * k <= o/\o < es.length * k + ys.length * k then vs'[o]? else G b o)=none
     rw [if_neg (fun hc=>by omega)]
     exact q5 o (by omega)
   ·rw [if_neg e]
    obtain ⟨bl',hl',hb'⟩:=hS.blk x b' sz' hx
    have hne:b' ≠ b:=fun eb=>e (hS.inj x hd b sz' sz (eb ▸ hx) hm)
    exact ⟨bl',hl',hb'.mono hle (HM.le.refl m) (hother b' hne) (setRow_other w b b' vs' hne)⟩
  ·rw [lk_setBlk,if_neg (fun e=>by subst e;rw [hm] at hx;cases hx)]
   exact hS.nil x hx
  ·by_cases hc:b'=b
   ·subst hc
    rw [cell_heap hheap]
    by_cases h4:es.length * k <= o/\o < es.length * k + ys.length * k
    ·have:G' b' o=vs'[o]?:=by
      show (if b'=b'/\es.length * k <= o/\o < es.length * k + ys.length * k then vs'[o]? else G b' o)=_
      rw [if_pos ⟨rfl,h4⟩]
     rw [<- this];exact hv
    ·have:G' b' o=G b' o:=by
      show (if b'=b'/\es.length * k <= o/\o < es.length * k + ys.length * k then vs'[o]? else G b' o)=_
      rw [if_neg (fun hc=>h4 hc.2)]
     rw [this] at hv
     have hlt:o < es.length * k:=Nat.lt_of_not_le fun h=>by rw [q5 o h] at hv;cases hv
     have:=hS.gh b' o v hv
     rw [cell_heap hb] at this
     rw [hold o hlt];exact this
   ·rw [hother b' hc] at hv
    rw [cell_setRow_other w b vs' _ hc]
    exact hS.gh b' o v hv
  ·rw [lk_setBlk,if_neg (fun e=>by subst e;rw [hm] at hx;cases hx)]
   exact hS.dead x hx
  ·have e:x ≠ hd:=fun e=>by subst e;rw [hm] at hx;cases hx
   obtain ⟨bl',hl',hb'⟩:=hS.blkx x b' sz' fp hx
   have hne:∀ c ∈ b' :: fp,c ≠ b:=fun c hc eb=>e (hS.injG x hd _ _ c hx hm hc (List.mem_singleton.2 eb))
   rw [lk_setBlk,if_neg e]
   exact ⟨bl',hl',hb'.mono hle (HM.le.refl m) (fun c hc=>hother c (hne c hc)) (fun c hc=>setRow_other w b c vs' (hne c hc)) hki⟩
theorem appX_ok {c:Call} {x y:Operand} {t u e:TypeId} {d:TypeDesc} {i:TypeInfo} {s:AState} {dst:Option Nat} {K:AState->Prop} {hd':Hd} {k' off len:Nat} (hx:s.ev x=.sl hd' k' off len) (ho:o.op=.call c) (hc:c.callee=.builtin .append) (ha:c.args.toList=[x,y]) (hta:c.argTypes.toList=[t,u])
  (ht:P.underlying t=some (.slice e)) (hu:P.underlying u=some d) (hd:d=.string\/∃ e',d=.slice e') (hi:P.info? e=some i) (hz:i.zero.any (fun z=>z.cells.size == i.size)=true) (hbytes:0 < i.bytes)
  (h:aappend s i.size i.bytes y dst K (.sl hd' k' off len)):∃ s',K s'/\EOkX P o [x,y] dst s s' (HeapAt hd'):=by
 obtain ⟨z,hz,hz'⟩:=(Option.any_eq_true _ _).1 hz
 have hz':z.cells.size=i.size:=by simpa using hz'
 have ha':c.args=#[x,y]:=by rw [<- Array.toArray_toList (xs:=c.args),ha]
 have ht':c.argTypes=#[t,u]:=by rw [<- Array.toArray_toList (xs:=c.argTypes),hta]
 have hexec:∀ (ρ:Operand->Value) (v:Value) (w w':World),(Builtin.append_ #[t,u] o.type #[ρ x,ρ y]).run P w=.ok v w'->(execOp ρ o).run P w=.ok (.value v) w':=fun ρ v w w' h=>by
  simp only [execOp,ho,resolve,hc,ha',ht',invoke,builtin,Sem.run_bind,Sem.run_pure,Result.andThen_ok]
  simp [h]
 unfold aappend at h
 obtain ⟨rfl,rfl,mt,es,ys,hl,rfl,hy,hu1,hu2,hone,hb,hK⟩:=h
 have hlk:∀ (a:AV) (bl:Blk) (xx:Hd),(((s.setBlk hd' none).put dst a [bl] []).lk xx)=if xx=.O s.nx then some bl else if xx=hd' then none else s.lk xx:=fun a bl xx=>by
  rw [lk_put,lkF_nil,setBlk_nx]
  unfold lkN
  cases xx with
  | B j=>simp [lk_setBlk]
  | O j =>
   by_cases e:j=s.nx
   ·subst e;simp
   ·have e1:¬ (s.nx <= j/\j < s.nx + [bl].length):=by simp;omega
    simp only [e1,if_false,lk_setBlk,Hd.O.injEq,e]
 refine ⟨_,hK,⟨fun tt htt=>?_,by show s.nx <= (s.setBlk hd' none).nx + 1;rw [setBlk_nx];omega,fun hown j hj=>?_,fun G m w ρ hρ hS hev hn=>?_⟩⟩
 ·show setDst (s.setBlk hd' none).env dst _ tt=_
  rw [setBlk_env]
  cases dst with
  | none=>rfl
  | some dd=>simp only [setDst,upd];rw [if_neg (fun q=>htt (by rw [q]))]
 ·exact put_own (fun j hj=>setBlk_own hown ⟨_,hl⟩ j (by rw [setBlk_nx] at hj;exact hj)) j hj
 ·have hn0:m (.O s.nx)=none:=hn s.nx (Nat.le_refl _) (by show s.nx < (s.setBlk hd' none).nx + 1;rw [setBlk_nx];omega)
  have hrx:=hev x (by simp)
  rw [hx] at hrx
  have hry:=hev y (by simp)
  unfold AV.Rep at hrx
  obtain ⟨_,loc,hloc,hsl⟩:=hrx
  have hnd:loc ≠ .dead:=fun e=>by subst e;rw [hS.dead _ hloc] at hl;cases hl
  obtain ⟨c1,vs,c2,c3,c4⟩:=content_run (P:=P) (lk:=s.lk) hS (fun _ mt _ _ h=>⟨mt,h⟩) hry hy hu2
  have honev:∀ v ∈ vs,v.oneCell'=true:=fun v hv=>by
   obtain ⟨j,hj⟩:=List.getElem?_of_mem hv
   have hjl:=(List.getElem?_eq_some_iff.1 hj).1
   exact rows_one (c4 G (fun j=>vs[j]?) 0 (Gh.le.refl G) (fun _ _=>by simp)) hone j v (by omega) (by simpa using hj)
  have hkill:=hS.kill hd'
  have hdv:∀ {G':Gh} {m':HM} {v:Value},AV.Rep G' m' (.sl (.O s.nx) i.size 0 (es.length + ys.length)) v->∀ dd,dst=some dd->AV.Rep G' m' (((s.setBlk hd' none).put dst (.sl (.O s.nx) i.size 0 (es.length + ys.length)) [.row mt i.size (es ++ ys)] []).env dd) v:=fun {G' m' v} h dd hdd=>by
   show AV.Rep G' m' (setDst _ dst _ dd) v
   rw [hdd];simp only [setDst,upd,if_true];exact h
  have fin:∀ {G':Gh} {m':HM} {v:Value} {w':World},Sim G' m' ((s.setBlk hd' none).put dst (.sl (.O s.nx) i.size 0 (es.length + ys.length)) [.row mt i.size (es ++ ys)] []).lk w' ->
    AV.Rep G' m' (.sl (.O s.nx) i.size 0 (es.length + ys.length)) v->Fr (OwnAt m hd') (Own m) G G' w w'->(∀ xx,xx ≠ .O s.nx->m' xx=hmSet m hd' .dead xx)->(∀ l b,m' (.O s.nx)=some l->b ∈ l.blks->w.heap.size <= b\/Own m b) ->
    EPost G m s dst ((s.setBlk hd' none).put dst (.sl (.O s.nx) i.size 0 (es.length + ys.length)) [.row mt i.size (es ++ ys)] []) w v w'/\HeapAt hd' m w w':=fun {G' m' v w'} hS' hr' hF0 hold hnew=>by
   obtain ⟨hF',hX⟩:=hF0.at_
   have hcase:∀ xx,xx ≠ .O s.nx->SameB (m xx) (m' xx):=fun xx hxx=>by
    rw [hold xx hxx]
    unfold hmSet
    by_cases e2:xx=hd'
    ·rw [if_pos e2];exact .inr (.inl ⟨by rw [e2,hloc];simp,rfl⟩)
    ·rw [if_neg e2];exact .inl rfl
   refine ⟨⟨G',m',hS',hdv hr',hF',fun xx l hxx=>?_,fun j=>hcase _ (by intro e;cases e),fun j hj=>hcase _ (fun e=>?_),fun x l b hj hl=>?_⟩,hX⟩
   ·have hne:xx ≠ .O s.nx:=fun e=>by rw [e,hn0] at hxx;cases hxx
    exact (hcase xx hne).le hxx
   ·cases e
    rcases hj with h | h
    ·omega
    ·have:(s.setBlk hd' none).nx + 1 <= s.nx:=h
     rw [setBlk_nx] at this;omega
   ·by_cases e:x=.O s.nx
    ·subst e;exact hnew l b hj hl
    ·rw [hold x e] at hj
     unfold hmSet at hj
     split at hj
     ·cases hj;cases hl
     ·exact .inr ⟨_,l,hj,hl⟩
  have hnhd:Hd.O s.nx ≠ hd':=fun e=>by rw [<- e,hn0] at hloc;cases hloc
  have grow:∀ (a:Option Addr) (cap:Nat) (olds:List Value),ρ x=.slice a es.length cap->olds.length=es.length * i.size->(Builtin.firstCells i.size es.length (ρ x)).run P w.drew=.ok olds.toArray w.drew ->
    (∀ (f:Nat->Option Value),(∀ j,j < olds.length->f (0 + j)=olds[j]?)->DV.rows G f i.size 0 es)->cap < es.length + ys.length->Does P o ρ w (fun v w'=>EPost G m s dst ((s.setBlk hd' none).put dst (.sl (.O s.nx) i.size 0 (es.length + ys.length)) [.row mt i.size (es ++ ys)] []) w v w'/\HeapAt hd' m w w'):=fun a cap olds hv ho2 ho3 ho4 hlt=>by
   have hfits:es.length + ys.length <= 9223372036854775807:=by
    have:=Nat.le_mul_of_pos_right (es.length + ys.length) hbytes
    omega
   rw [hv] at ho3
   obtain ⟨rest,hrun,hrest⟩:=run_append_grows (ty:=o.type) ht hu hd hi hz rfl c1 ho3 (c3 w.drew rfl) hlt hb (by omega)
   rw [<- hv] at hrun
   refine Does.val (hexec ρ _ w _ hrun) ?_
   have hge:=grownCap_ge w (es.length + ys.length) cap e
   have hsz:(olds.toArray ++ vs.toArray ++ rest).size=grownCap w (es.length + ys.length) cap e * i.size:=by
    simp only [Array.size_append,List.size_toArray,ho2,c2,hrest,hz']
    rw [<- Nat.add_mul,<- Nat.add_mul]
    congr 1;omega
   have hbl:∀ m':HM,BlkRep G m' (.row true i.size (es ++ ys)) w.heap.size (olds.toArray ++ vs.toArray ++ rest).size (w.drew.alloc (.cells (olds.toArray ++ vs.toArray ++ rest) e)):=fun m'=>by
    unfold BlkRep
    refine ⟨_,e,heap_alloc_new _ _,rfl,?_,?_,fun o=>Gh_new hS (Nat.le_refl _) o⟩
    ·rw [hsz,List.length_append];exact Nat.mul_le_mul_right _ hge
    ·refine DV.rows_append (ho4 _ (fun j hj=>?_)) (c4 G _ _ (Gh.le.refl G) (fun j hj=>?_))
     ·rw [Nat.zero_add,<- Array.getElem?_toList]
      simp only [Array.toList_append]
      rw [List.append_assoc,List.getElem?_append_left (by simpa using hj)]
     ·rw [<- Array.getElem?_toList]
      simp only [Array.toList_append]
      rw [List.append_assoc,List.getElem?_append_right (by simp [ho2]),List.getElem?_append_left (by simp [ho2];omega)]
      congr 1
      simp [ho2]
   obtain ⟨G',m',h1,h2,h3,h4,h5⟩:=PPost.new (a:=.sl (.O s.nx) i.size 0 (es.length + ys.length)) (v:=.slice (some ⟨w.heap.size,0,none⟩) (es.length + ys.length) (grownCap w (es.length + ys.length) cap e)) (hkill.drew) (n:=s.nx) (by unfold hmSet;rw [if_neg hnhd];exact hn0) (.row true i.size (es ++ ys)) (olds.toArray ++ vs.toArray ++ rest) e (fun m' _=>hbl m') (fun m' _ hmn=>by
    unfold AV.Rep
    refine ⟨rfl,_,hmn,fun _=>.inr ⟨_,_,grownCap w (es.length + ys.length) cap e,rfl,?_,hge,?_⟩⟩
    ·simp
    ·rw [hsz];simp)
   have hb5:∀ b,b < w.heap.size->∀ sz,m' (.O s.nx) ≠ some (.at_ b sz):=fun b hb sz e=>by
    have:=h5 0 _ b (by simp) e (List.mem_singleton.2 rfl)
    have:w.drew.heap.size=w.heap.size:=rfl
    omega
   have hlk1:lkN (lkF (fun x=>if x=hd' then none else s.lk x) []) s.nx [Blk.row true i.size (es ++ ys)]=fun xx=>if xx=.O s.nx then some (.row true i.size (es ++ ys)) else if xx=hd' then none else s.lk xx:=by
    funext xx
    rw [lkF_nil]
    unfold lkN
    cases xx with
    | B j=>simp
    | O j =>
     by_cases e:j=s.nx
     ·subst e;simp
     ·have e1:¬ (s.nx <= j/\j < s.nx + [Blk.row true i.size (es ++ ys)].length):=by simp;omega
      simp only [e1,if_false,Hd.O.injEq,e]
   rw [hlk1] at h1
   obtain ⟨G2,g1,g2,g3⟩:∃ G2,Sim G2 m' (fun xx=>if xx=.O s.nx then some (.row mt i.size (es ++ ys)) else if xx=hd' then none else s.lk xx) (w.drew.alloc (.cells (olds.toArray ++ vs.toArray ++ rest) e))/\Gh.le G' G2/\∀ b,b < w.heap.size->∀ o,G2 b o=G' b o:=by
    cases mt with
    | true=>exact ⟨G',h1,Gh.le.refl _,fun _ _ _=>rfl⟩
    | false =>
     obtain ⟨G2,g1,g2,g3⟩:=h1.freeze1 (.O s.nx)
     refine ⟨G2,?_,g2,fun b hb o=>g3 b (hb5 b hb) o⟩
     have:(fun xx=>if xx=.O s.nx then some (Blk.row false i.size (es ++ ys)) else if xx=hd' then none else s.lk xx)=fun x=>if x=.O s.nx then ((if x=.O s.nx then some (Blk.row true i.size (es ++ ys)) else if x=hd' then none else s.lk x).map Blk.frz) else (if x=.O s.nx then some (Blk.row true i.size (es ++ ys)) else if x=hd' then none else s.lk x):=by
      funext xx
      by_cases e:xx=.O s.nx
      ·simp only [e,if_true,Option.map_some,Blk.frz]
      ·simp only [e,if_false]
     rw [this];exact g1
   refine fin ?_ (AV.Rep.mono g2 (HM.le.refl _) _ _ h2) ⟨h3.os,⟨h3.tape.1,Nat.le_trans (Nat.le_succ _) h3.tape.2⟩,h3.output,h3.size,fun b hb hq=>h3.heap b hb (fun q=>q),fun b hb hq o=>(g3 b hb o).trans (h3.gh b hb (fun ⟨y',l,q,ql⟩=>hq ?_) o),h3.le.trans g2⟩ (fun xx hxx=>h4 xx (fun j hj e=>by
    have:j=0:=by simpa using hj
    subst this;exact hxx e)) (fun l b hq hl=>.inl (h5 0 l b (by simp) hq hl))
   ·have:((s.setBlk hd' none).put dst (.sl (.O s.nx) i.size 0 (es.length + ys.length)) [.row mt i.size (es ++ ys)] []).lk=fun xx=>if xx=.O s.nx then some (.row mt i.size (es ++ ys)) else if xx=hd' then none else s.lk xx:=by
     funext xx
     exact hlk _ _ _
    rw [this];exact g1
   ·unfold hmSet at q
    split at q
    ·cases q;cases ql
    ·exact ⟨y',l,q,ql⟩
  have moved:∀ {G1:Gh} {w':World} {v:Value},Sim G1 m (s.setBlk hd' (some (.row mt i.size (es ++ ys)))).lk w'->slRep loc i.size 0 (es.length + ys.length) v->Fr (OwnAt m hd') (Own m) G G1 w w' ->
    EPost G m s dst ((s.setBlk hd' none).put dst (.sl (.O s.nx) i.size 0 (es.length + ys.length)) [.row mt i.size (es ++ ys)] []) w v w'/\HeapAt hd' m w w':=fun {G1 w' v} hS1 hsl1 hF1=>by
   obtain ⟨hS2,_⟩:=hS1.move hn0 hloc hnd
   refine fin (m':=hmSet (hmSet m hd' .dead) (.O s.nx) loc) ?_ ?_ hF1 (fun xx hxx=>by
    show (if xx=.O s.nx then _ else _)=_
    rw [if_neg hxx]) (fun l b hq hl=>?_)
   ·have:((s.setBlk hd' none).put dst (.sl (.O s.nx) i.size 0 (es.length + ys.length)) [.row mt i.size (es ++ ys)] []).lk=fun xx=>if xx=.O s.nx then (s.setBlk hd' (some (.row mt i.size (es ++ ys)))).lk hd' else if xx=hd' then none else (s.setBlk hd' (some (.row mt i.size (es ++ ys)))).lk xx:=by
     funext xx
     rw [hlk,lk_setBlk,lk_setBlk,if_pos rfl]
     by_cases e:xx=hd' <;> simp [e]
    rw [this];exact hS2
   ·unfold AV.Rep
    refine ⟨?_,loc,by unfold hmSet;rw [if_pos rfl],fun _=>hsl1⟩
    rcases hsl1 with ⟨a,rfl,_⟩ | ⟨b,sz,cap,_,rfl,_⟩ <;> rfl
   ·unfold hmSet at hq
    rw [if_pos rfl] at hq
    cases hq
    exact .inr ⟨_,_,hloc,hl⟩
  have hsame:ys=[]->Sim G m (s.setBlk hd' (some (.row mt i.size (es ++ ys)))).lk w:=fun hys=>by
   refine hS.congr (fun xx _=>?_)
   rw [lk_setBlk]
   by_cases e:xx=hd'
   ·rw [if_pos e,e,hl,hys,List.append_nil]
   ·rw [if_neg e]
  obtain ⟨o1,os,o2,o3,o4⟩:=content_run (P:=P) (lk:=s.lk) (y:=.sl hd' i.size 0 es.length) (v:=ρ x) hS (fun _ mt _ _ h=>⟨mt,h⟩) (by unfold AV.Rep;exact ⟨‹_›,loc,hloc,hsl⟩) (by unfold AV.content;simp [hl]) hu1
  rcases hsl hnd with ⟨a,hv,h0⟩ | ⟨b,sz,cap,rfl,hv,hcap,hsz⟩
  ·by_cases hys:ys=[]
   ·have hvs:vs=[]:=by rw [hys] at c2;simpa using c2
    refine Does.val (hexec ρ (ρ x) w w ?_) (moved (hsame hys) ?_ (Fr.refl _ _ _ _))
    ·rw [hv]
     refine run_append_none ht hu hd hi (by rw [hys] at c1;simpa using c1) ?_ (Nat.le_refl _)
     have:=c3 w rfl
     rw [hys,hvs] at this
     simpa using this
    ·exact .inl ⟨a,hv,by rw [h0,hys];rfl⟩
   ·have hpos:0 < ys.length:=List.length_pos_iff.2 hys
    exact grow a 0 os (by rw [hv,h0]) o2 (o3 w.drew rfl) (fun f hf=>o4 G f 0 (Gh.le.refl G) hf) (by omega)
  ·by_cases hroom:es.length + ys.length <= cap
   ·obtain ⟨bl,hl',hb'⟩:=hS.blk _ _ _ hloc
    rw [hl] at hl'
    cases hl'
    obtain ⟨ws,T',g1,g2,g3⟩:∃ ws T',w.heap[b]?=some (.cells ws T' (0,0))/\ws.size=sz/\es.length * i.size <= sz:=by
     cases mt <;> (unfold BlkRep at hb';obtain ⟨ws,T',g1,g2,g3,_⟩:=hb';exact ⟨ws,T',g1,g2,g3⟩)
    have hv':ρ x=.slice (some ⟨b,0,none⟩) es.length cap:=by rw [hv];simp
    have hlens:0 + es.length * i.size + vs.length <= ws.size:=by
     rw [c2,g2,Nat.zero_add,<- Nat.add_mul]
     exact Nat.le_trans (Nat.mul_le_mul_right _ hroom) (by simpa using hsz)
    have hrun:=run_append_room (P:=P) (ty:=o.type) ht hu hd hi c1 (c3 w rfl) hroom g1 hlens honev
    rw [<- hv'] at hrun
    obtain ⟨G1,hw1,hw2⟩:=hS.writeR hloc g1 hb' hl (news:=vs) c2 (by rw [<- g2,<- c2];omega) (fun G2 f o h1 h2=>c4 G2 f o h1 h2)
    exact Does.val (hexec ρ _ w _ hrun) (moved (by simpa using hw1) (.inr ⟨b,sz,cap,rfl,by simp,hroom,by simpa using hsz⟩) (by simpa using hw2))
   ·exact grow _ cap os hv o2 (o3 w.drew rfl) (fun f hf=>o4 G f 0 (Gh.le.refl G) hf) (by omega)
theorem appE_ok {c:Call} {x y:Operand} {t u e:TypeId} {d:TypeDesc} {i:TypeInfo} {s:AState} {dst:Option Nat} {K:AState->Prop} (ho:o.op=.call c) (hc:c.callee=.builtin .append) (ha:c.args.toList=[x,y]) (hta:c.argTypes.toList=[t,u])
  (ht:P.underlying t=some (.slice e)) (hu:P.underlying u=some d) (hd:d=.string\/∃ e',d=.slice e') (hi:P.info? e=some i) (hz:i.zero.any (fun z=>z.cells.size == i.size)=true) (hbytes:0 < i.bytes)
  (h:aappend s i.size i.bytes y dst K (s.ev x)):∃ s',K s'/\EOk P o [x,y] dst s s':=by
 obtain ⟨z,hz,hz'⟩:=(Option.any_eq_true _ _).1 hz
 have hz':z.cells.size=i.size:=by simpa using hz'
 have ha':c.args=#[x,y]:=by rw [<- Array.toArray_toList (xs:=c.args),ha]
 have ht':c.argTypes=#[t,u]:=by rw [<- Array.toArray_toList (xs:=c.argTypes),hta]
 have hexec:∀ (ρ:Operand->Value) (v:Value) (w w':World),(Builtin.append_ #[t,u] o.type #[ρ x,ρ y]).run P w=.ok v w'->(execOp ρ o).run P w=.ok (.value v) w':=fun ρ v w w' h=>by
  simp only [execOp,ho,resolve,hc,ha',ht',invoke,builtin,Sem.run_bind,Sem.run_pure,Result.andThen_ok]
  simp [h]
 generalize hx:s.ev x=ax at h
 unfold aappend at h
 split at h
 case h_4=>exact h.elim
 case h_2 =>
  obtain ⟨hsome,ys,e2,h1,h3,h4⟩:=h
  obtain ⟨dd,rfl⟩:=Option.isSome_iff_exists.1 hsome
  refine ⟨_,h4,?_⟩
  obtain ⟨s1,hK1,hE⟩:=EOk.of_ps (dst:=some dd) (K:=fun s1=>s1=s.put (some dd) (.sl (.O s.nx) i.size 0 ys.length) [.row true i.size ys] (fzL s.lk (AV.rows (s.ev y)))) (ro:=.app i.size i.bytes x y) (ps_app ho hc ha hta ht hu hd hi (by rw [hz];simpa using hz') hbytes (K:=fun a nbs fz=>s.put (some dd) a nbs fz=s.put (some dd) (.sl (.O s.nx) i.size 0 ys.length) [.row true i.size ys] (fzL s.lk (AV.rows (s.ev y)))) ⟨[],hx,ys,e2,by simp [Uni],h1,by simpa using h3,by simp⟩)
  rw [<- hK1];exact hE
 case h_3 =>
  rename_i e0 es0
  generalize he0:e0 :: es0=es at *
  obtain ⟨ys,e2,h1,h2,h3,h4⟩:=h
  refine EOk.of_ps (ro:=.app i.size i.bytes x y) (ps_app ho hc ha hta ht hu hd hi (by rw [hz];simpa using hz') hbytes (K:=fun a nbs fz=>K (s.put dst a nbs fz)) ⟨es,hx,ys,e2,h1,h2,h3,?_⟩)
  have hne:es ≠ []:=by rw [<- he0];simp
  simpa [hne] using h4
 rename_i hd' k' off len
 obtain ⟨s',hK,hE⟩:=appX_ok (o:=o) hx ho hc ha hta ht hu hd hi (by rw [hz];simpa using hz') hbytes h
 exact ⟨s',hK,hE.ok⟩
end

end Go.Eng


/- Texts of this claim. -/
import Derived.Test.YtkfcmelpadbdcaaGreatDoorE19
set_option linter.all false
set_option linter.unusedSimpArgs false
set_option linter.unusedVariables false
namespace Go.Eng
open Go.RowKit

def idxIn (j:Nat):List Nat->Nat->Option Nat
 | [],_=>none
 | x :: xs,i=>if x=j then some i else idxIn j xs (i + 1)

theorem idxIn_spec {j:Nat}:∀ {l:List Nat} {n i:Nat},idxIn j l n=some i->n <= i/\l[i - n]?=some j
 | [],_,_,h=>by cases h
 | x :: xs,n,i,h=>by
  unfold idxIn at h
  split at h
  ·rename_i e;cases h;simp [e]
  ·obtain ⟨h1,h2⟩:=idxIn_spec h
   refine ⟨by omega,?_⟩
   rw [show i - n=(i - (n + 1)) + 1 by omega]
   simpa using h2
theorem idxIn_none {j:Nat}:∀ {l:List Nat} {n:Nat},idxIn j l n=none->j ∉ l
 | [],_,_=>by simp
 | x :: xs,n,h=>by
  unfold idxIn at h
  split at h
  ·cases h
  ·rename_i e
   have:=idxIn_none h
   simp only [List.mem_cons,not_or]
   exact ⟨fun q=>e q.symm,this⟩

def phi (slots:List Nat):Hd->Option Hd
 | .B i=>some (.B i)
 | .O j=>(idxIn j slots 0).map .O

def envL:List (Nat × AV)->Nat->AV
 | [],_=>.any
 | (t,a) :: r,i=>if i=t then a else envL r i

def AState.wk (s:AState) (keep:List Nat) (slots:List Nat):AState :=
 {env:=envL (keep.map fun t=>(t,AV.conv s.lk (phi slots) (s.env t)))
  bs:=fun i=>(s.bs i).map (Blk.conv s.lk (phi slots))
  own:=fun i=>(slots[i]?).bind fun j=>(s.own j).map (Blk.conv s.lk (phi slots))
  nx:=slots.length }

theorem envL_map (f:Nat->AV):∀ (keep:List Nat) (t:Nat),envL (keep.map fun t=>(t,f t)) t=.any\/envL (keep.map fun t=>(t,f t)) t=f t
 | [],_=>.inl rfl
 | k :: ks,t=>by
  simp only [List.map_cons,envL]
  split
  ·rename_i e;subst e;exact .inr rfl
  ·exact envL_map f ks t

def others (nx:Nat) (slots:List Nat):List Hd:=((List.range nx).filter fun j=>decide (j ∉ slots)).map .O

def wkM (m:HM) (slots:List Nat):HM
 | .B i=>m (.B i)
 | .O i=>(slots[i]?).bind fun j=>m (.O j)

theorem AtS.wk {E:Ent} {G:Gh} {m:HM} {s:AState} {a:Act} {w:World} (h:AtS E G m s a w) (keep:List Nat) {slots:List Nat} (hn:slots.Nodup) :
  ∃ G',AtS E G' (wkM m slots) (s.wk keep slots) a w/\∀ x v,AV.Rep G m x v->AV.Rep G' (wkM m slots) (AV.conv s.lk (phi slots) x) v:=by
 obtain ⟨G',hS,hle,hG⟩:=h.sim.freeze (others s.nx slots)
 have hmem:∀ j,(.O j:Hd) ∈ others s.nx slots ↔ j < s.nx/\j ∉ slots:=fun j=>by simp [others]
 have hphi:∀ hd hd' loc,phi slots hd=some hd'->m hd=some loc->wkM m slots hd'=some loc:=by
  intro hd hd' loc hp hm
  cases hd with
  | B i=>cases hp;exact hm
  | O j =>
   simp only [phi,Option.map_eq_some_iff] at hp
   obtain ⟨i,hi,rfl⟩:=hp
   obtain ⟨_,h2⟩:=idxIn_spec hi
   show (slots[i]?).bind _=_
   rw [show slots[i]?=some j by simpa using h2]
   exact hm
 have hrow:∀ hd mt k es,s.lk hd=some (.row mt k es)->∃ mt',lkF s.lk (others s.nx slots) hd=some (.row mt' k es):=fun hd mt k es hh=>by
  unfold lkF
  split
  ·exact ⟨false,by rw [hh];rfl⟩
  ·exact ⟨mt,hh⟩
 have hfz:∀ hd mt k es,phi slots hd=none->(s.lk hd).isSome=true->lkF s.lk (others s.nx slots) hd=some (.row mt k es)->mt=false:=by
  intro hd mt k es hp hsome hr
  cases hd with
  | B i=>cases hp
  | O j =>
   simp only [phi,Option.map_eq_none_iff] at hp
   have hj:j < s.nx:=by
    rcases Nat.lt_or_ge j s.nx with h' | h'
    ·exact h'
    ·have:s.lk (.O j)=none:=h.nxOk j h'
     rw [this] at hsome;cases hsome
   unfold lkF at hr
   rw [if_pos ((hmem j).2 ⟨hj,idxIn_none hp⟩)] at hr
   cases hx:s.lk (.O j) with
   | none=>rw [hx] at hr;cases hr
   | some bl =>
    rw [hx] at hr
    cases bl with
    | row mt' k' es'=>cases hr;rfl
    | _=>cases hr
 have hrep:∀ x v,AV.Rep G m x v->AV.Rep G' (wkM m slots) (AV.conv s.lk (phi slots) x) v:=fun x v hx =>
  AV.conv_rep hS hrow hphi x v (fun hd _ mt k es a b c=>hfz hd mt k es a b c) (AV.Rep.mono hle (HM.le.refl m) _ _ hx)
 have hblk:∀ bl b sz,BlkRep G' m bl b sz w->BlkRep G' (wkM m slots) (Blk.conv s.lk (phi slots) bl) b sz w:=fun bl b sz hb=>by
  cases bl with
  | row mt k es=>cases mt <;> exact hb
  | box cs =>
   obtain ⟨vs,T,h1,h2,h3,h4⟩:=hb
   exact ⟨vs,T,h1,h2,AV.convL_rep hS hrow hphi cs _ (fun hd _ mt k es a b c=>hfz hd mt k es a b c) h3,h4⟩
  | _=>exact hb.elim
 have hlkB:∀ i,lkF s.lk (others s.nx slots) (.B i)=s.bs i:=fun i=>by
  unfold lkF;rw [if_neg (by simp [others])];rfl
 have hlkO:∀ j,j ∈ slots->lkF s.lk (others s.nx slots) (.O j)=s.own j:=fun j hj=>by
  unfold lkF;rw [if_neg (by rw [hmem];exact fun q=>q.2 hj)];rfl
 have hgetO:∀ {i loc},wkM m slots (.O i)=some loc->∃ j,slots[i]?=some j/\m (.O j)=some loc:=fun {i loc} hx=>by
  simpa [wkM,Option.bind_eq_some_iff] using hx
 have hlk':∀ i j,slots[i]?=some j->(s.wk keep slots).lk (.O i)=(s.own j).map (Blk.conv s.lk (phi slots)):=fun i j hj=>by
  show (slots[i]?).bind _=_;rw [hj];rfl
 have hbk:∀ hd loc,wkM m slots hd=some loc->∃ hd0,m hd0=some loc/\(s.wk keep slots).lk hd=(lkF s.lk (others s.nx slots) hd0).map (Blk.conv s.lk (phi slots))/\(∀ hd' ,wkM m slots hd' ≠ none->(∃ loc',wkM m slots hd'=some loc'/\((∃ i,hd'=.B i/\hd0=.B i)\/∃ i j,hd'=.O i/\hd0=.O j/\slots[i]?=some j))->hd'=hd):=by
  intro hd loc hx
  cases hd with
  | B i =>
   refine ⟨.B i,hx,by rw [hlkB];rfl,fun hd' _ ⟨loc',_,h2⟩=>?_⟩
   rcases h2 with ⟨i',rfl,e⟩ | ⟨_,_,_,e,_⟩
   ·cases e;rfl
   ·cases e
  | O i =>
   obtain ⟨j,hj,hm⟩:=hgetO hx
   refine ⟨.O j,hm,by rw [hlkO j (List.mem_of_getElem? hj),hlk' i j hj],fun hd' _ ⟨loc',_,h2⟩=>?_⟩
   rcases h2 with ⟨_,_,e⟩ | ⟨i',j',rfl,e,hj'⟩
   ·cases e
   ·cases e
    have h2:=(List.getElem?_eq_some_iff.1 hj')
    rw [(List.getElem?_inj h2.1 hn).1 (hj'.trans hj.symm)]
 have hjok:E.J ((s.wk keep slots).env E.N) w:=by
  show E.J (envL (keep.map fun t=>(t,AV.conv s.lk (phi slots) (s.env t))) E.N) w
  rcases envL_map (fun t=>AV.conv s.lk (phi slots) (s.env t)) keep E.N with e | e
  ·rw [e];exact E.Jany _ _ h.jok
  ·rw [e];exact E.Jconv _ _ _ _ h.jok
 refine ⟨G',⟨⟨?_,?_,?_,hS.gh,?_,hS.gl,fun hd b sz fp hx=>?_⟩,?_,h.size,h.defers,hjok,?_,?_,h.base,?_,h.noO,?_⟩,hrep⟩
 rotate_left 4
 ·obtain ⟨hd0,h1,h2,_⟩:=hbk hd _ hx
  obtain ⟨bl,h3,h4⟩:=hS.blkx _ _ _ _ h1
  exact ⟨_,by rw [h2,h3];rfl,h4.conv hphi⟩
 rotate_right 4
 ·intro hd b sz hx
  obtain ⟨hd0,h1,h2,_⟩:=hbk hd _ hx
  obtain ⟨bl,h3,h4⟩:=hS.blk _ _ _ h1
  exact ⟨_,by rw [h2,h3];rfl,hblk _ _ _ h4⟩
 ·intro hd hx
  obtain ⟨hd0,h1,h2,_⟩:=hbk hd _ hx
  obtain ⟨mt,k,h3⟩:=hS.nil _ h1
  exact ⟨mt,k,by rw [h2,h3];rfl⟩
 ·intro hd hd' l l' b hx hx' hb hb'
  cases hd with
  | B i =>
   cases hd' with
   | B i'=>exact hS.injG (.B i) (.B i') l l' b hx hx' hb hb'
   | O i' =>
    obtain ⟨j,_,hm⟩:=hgetO hx'
    have:=hS.injG (.B i) (.O j) l l' b hx hm hb hb'
    cases this
  | O i =>
   obtain ⟨j,hj,hm⟩:=hgetO hx
   cases hd' with
   | B i' =>
    have:=hS.injG (.O j) (.B i') l l' b hm hx' hb hb'
    cases this
   | O i' =>
    obtain ⟨j',hj',hm'⟩:=hgetO hx'
    have:=hS.injG (.O j) (.O j') l l' b hm hm' hb hb'
    cases this
    have h2:=(List.getElem?_eq_some_iff.1 hj')
    rw [(List.getElem?_inj h2.1 hn).1 (hj'.trans hj.symm)]
 ·intro hd hx
  obtain ⟨hd0,h1,h2,_⟩:=hbk hd _ hx
  rw [h2,hS.dead _ h1];rfl
 ·intro t
  show AV.Rep G' _ (envL (keep.map fun t=>(t,AV.conv s.lk (phi slots) (s.env t))) t) _
  rcases envL_map (fun t=>AV.conv s.lk (phi slots) (s.env t)) keep t with e | e
  ·rw [e];unfold AV.Rep;trivial
  ·rw [e];exact hrep _ _ (h.env t)
 ·intro i hi
  have hi':slots.length <= i:=hi
  show (slots[i]?).bind _=none
  rw [List.getElem?_eq_none hi'];rfl
 ·have hF:Fr (fun _=>False) (Own m) G G' w w:=⟨rfl,.same rfl rfl,rfl,Nat.le_refl _,fun _ _ _=>rfl,fun b _ ho o=>hG b (fun h' _ sz q=>ho (.at_ q)) o,hle⟩
  exact h.frame.step hF (fun b _ q=>q.elim) (fun b hb q=>h.ownOld hb q)
 ·intro x l b hx hl
  cases x with
  | B i=>exact h.own _ l b hx hl
  | O i =>
   obtain ⟨j,_,hm⟩:=hgetO hx
   exact h.own _ l b hm hl
 ·intro i hi
  have hi':slots.length <= i:=hi
  show (slots[i]?).bind _=none
  rw [List.getElem?_eq_none hi'];rfl

theorem AState.wk_ok (s:AState) (keep:List Nat) {slots:List Nat} (hn:slots.Nodup):Wk s (s.wk keep slots):=fun _ _ _ ⟨_,_,h⟩ =>
 let ⟨G',h',_⟩:=h.wk keep hn;⟨G',_,h'⟩

inductive RRes where
 | tmp (t:Nat)
 | cell (ag:Option Nat) (t:Nat)
 deriving Inhabited

def resolveRes (P:Program):List ResultVar->Option (List RRes)
 | []=>some []
 | .tmp t :: r=>(resolveRes P r).map (.tmp t :: ·)
 | .cell t T :: r=>match P.underlying T,P.info? T,resolveRes P r with
  | some d,some i,some rs=>some (.cell (if isAggD d then some i.size else none) t :: rs)
  | _,_,_=>none

def resIn (N:Nat):ResultVar->Bool
 | .tmp t=>decide (t < N)
 | .cell t _=>decide (t < N)
def resolveResN (P:Program) (N:Nat) (l:List ResultVar):Option (List RRes):=if l.all (resIn N)=true then resolveRes P l else none

def aresult (s:AState):RRes->Option AV
 | .tmp t=>some (s.env t)
 | .cell ag t=>match s.env t with
  | .ptr h off=>match s.lk h with
   | some (.box cs)=>match ag with
    | none=>cs[off]?
    | some n=>if off + n <= cs.length then some (.agg ((cs.drop off).take n)) else none
   | _=>none
  | .eptr h k ix off=>match s.lk h,ag with
   | some (.row _ k' es),some n=>if k=1/\k'=1/\off=0/\ix + n <= es.length then some (.agg ((((es.drop ix).take n).flatten).map .D)) else none
   | _,_=>none
  | _=>none
def aresults (s:AState):List RRes->Option (List AV)
 | []=>some []
 | r :: rs=>match aresult s r,aresults s rs with
  | some a,some as=>some (a :: as)
  | _,_=>none
def aret (s:AState) (rs:List RRes):Option AV :=
 match aresults s rs with
 | some [a]=>some a
 | some as=>some (.tup as)
 | none=>none

def resRun (tmps:Array Value):ResultVar->Sem Value
 | .tmp t=>pure (tmps.getD t undef)
 | .cell a t=>do loadVar t (<- asAddr (tmps.getD a undef))

theorem aresults_sound {P:Program} {E:Ent} {G:Gh} {m:HM} {s:AState} {a:Act} {w:World} (h:AtS E G m s a w):∀ {rvs:List ResultVar} {rs:List RRes} {as:List AV},(∀ x ∈ rvs,resIn E.N x=true)->resolveRes P rvs=some rs->aresults s rs=some as ->
  ∃ vs:List Value,(rvs.mapM (resRun a.tmps)).run P w=.ok vs w/\AV.RepL G m as vs
 | [],rs,as,_,h1,h2=>by
  cases h1;cases h2
  exact ⟨[],by simp,by simp [AV.RepL]⟩
 | .tmp t :: rvs,rs,as,h0,h1,h2=>by
  have htN:t < E.N:=by simpa [resIn] using h0 (.tmp t) (by simp)
  simp only [resolveRes,Option.map_eq_some_iff] at h1
  obtain ⟨rs',h1,rfl⟩:=h1
  simp only [aresults,aresult] at h2
  split at h2
  ·rename_i x y e1 e2
   cases e1;cases h2
   obtain ⟨vs,k1,k2⟩:=aresults_sound h (fun x hx=>h0 x (by simp [hx])) h1 e2
   exact ⟨a.tmps.getD t undef :: vs,by simp [resRun,k1],by unfold AV.RepL;exact ⟨_,_,rfl,Ent.val_lt htN ▸ h.env t,k2⟩⟩
  ·cases h2
 | .cell t T :: rvs,rs,as,h0,h1,h2=>by
  have htN:t < E.N:=by simpa [resIn] using h0 (.cell t T) (by simp)
  simp only [resolveRes] at h1
  split at h1
  ·rename_i d i rs' hd hi hrs
   cases h1
   simp only [aresults] at h2
   split at h2
   ·rename_i x y e1 e2
    cases h2
    obtain ⟨vs,k1,k2⟩:=aresults_sound h (fun x hx=>h0 x (by simp [hx])) hrs e2
    have hv:=h.env t
    rw [Ent.val_lt htN] at hv
    simp only [aresult] at e1
    split at e1
    ·rename_i hd' off he
     rw [he] at hv
     unfold AV.Rep at hv
     obtain ⟨_,loc,hloc,hp⟩:=hv
     split at e1
     ·rename_i cs hl
      have hnd:loc ≠ .dead:=fun e=>by subst e;rw [h.sim.dead _ hloc] at hl;cases hl
      obtain ⟨b,sz,rfl,hp'⟩:=hp hnd
      obtain ⟨bl,hl3,hb⟩:=h.sim.blk _ _ _ hloc
      rw [hl] at hl3
      cases hl3
      obtain ⟨ws,T',h1,h2,h3,h4⟩:=hb
      have hm:(match (if isAggD d then some i.size else none) with
       | none=>∃ x',cs[off]?=some x'/\x=x'
       | some n=>off + n <= cs.length/\x=.agg ((cs.drop off).take n)):=by
       split at e1
       ·exact ⟨x,e1,rfl⟩
       ·rw [Option.ite_none_right_eq_some] at e1
        exact ⟨e1.1,(Option.some.inj e1.2).symm⟩
      obtain ⟨v,hv,hrep⟩:=load_box (P:=P) hd hi h1 h3 hm
      refine ⟨v :: vs,?_,by unfold AV.RepL;exact ⟨_,_,rfl,hrep,k2⟩⟩
      simp only [Array.getD_eq_getD_getElem?] at hp'
      simp [resRun,hp',asAddr,hv,k1]
     ·cases e1
    ·rename_i hd' k ix off he
     rw [he] at hv
     unfold AV.Rep at hv
     obtain ⟨_,loc,hloc,hp⟩:=hv
     split at e1
     ·rename_i mt k' es n hl hag
      rw [Option.ite_none_right_eq_some] at e1
      obtain ⟨⟨rfl,rfl,rfl,hle⟩,e1⟩:=e1
      cases e1
      have ha:isAggD d=true:=by
       cases hh:isAggD d with
       | true=>rfl
       | false=>rw [hh] at hag;cases hag
      rw [ha] at hag
      cases hag
      have hnd:loc ≠ .dead:=fun e=>by subst e;rw [h.sim.dead _ hloc] at hl;cases hl
      obtain ⟨b,sz,rfl,hp'⟩:=hp hnd
      obtain ⟨bl,hl3,hb⟩:=h.sim.blk _ _ _ hloc
      rw [hl] at hl3
      cases hl3
      obtain ⟨f,hrow,hf,_⟩:=row_cells hb h.sim.gh
      have hrow2:=DV.rows_drop ix hrow
      rw [Nat.zero_add] at hrow2
      have hcell:=rows_flat hrow2
      have hfl:=rows_len hrow2
      rw [List.length_drop,Nat.mul_one] at hfl
      obtain ⟨v,hv,hrep⟩:=load_cells (P:=P) (m:=m) hd hi (b:=b) hcell hf (a:=.agg ((((es.drop ix).take i.size).flatten).map .D)) (by
       rw [ha]
       exact ⟨by rw [hfl];omega,by rw [rows_take_flat i.size hrow2]⟩)
      refine ⟨v :: vs,?_,by unfold AV.RepL;exact ⟨_,_,rfl,hrep,k2⟩⟩
      simp only [Array.getD_eq_getD_getElem?,Nat.mul_one,Nat.add_zero] at hp' hv
      simp [resRun,hp',asAddr,hv,k1]
     ·cases e1
    ·cases e1
   ·cases h2
  ·cases h1

theorem aret_sound {P:Program} {fn:Func} {E:Ent} {G:Gh} {m:HM} {s:AState} {a:Act} {w:World} (h:AtS E G m s a w) {rs:List RRes} {x:AV} (h0:∀ x ∈ fn.results.toList,resIn E.N x=true) (h1:resolveRes P fn.results.toList=some rs) (h2:aret s rs=some x) :
  ∃ v,(results fn a.tmps).run P w=.ok v w/\AV.Rep G m x v:=by
 have key:∀ as,aresults s rs=some as->∃ vs:List Value,(fn.results.mapM (resRun a.tmps)).run P w=.ok vs.toArray w/\AV.RepL G m as vs:=fun as he=>by
  obtain ⟨vs,k1,k2⟩:=aresults_sound (P:=P) h h0 h1 he
  refine ⟨vs,?_,k2⟩
  rw [Array.mapM_eq_mapM_toList]
  simp [k1]
 have hres:∀ vs:List Value,(fn.results.mapM (resRun a.tmps)).run P w=.ok vs.toArray w->(results fn a.tmps).run P w=.ok (if h:vs.toArray.size=1 then vs.toArray[0] else .tuple vs.toArray) w:=fun vs hr=>by
  have:results fn a.tmps=(do let vs <- fn.results.mapM (resRun a.tmps);pure (if h:vs.size=1 then vs[0] else .tuple vs)):=rfl
  rw [this]
  simp [hr]
 unfold aret at h2
 split at h2
 ·rename_i y he
  cases h2
  obtain ⟨vs,k1,k2⟩:=key _ he
  refine ⟨_,hres vs k1,?_⟩
  unfold AV.RepL AV.RepL at k2
  obtain ⟨v,vs',rfl,k3,rfl⟩:=k2
  simpa using k3
 ·rename_i as hne he
  cases h2
  obtain ⟨vs,k1,k2⟩:=key _ he
  refine ⟨_,hres vs k1,?_⟩
  have hl:=AV.RepL_length k2
  have:¬ vs.toArray.size=1:=fun e=>by
   have:as.length=1:=by simpa [hl] using e
   match as,this with
   | [y],_=>exact hne y rfl
  rw [dif_neg this]
  unfold AV.Rep
  exact ⟨_,rfl,by simpa using k2⟩
 ·cases h2

def AEnd (n:Nat) (rs:List RRes) (r:AV) (bs':List (Option Blk)) (nbs:List Blk):Exit->AState->Prop:=fun e s =>
 (e=.normal\/e=.ret)/\∃ slots x,slots.Nodup/\aret s rs=some x/\AV.conv s.lk (phi slots) x=r/\((List.range n).map fun i=>(s.bs i).map (Blk.conv s.lk (phi slots)))=bs' /\
  (slots.map fun j=>(s.own j).map (Blk.conv s.lk (phi slots)))=nbs.map some

def entry (args:List AV) (bs:List (Option Blk)):AState :=
 {env:=fun t=>args.getD t .un,bs:=fun i=>(bs[i]?).join,own:=fun _=>none,nx:=0 }

theorem Sim.putObj {G:Gh} {m:HM} {lk:Look} {w:World} (h:Sim G m lk w) {r:Nat} {o o':Obj} (hr:w.heap[r]?=some o) (hn:o.isD=false):Sim G m lk (w.putObj r o'):=by
 refine ⟨fun x b sz hx=>?_,h.nil,h.injG,fun b q v hv=>?_,h.dead,h.gl,fun x b sz fp hx=>?_⟩
 rotate_right
 ·obtain ⟨bl,h1,h2⟩:=h.blkx x b sz fp hx
  have hne:∀ c ∈ b :: fp,c ≠ r:=fun c hc e=>by
   obtain ⟨o2,hc2,hd2⟩:=h2.data c hc
   subst e;rw [hr] at hc2;cases hc2;rw [hd2] at hn;cases hn
  refine ⟨bl,h1,h2.mono (Gh.le.refl G) (HM.le.refl m) (fun _ _ _=>rfl) (fun c hc=>World.putObj_heap_other (hne c hc)) fun _ c _ _ _ _ _ _ _ hc=>World.putObj_heap_other (fun e=>?_)⟩
  subst e;rw [hr] at hc;cases hc;cases hn
 ·obtain ⟨bl,h1,h2⟩:=h.blk x b sz hx
  obtain ⟨o2,hc,hd⟩:=h.data (.at_ hx)
  have hne:b ≠ r:=fun e=>by subst e;rw [hr] at hc;cases hc;rw [hd] at hn;cases hn
  exact ⟨bl,h1,h2.mono (Gh.le.refl G) (HM.le.refl m) (fun _=>rfl) (World.putObj_heap_other hne)⟩
 ·have hv':=h.gh b q v hv
  have hne:b ≠ r:=fun e=>by
   subst e
   unfold World.cell? at hv'
   simp only [hr] at hv'
   cases o <;> first | (cases hn;done) | cases hv'
  unfold World.cell?
  rw [World.putObj_heap_other hne]
  exact hv'

theorem Fr.putObj {oh og:Nat->Prop} {G0 G:Gh} {w0 w:World} (h:Fr oh og G0 G w0 w) {r:Nat} {o:Obj} (hr:w0.heap.size <= r):Fr oh og G0 G w0 (w.putObj r o) :=
 ⟨h.os,h.tape,h.output,by rw [World.putObj_size];exact h.size,fun b hb ho=>by rw [World.putObj_heap_other (by omega)];exact h.heap b hb ho,h.gh,h.le⟩

theorem leaves_marks {P:Program} {fn:Func} {E:Ent} {G:Gh} {m:HM} {s:AState} {R:Ending->World->Prop} {tmps:Array Value}:∀ (ms:List Deferred) (w:World),AtS E G m s { tmps:=tmps,defers:=ms ++ E.dt } w->Marks (E.w0.heap.size + E.sk) E.nd ms w ->
  (∀ w',AtS E G m s { tmps:=tmps,defers:=E.dt } w'->LeavesInM (FR none) 0 P fn tmps R E.dt .returning w')->LeavesInM (FR none) 0 P fn tmps R (ms ++ E.dt) .returning w
 | [],w,h,_,hR=>hR w h
 | d :: ms,w,h,hM,hR=>by
  obtain ⟨r,rfl,hr1,hr2⟩:=hM.1 d (by simp)
  have hnd:=hM.2.1
  have hM':Marks (E.w0.heap.size + E.sk) E.nd ms (w.putObj r (.deferred none)):=by
   refine ⟨fun d' hd'=>?_,(List.nodup_cons.1 hnd).2,fun e=>by have:=hM.2.2 e;cases this⟩
   obtain ⟨r',rfl,q1,q2⟩:=hM.1 d' (by simp [hd'])
   refine ⟨r',rfl,q1,?_⟩
   rw [World.putObj_heap_other (fun e=>(List.nodup_cons.1 hnd).1 (by subst e;exact hd'))]
   exact q2
  refine ⟨by simp,.inl ⟨r,w.putObj r (.deferred none),rfl,run_takeDeferred hr2,leaves_marks ms _ ?_ hM' hR⟩⟩
  exact ⟨h.sim.putObj hr2 rfl,h.env,h.size,⟨ms,rfl,hM'⟩,E.Jput _ _ _ _ h.jok hr1,h.fresh,h.frame.putObj (Nat.le_trans (Nat.le_add_right _ _) hr1),h.base,h.own,h.noO,h.nxOk⟩
theorem leaves_marks0 {P:Program} {fn:Func} {E:Ent} {G:Gh} {m:HM} {s:AState} {R:Ending->World->Prop} {tmps:Array Value} (hdt:E.dt=[]) (ds:List Deferred) (w:World) (h:AtS E G m s { tmps:=tmps,defers:=ds } w)
  (hR:∀ w',AtS E G m s { tmps:=tmps,defers:=[] } w'->∃ v,(results fn tmps).run P w'=.ok v w'/\R (.returned v) w'):LeavesInM (FR none) 0 P fn tmps R ds .returning w:=by
 obtain ⟨ms,e,hM⟩:=h.defers
 have e:ds=ms ++ E.dt:=e
 subst e
 exact leaves_marks ms w h hM (fun w' h'=>by rw [hdt] at h' |-;exact hR w' h')

def AEndW (n:Nat) (rs:List RRes) (r:AV) (bs':List (Option Blk)) (nbs:List Blk):Exit->AState->Prop:=fun e s=>∃ s',Wk s s'/\AEnd n rs r bs' nbs e s'

theorem entry_ok {N:Nat} (nd:Bool) {args:List AV} {bs:List (Option Blk)} {w:World} {G:Gh} {m:HM} {vs:Array Value} (hn:args.length <= N) (hS:Sim G m (lkOf bs []) w) (hO:∀ i,m (.O i)=none) (hA:AV.RepL G m args vs.toList) :
  AtS { w0:=w,G0:=G,m0:=m,N:=N,nd:=nd:Ent } G m (entry args bs) { tmps:=vs ++ Array.replicate (N - vs.size) undef,defers:=[] } w:=by
 have hlen:=AV.RepL_length hA
 have hlen':args.length=vs.size:=by simpa using hlen
 refine ⟨?_,fun t=>?_,?_,marks1_nil.2 Marks.nil,trivial,fun i _=>hO i,Fr.refl _ _ _ _,fun i=>.inl rfl,fun x l b hi hl=>.inr ⟨x,l,hi,hl⟩,trivial,fun _ _=>rfl⟩
 ·have:(entry args bs).lk=lkOf bs []:=by funext h;cases h <;> simp [AState.lk,entry,lkOf]
  rw [this];exact hS
 ·have hval:Ent.val { w0:=w,G0:=G,m0:=m,N:=N,nd:=nd:Ent } { tmps:=vs ++ Array.replicate (N - vs.size) undef,defers:=[] } t=(vs ++ Array.replicate (N - vs.size) undef).getD t undef:=by
   unfold Ent.val
   split
   ·rfl
   ·rename_i ht
    have ht:N <= t:=Nat.le_of_not_lt ht
    have:(vs ++ Array.replicate (N - vs.size) undef)[t]?=none:=Array.getElem?_eq_none (by simp;omega)
    simp only [Array.getD_eq_getD_getElem?,this]
    rfl
  rw [hval]
  show AV.Rep G m (args.getD t .un) ((vs ++ Array.replicate (N - vs.size) undef).getD t undef)
  rcases Nat.lt_or_ge t vs.size with ht | ht
  ·have h1:args[t]?=some args[t]:=by simp [hlen',ht]
   obtain ⟨v,h2,h3⟩:=AV.RepL_get hA h1
   rw [List.getD_eq_getElem?_getD,h1]
   simp only [Array.getElem?_toList] at h2
   simp only [Array.getD_eq_getD_getElem?,Array.getElem?_append_left ht,h2]
   exact h3
  ·rw [List.getD_eq_getElem?_getD,List.getElem?_eq_none (by omega)]
   have:(vs ++ Array.replicate (N - vs.size) undef).getD t undef=undef:=by
    simp only [Array.getD_eq_getD_getElem?,Array.getElem?_append_right ht,Array.getElem?_replicate]
    split <;> rfl
   rw [this]
   show AV.Rep G m .un undef
   unfold AV.un AV.Rep DV.Rep;rfl
 ·simp;omega

theorem end_ok {P:Program} {fn:Func} {rs:List RRes} {bs:List (Option Blk)} {r:AV} {bs':List (Option Blk)} {nbs:List Blk} (hrs0:(∀ x ∈ fn.results.toList,resIn fn.ntmps x=true)/\resolveRes P fn.results.toList=some rs)
  {E:Ent} {w:World} {G:Gh} {m:HM} (h0:E.w0=w) (h1:E.G0=G) (h2:E.m0=m) (hN:E.N=fn.ntmps) (hS:Sim G m (lkOf bs []) w) {G1:Gh} {m1:HM} {s:AState} {a':Act} {w':World} (hA':AtS E G1 m1 s a' w') {e:Exit} (hq:AEnd bs.length rs r bs' nbs e s) :
  ∃ v,(results fn a'.tmps).run P w'=.ok v w'/\APost w G m (lkOf bs' nbs) r v w':=by
 subst h0;subst h1;subst h2
 rw [<- hN] at hrs0
 obtain ⟨he,slots,x,hnd,hx,hr,hbs,hnbs⟩:=hq
 obtain ⟨v,hv,hrep⟩:=aret_sound (P:=P) (fn:=fn) hA' hrs0.1 hrs0.2 hx
 obtain ⟨G2,hA2,hconv⟩:=hA'.wk [] hnd
 have hlkO:∀ i,lkOf bs' nbs (.O i)=(s.wk [] slots).lk (.O i):=fun i=>by
  show nbs[i]?=(slots[i]?).bind _
  have:=congrArg (fun l=>l[i]?) hnbs
  simp only [List.getElem?_map] at this
  cases h1:nbs[i]? with
  | none=>cases h2:slots[i]? with
   | none=>rfl
   | some j=>rw [h1,h2] at this;cases this
  | some b=>cases h2:slots[i]? with
   | none=>rw [h1,h2] at this;cases this
   | some j =>
    rw [h1,h2] at this
    exact (Option.some.inj this).symm
 have hlen2:slots.length=nbs.length:=by simpa using congrArg List.length hnbs
 have hpost:APost E.w0 E.G0 E.m0 (lkOf bs' nbs) r v w':=by
  have hS2:Sim G2 (wkM m1 slots) (lkOf bs' nbs) w':=by
   have hB:∀ i,i < bs.length->lkOf bs' nbs (.B i)=(s.wk [] slots).lk (.B i):=fun i hi=>by
    show (bs'[i]?).join=_
    rw [<- hbs]
    simp [hi]
    rfl
   have hB':∀ i,bs.length <= i->lkOf bs' nbs (.B i)=none/\(wkM m1 slots (.B i)=none\/wkM m1 slots (.B i)=some .dead):=fun i hi=>by
    refine ⟨?_,?_⟩
    ·show (bs'[i]?).join=_
     have:bs'.length=bs.length:=by rw [<- hbs];simp
     rw [List.getElem?_eq_none (by omega)];rfl
    ·have hno:lkOf bs [] (.B i)=none:=by show (bs[i]?).join=none;rw [List.getElem?_eq_none hi];rfl
     rcases hA2.base i with h1 | ⟨_,h1⟩ | ⟨_,_,_,_,h1,_⟩
     rotate_right
     ·obtain ⟨bl,h3,_⟩:=hS.blkx _ _ _ _ h1;rw [hno] at h3;cases h3
     ·rw [h1]
      show E.m0 (.B i)=none\/E.m0 (.B i)=some .dead
      cases hm:E.m0 (.B i) with
      | none=>exact .inl rfl
      | some loc =>
       cases loc with
       | dead=>exact .inr rfl
       | none=>obtain ⟨mt,k,h3⟩:=hS.nil _ hm;rw [hno] at h3;cases h3
       | at_ b sz=>obtain ⟨bl,h3,_⟩:=hS.blk _ _ _ hm;rw [hno] at h3;cases h3
       | atx b sz fp=>obtain ⟨bl,h3,_⟩:=hS.blkx _ _ _ _ hm;rw [hno] at h3;cases h3
     ·exact .inr h1
   have hcase:∀ x,lkOf bs' nbs x=(s.wk [] slots).lk x\/(lkOf bs' nbs x=none/\(wkM m1 slots x=none\/wkM m1 slots x=some .dead)):=fun x=>by
    cases x with
    | O i=>exact .inl (hlkO i)
    | B i =>
     rcases Nat.lt_or_ge i bs.length with h | h
     ·exact .inl (hB i h)
     ·exact .inr (hB' i h)
   refine ⟨fun x b sz hx=>?_,fun x hx=>?_,hA2.sim.injG,hA2.sim.gh,fun x hx=>?_,hA2.sim.gl,fun x b sz fp hx=>?_⟩
   rotate_right
   ·rcases hcase x with h | ⟨_,h | h⟩
    ·rw [h];exact hA2.sim.blkx x b sz fp hx
    ·rw [h] at hx;cases hx
    ·rw [h] at hx;cases hx
   ·rcases hcase x with h | ⟨_,h | h⟩
    ·rw [h];exact hA2.sim.blk x b sz hx
    ·rw [h] at hx;cases hx
    ·rw [h] at hx;cases hx
   ·rcases hcase x with h | ⟨_,h | h⟩
    ·rw [h];exact hA2.sim.nil x hx
    ·rw [h] at hx;cases hx
    ·rw [h] at hx;cases hx
   ·rcases hcase x with h | ⟨h,_⟩
    ·rw [h];exact hA2.sim.dead x hx
    ·exact h
  refine ⟨G2,wkM m1 slots,hS2,hr ▸ hconv _ _ hrep,hA2.frame,hA2.base,hA2.own,fun i hi=>?_⟩
  have:slots[i]?=none:=by
   have hi:nbs[i]?=none:=hi
   rw [List.getElem?_eq_none_iff] at hi |-
   omega
  show (slots[i]?).bind _=none
  rw [this];rfl
 exact ⟨v,hv,hpost⟩

theorem resN_of {P:Program} {fn:Func} {rs:List RRes} (hrs:resolveResN P fn.ntmps fn.results.toList=some rs):(∀ x ∈ fn.results.toList,resIn fn.ntmps x=true)/\resolveRes P fn.results.toList=some rs:=by
 unfold resolveResN at hrs
 rw [Option.ite_none_right_eq_some,List.all_eq_true] at hrs
 exact hrs

theorem ACall.of_bodyS {P:Program} (fl:List Nat) (S:AState->Prop) {f:FuncId} {fn:Func} {c:Code} {rc:RCode} {rs:List RRes} {args:List AV} {bs:List (Option Blk)} {r:AV} {bs':List (Option Blk)} {nbs:List Blk}
  (hf : P.funcs[f]? = some fn) (hb : fn.body = some c) (hname : (fn.name == "runtime.NumGoroutine") = false) (hm : P.follows .mixedOrders = true) (hrc : resolveCode P fl fn.ntmps c = some rc) (hrs : resolveResN P fn.ntmps fn.results.toList = some rs)
  (hn:args.length <= fn.ntmps) (hw0:∀ E a w,E.N=fn.ntmps->ASim E (entry args bs) a w->∃ s0,S s0/\ASim E s0 a w) (h:∀ s0,S s0->acode P noY rc (AEndW bs.length rs r bs' nbs) s0):ACall P f args bs r bs' nbs:=by
 have hrs0:=resN_of hrs
 refine fun w G m vs hS hO hA=>.inl ⟨⟨fn,hf,by rw [hb];rfl,hname⟩,callsFR' (r:=none) (n:=0) (callsIn_of_wp_marks hf hb (FR_fn none f) ?_)⟩
 have hent:=entry_ok false hn hS hO hA
 obtain ⟨s0,hs0,hsim0⟩:=hw0 _ _ _ rfl ⟨G,m,hent⟩
 refine wpIn_mono (resolveCode_ok hm hrc none noY _ _ _ _ _ (YOk.none rfl rfl) rfl (h s0 hs0) hsim0) fun e a' w' ⟨s00,⟨s,hw,hq⟩,hA0⟩=>?_
 obtain ⟨G1,m1,hA'⟩:=hw _ _ _ hA0
 have key:∀ w',AtS { w0:=w,G0:=G,m0:=m,N:=fn.ntmps:Ent } G1 m1 s { tmps:=a'.tmps,defers:=[] } w'->∃ v,(results fn a'.tmps).run P w'=.ok v w'/\∃ v',Ending.returned v=.returned v'/\APost w G m (lkOf bs' nbs) r v' w':=fun w' hA'=>by
  obtain ⟨v,hv,hp⟩:=end_ok hrs0 rfl rfl rfl rfl hS hA' hq
  exact ⟨v,hv,v,rfl,hp⟩
 rcases hq.1 with rfl | rfl <;> exact leaves_marks0 rfl a'.defers w' hA' key

theorem ACall.of_bodyX {P:Program} (fl:List Nat) (s0:AState) {f:FuncId} {fn:Func} {c:Code} {rc:RCode} {rs:List RRes} {args:List AV} {bs:List (Option Blk)} {r:AV} {bs':List (Option Blk)} {nbs:List Blk}
  (hf : P.funcs[f]? = some fn) (hb : fn.body = some c) (hname : (fn.name == "runtime.NumGoroutine") = false) (hm : P.follows .mixedOrders = true) (hrc : resolveCode P fl fn.ntmps c = some rc) (hrs : resolveResN P fn.ntmps fn.results.toList = some rs)
  (hn:args.length <= fn.ntmps) (hw0:Wk (entry args bs) s0) (h:acode P noY rc (AEndW bs.length rs r bs' nbs) s0):ACall P f args bs r bs' nbs :=
 ACall.of_bodyS fl (·=s0) hf hb hname hm hrc hrs hn (fun E a w _ h=>⟨s0,rfl,hw0 E a w h⟩) (fun _ e=>e ▸ h)

end Go.Eng


/- Texts of this claim. -/
import Derived.Test.YtkfcmelpadbdcaaGreatDoorE14b
set_option linter.all false
set_option linter.unusedSimpArgs false
set_option linter.unusedVariables false
namespace Go.Eng
open Go.RowKit

theorem setBlks_env {ψ:Hd->Hd}:∀ (hs:List Hd) (bs:List (Option Blk)) (s:AState),(setBlks s ψ hs bs).env=s.env
 | [],_,_=>by unfold setBlks;rfl
 | _ :: _,[],_=>by unfold setBlks;rfl
 | h :: hs,b :: bs,s=>by unfold setBlks;rw [setBlks_env hs bs,setBlk_env]
theorem setBlks_nx {ψ:Hd->Hd}:∀ (hs:List Hd) (bs:List (Option Blk)) (s:AState),(setBlks s ψ hs bs).nx=s.nx
 | [],_,_=>by unfold setBlks;rfl
 | _ :: _,[],_=>by unfold setBlks;rfl
 | h :: hs,b :: bs,s=>by unfold setBlks;rw [setBlks_nx hs bs,setBlk_nx]
theorem setBlks_out {ψ:Hd->Hd} {x:Hd}:∀ (hs:List Hd) (bs:List (Option Blk)) (s:AState),x ∉ hs->(setBlks s ψ hs bs).lk x=s.lk x
 | [],_,_,_=>by unfold setBlks;rfl
 | _ :: _,[],_,_=>by unfold setBlks;rfl
 | h :: hs,b :: bs,s,hx=>by
  simp only [List.mem_cons,not_or] at hx
  unfold setBlks
  rw [setBlks_out hs bs _ hx.2,lk_setBlk,if_neg hx.1]
theorem setBlks_in {ψ:Hd->Hd} {x:Hd}:∀ (hs:List Hd) (bs:List (Option Blk)) (s:AState) (i:Nat),hs.Nodup->bs.length=hs.length->hs[i]?=some x->(setBlks s ψ hs bs).lk x=((bs[i]?).join).map (Blk.ren ψ)
 | [],_,_,_,_,_,hi=>by simp at hi
 | _ :: _,[],_,_,_,hl,_=>by simp at hl
 | h :: hs,b :: bs,s,0,hn,hl,hi=>by
  simp only [List.getElem?_cons_zero,Option.some.injEq] at hi
  subst hi
  unfold setBlks
  rw [setBlks_out hs bs _ (List.nodup_cons.1 hn).1,lk_setBlk,if_pos rfl]
  simp
 | h :: hs,b :: bs,s,i + 1,hn,hl,hi=>by
  unfold setBlks
  rw [setBlks_in hs bs _ i (List.nodup_cons.1 hn).2 (by simpa using hl) (by simpa using hi)]
  simp
section
variable {P:Program} {o:Oper}

theorem callE_sim {s:AState} {dst:Option Nat} {vals:List AV} {hs:List Hd} {r:AV} {bs':List (Option Blk)} {nbs:List Blk} (hnd:hs.Nodup) (hok:hsOk s.nx hs=true) (hits:∀ h ∈ hs,(s.lk h).any Blk.isIt=false) (hlen:bs'.length=hs.length) :
  (∀ t,dst ≠ some t->(afterE s hs vals dst r bs' nbs).env t=s.env t)/\s.nx <= (afterE s hs vals dst r bs' nbs).nx/\((∀ i,s.nx <= i->s.own i=none)->∀ i,(afterE s hs vals dst r bs' nbs).nx <= i->(afterE s hs vals dst r bs' nbs).own i=none) /\
  ∀ (G:Gh) (m:HM) (w:World) (vs:Array Value),Sim G m s.lk w->AV.RepL G m vals vs.toList->(∀ j,s.nx <= j->j < (afterE s hs vals dst r bs' nbs).nx->m (.O j)=none) ->
   ∃ G1 m1,Sim G1 m1 (lkOf (handed s.lk hs) []) w/\(∀ i,m1 (.O i)=none)/\AV.RepL G1 m1 (AV.convL s.lk (phiH hs) vals) vs.toList/\∀ v w',APost w G1 m1 (lkOf bs' nbs) r v w'->EPost G m s dst (afterE s hs vals dst r bs' nbs) w v w':=by
 have hnew:∀ x,x ∈ hs->∀ j,x ≠ .O (s.nx + j):=fun x hx j e=>by
  have:=hsOk_lt hok (e ▸ hx)
  omega
 have hsF:(s.put none .un [] (fzE s.lk hs vals)).nx=s.nx:=rfl
 have hlkF:(s.put none .un [] (fzE s.lk hs vals)).lk=lkF s.lk (fzE s.lk hs vals):=by rw [lk_put,lkN_nil]
 have hnx':(afterE s hs vals dst r bs' nbs).nx=s.nx + nbs.length:=by
  show (setBlks _ _ hs bs').nx + (nbs.map _).length=_
  rw [setBlks_nx,hsF,List.length_map]
 have hlk':(afterE s hs vals dst r bs' nbs).lk=lkN (setBlks (s.put none .un [] (fzE s.lk hs vals)) (backHd hs s.nx) hs bs').lk s.nx (nbs.map (Blk.ren (backHd hs s.nx))):=by
  unfold afterE
  rw [lk_put,lkF_nil,setBlks_nx,hsF]
 have hlkN:∀ j bl,nbs[j]?=some bl->(afterE s hs vals dst r bs' nbs).lk (.O (s.nx + j))=some (bl.ren (backHd hs s.nx)):=fun j bl hj=>by
  have hlt:=(List.getElem?_eq_some_iff.1 hj).1
  rw [hlk']
  simp only [lkN,List.length_map]
  rw [if_pos ⟨by omega,by omega⟩,Nat.add_sub_cancel_left,List.getElem?_map,hj];rfl
 have hlkO:∀ x,(∀ j,j < nbs.length->x ≠ .O (s.nx + j))->(afterE s hs vals dst r bs' nbs).lk x=(setBlks (s.put none .un [] (fzE s.lk hs vals)) (backHd hs s.nx) hs bs').lk x:=fun x hx=>by
  rw [hlk']
  cases x with
  | B i=>rfl
  | O i =>
   simp only [lkN,List.length_map]
   rw [if_neg (fun hc=>hx (i - s.nx) (by omega) (by rw [show s.nx + (i - s.nx)=i by omega]))]
 refine ⟨fun t ht=>?_,by rw [hnx'];omega,fun hown j hj=>?_,fun G m w vs hS hrep hn=>?_⟩
 ·show setDst (setBlks _ _ hs bs').env dst _ t=_
  rw [setBlks_env]
  cases dst with
  | none=>rfl
  | some d=>simp only [setDst,upd];rw [if_neg (fun e=>ht (by rw [e]))];rfl
 ·rw [hnx'] at hj
  have h1:=hlkO (.O j) (fun k hk e=>by cases e;omega)
  have:(afterE s hs vals dst r bs' nbs).own j=(afterE s hs vals dst r bs' nbs).lk (.O j):=rfl
  rw [this,h1,setBlks_out _ _ _ (fun hx=>hnew _ hx (j - s.nx) (by rw [show s.nx + (j - s.nx)=j by omega])),hlkF]
  unfold lkF
  have h0:s.lk (.O j)=none:=hown j (by omega)
  rw [h0];split <;> rfl
 ·rw [hnx'] at hn
  obtain ⟨G1,hS1,hle1,hG1⟩:=hS.freeze (fzE s.lk hs vals)
  have hphi:∀ hd hd' loc,phiH hs hd=some hd'->m hd=some loc->(fun x=>match x with | Hd.B i=>(hs[i]?).bind m | Hd.O _=>none:HM) hd'=some loc:=fun hd hd' loc hp hm=>by
   unfold phiH at hp
   rw [Option.map_eq_some_iff] at hp
   obtain ⟨i,hi,rfl⟩:=hp
   obtain ⟨_,h2⟩:=idxH_spec hi
   show (hs[i]?).bind m=_
   rw [show hs[i]?=some hd by simpa using h2]
   exact hm
  have hrowF:∀ hd mt k es,s.lk hd=some (.row mt k es)->∃ mt',lkF s.lk (fzE s.lk hs vals) hd=some (.row mt' k es):=fun hd mt k es hh=>by
   unfold lkF
   split
   ·exact ⟨false,by rw [hh];rfl⟩
   ·exact ⟨mt,hh⟩
  have hfz:∀ hd mt k es,(hd ∈ AV.rowsL vals\/hd ∈ boxRows s.lk hs)->phiH hs hd=none->(s.lk hd).isSome=true->lkF s.lk (fzE s.lk hs vals) hd=some (.row mt k es)->mt=false:=fun hd mt k es hmem hp hsome hr=>by
   have hnh:hd ∉ hs:=by
    unfold phiH at hp
    rw [Option.map_eq_none_iff] at hp
    exact idxH_none hp
   have hin:hd ∈ fzE s.lk hs vals:=List.mem_filter.2 ⟨mem_fzL (List.mem_append.2 hmem) hsome,by simpa using hnh⟩
   unfold lkF at hr
   rw [if_pos hin] at hr
   cases hx:s.lk hd with
   | none=>rw [hx] at hr;cases hr
   | some bl =>
    rw [hx] at hr
    cases bl with
    | row mt' k' es'=>cases hr;rfl
    | _=>cases hr
  have hrep1:=AV.convL_rep (lk:=s.lk) hS1 hrowF hphi vals _ (fun hd hh mt k es hp hsome hr=>hfz hd mt k es (.inl hh) hp hsome hr) (AV.RepL.mono hle1 (HM.le.refl m) _ _ hrep)
  have hnotF:∀ x,x ∈ hs->lkF s.lk (fzE s.lk hs vals) x=s.lk x:=fun x hx=>by
   unfold lkF
   rw [if_neg (fun hin=>by have:=(List.mem_filter.1 hin).2;simp [hx] at this)]
  have hget0:∀ {x loc},(fun x=>match x with | Hd.B i=>(hs[i]?).bind m | Hd.O _=>none:HM) x=some loc->∃ i hd,x=.B i/\hs[i]?=some hd/\m hd=some loc:=fun {x loc} hx=>by
   cases x with
   | O i=>cases hx
   | B i =>
    have hx:(hs[i]?).bind m=some loc:=hx
    rw [Option.bind_eq_some_iff] at hx
    obtain ⟨hd,h1,h2⟩:=hx
    exact ⟨i,hd,rfl,h1,h2⟩
  have hlk0:∀ i hd,hs[i]?=some hd->lkOf (handed s.lk hs) [] (.B i)=(s.lk hd).map (Blk.conv s.lk (phiH hs)):=fun i hd hi=>by
   show ((handed s.lk hs)[i]?).join=_
   unfold handed
   rw [List.getElem?_map,hi];rfl
  have hblk0:∀ hd bl b sz,hd ∈ hs->s.lk hd=some bl->BlkRep G1 m bl b sz w->BlkRep G1 (fun x=>match x with | Hd.B i=>(hs[i]?).bind m | Hd.O _=>none:HM) (Blk.conv s.lk (phiH hs) bl) b sz w:=fun hd bl b sz hin hl hb=>by
   cases bl with
   | row mt k es=>cases mt <;> exact hb
   | box cs =>
    obtain ⟨us,T,g1,g2,g3,g4⟩:=hb
    exact ⟨us,T,g1,g2,AV.convL_rep hS1 hrowF hphi cs _ (fun x hx mt k es a b' c'=>hfz x mt k es (.inr (boxRows_mem hin hl hx)) a b' c') g3,g4⟩
   | _=>exact hb.elim
  have hS0:Sim G1 (fun x=>match x with | Hd.B i=>(hs[i]?).bind m | Hd.O _=>none:HM) (lkOf (handed s.lk hs) []) w:=by
   refine ⟨fun x b sz hx=>?_,fun x hx=>?_,fun x y l l' b hx hy hb hb'=>?_,hS1.gh,fun x hx=>?_,hS1.gl,fun x b sz fp hx=>?_⟩
   rotate_right
   ·obtain ⟨i,hd,rfl,h1,h2⟩:=hget0 hx
    obtain ⟨bl,h3,h4⟩:=hS1.blkx _ _ _ _ h2
    rw [hnotF hd (List.mem_of_getElem? h1)] at h3
    exact ⟨_,by rw [hlk0 i hd h1,h3];rfl,h4.conv hphi⟩
   ·obtain ⟨i,hd,rfl,h1,h2⟩:=hget0 hx
    obtain ⟨bl,h3,h4⟩:=hS1.blk _ _ _ h2
    rw [hnotF hd (List.mem_of_getElem? h1)] at h3
    exact ⟨_,by rw [hlk0 i hd h1,h3];rfl,hblk0 hd bl b sz (List.mem_of_getElem? h1) h3 h4⟩
   ·obtain ⟨i,hd,rfl,h1,h2⟩:=hget0 hx
    obtain ⟨mt,k,h3⟩:=hS.nil _ h2
    exact ⟨mt,k,by rw [hlk0 i hd h1,h3];rfl⟩
   ·obtain ⟨i,hd,rfl,h1,h2⟩:=hget0 hx
    obtain ⟨j,hd',rfl,h1',h2'⟩:=hget0 hy
    have:=hS.injG _ _ l l' b h2 h2' hb hb'
    subst this
    have hlt:=(List.getElem?_eq_some_iff.1 h1).1
    rw [(List.getElem?_inj hlt hnd).1 (h1.trans h1'.symm)]
   ·obtain ⟨i,hd,rfl,h1,h2⟩:=hget0 hx
    rw [hlk0 i hd h1,hS.dead _ h2];rfl
  refine ⟨G1,_,hS0,fun _=>rfl,hrep1,fun v w' hp=>?_⟩
  obtain ⟨G2,m2,hS2,hr2,hfr,hB,hO,hO3⟩:=hp
  have hOwn0:∀ b,Own (fun x=>match x with | Hd.B i=>(hs[i]?).bind m | Hd.O _=>none:HM) b->∃ hd l,hd ∈ hs/\m hd=some l/\b ∈ l.blks:=fun b ⟨x,l,hx,hl⟩=>by
   obtain ⟨i,hd,_,h1,h2⟩:=hget0 hx
   exact ⟨hd,l,List.mem_of_getElem? h1,h2,hl⟩
  have hhs0:∀ i hd,hs[i]?=some hd->(fun x=>match x with | Hd.B i=>(hs[i]?).bind m | Hd.O _=>none:HM) (.B i)=m hd:=fun i hd hi=>by
   show (hs[i]?).bind m=_
   rw [hi];rfl
  have hOwnM:∀ b,Own (fun x=>match x with | Hd.B i=>(hs[i]?).bind m | Hd.O _=>none:HM) b->Own m b:=fun b hb=>by
   obtain ⟨hd,l,_,h,hl⟩:=hOwn0 b hb
   exact ⟨hd,l,h,hl⟩
  obtain ⟨m',hm'⟩:∃ m':HM,m'=fun x=>match idxH x hs 0 with
   | some i=>m2 (.B i)
   | none=>match x with
    | .O k=>if s.nx <= k/\k < s.nx + nbs.length then m2 (.O (k - s.nx)) else m (.O k)
    | .B k=>m (.B k):=⟨_,rfl⟩
  have mh:∀ i hd,hs[i]?=some hd->m' hd=m2 (.B i):=fun i hd hi=>by
   rw [hm']
   simp only [idxH_of (n:=0) hnd hi,Nat.zero_add]
  have hno:∀ x,x ∉ hs->idxH x hs 0=none:=fun x hx=>by
   cases e:idxH x hs 0 with
   | none=>rfl
   | some i =>
    obtain ⟨_,h2⟩:=idxH_spec e
    exact absurd (List.mem_of_getElem? h2) hx
  have mn:∀ j,j < nbs.length->m' (.O (s.nx + j))=m2 (.O j):=fun j hj=>by
   rw [hm']
   simp only [hno _ (fun hx=>hnew _ hx j rfl)]
   rw [if_pos ⟨by omega,by omega⟩,Nat.add_sub_cancel_left]
  have mo:∀ x,x ∉ hs->(∀ j,j < nbs.length->x ≠ .O (s.nx + j))->m' x=m x:=fun x hx hh=>by
   rw [hm']
   simp only [hno x hx]
   cases x with
   | B k=>rfl
   | O k=>
    show (if _ then _ else _)=_
    rw [if_neg (fun hc=>hh (k - s.nx) (by omega) (by rw [show s.nx + (k - s.nx)=k by omega]))]
  have hn':∀ j,j < nbs.length->m (.O (s.nx + j))=none:=fun j hj=>hn _ (by omega) (by omega)
  have hdead:∀ i hd,hs[i]?=some hd->SameB (m hd) (m2 (.B i)):=fun i hd hi=>by
   have:=hB i
   rw [hhs0 i hd hi] at this
   exact this
  have hle':HM.le m m':=fun x loc hx=>by
   by_cases hin:x ∈ hs
   ·obtain ⟨i,hi⟩:=List.getElem?_of_mem hin
    have q:=hdead i x hi
    rw [<- mh i x hi] at q
    exact q.le hx
   ·rw [mo x hin (fun j hj e=>by rw [e,hn' j hj] at hx;cases hx)]
    exact .inl (.inl hx)
  have hO2:∀ i loc,m2 (.O i)=some loc->i < nbs.length:=fun i loc hi=>by
   cases hx:nbs[i]? with
   | none=>rw [hO3 i hx] at hi;cases hi
   | some bl=>exact (List.getElem?_eq_some_iff.1 hx).1
  have hB2:∀ i loc,m2 (.B i)=some loc->∃ hd,hs[i]?=some hd:=fun i loc hi=>by
   cases hx:hs[i]? with
   | some hd=>exact ⟨hd,rfl⟩
   | none =>
    have h0:(fun x=>match x with | Hd.B i=>(hs[i]?).bind m | Hd.O _=>none:HM) (.B i)=none:=by
     show (hs[i]?).bind m=none
     rw [hx];rfl
    rw [(hB i).none h0] at hi;cases hi
  have hback:∀ x loc,m2 x=some loc->m' (backHd hs s.nx x)=some loc:=fun x loc hx=>by
   cases x with
   | B i =>
    obtain ⟨hd,hi⟩:=hB2 i loc hx
    have:backHd hs s.nx (.B i)=hd:=by
     show hs.getD i (.B i)=hd
     rw [List.getD_eq_getElem?_getD,hi];rfl
    rw [this,mh i hd hi];exact hx
   | O i=>show m' (.O (s.nx + i))=_;rw [mn i (hO2 i loc hx)];exact hx
  have hsplit:∀ x loc,m' x=some loc->(x ∉ hs/\(∀ j,j < nbs.length->x ≠ .O (s.nx + j))/\m x=some loc)\/(∃ i,hs[i]?=some x/\m2 (.B i)=some loc)\/(∃ j,j < nbs.length/\x=.O (s.nx + j)/\m2 (.O j)=some loc):=fun x loc hx=>by
   by_cases hin:x ∈ hs
   ·obtain ⟨i,hi⟩:=List.getElem?_of_mem hin
    rw [mh i x hi] at hx
    exact .inr (.inl ⟨i,hi,hx⟩)
   ·by_cases hc:∃ j,j < nbs.length/\x=.O (s.nx + j)
    ·obtain ⟨j,hj,rfl⟩:=hc
     rw [mn j hj] at hx
     exact .inr (.inr ⟨j,hj,rfl,hx⟩)
    ·have hc':∀ j,j < nbs.length->x ≠ .O (s.nx + j):=fun j hj e=>hc ⟨j,hj,e⟩
     rw [mo x hin hc'] at hx
     exact .inl ⟨hin,hc',hx⟩
  have hnotOwn:∀ x l b,x ∉ hs->m x=some l->b ∈ l.blks->¬ Own (fun x=>match x with | Hd.B i=>(hs[i]?).bind m | Hd.O _=>none:HM) b:=fun x l b hin hx hb ho=>by
   obtain ⟨hd,l',hmem,hmd,hb'⟩:=hOwn0 b ho
   exact hin (hS.injG _ _ l l' b hx hmd hb hb' ▸ hmem)
  have hki:KeepIt m w w':=fun x b sz fp hx u c d e hb=>by
   obtain ⟨bl,g1,g2⟩:=hS.blkx x b sz fp hx
   have hit:bl=.it:=by
    cases bl with
    | nst k es=>obtain ⟨_,_,_,g3,_⟩:=g2;rw [hb] at g3;cases g3
    | sb T us es=>obtain ⟨_,_,_,g3,_⟩:=g2;rw [hb] at g3;cases g3
    | mp kd es i=>obtain ⟨_,_,_,_,g3,_⟩:=g2;rw [hb] at g3;cases g3
    | it=>rfl
    | _=>exact g2.elim
   have hin:x ∉ hs:=fun q=>by
    have:=hits x q
    rw [g1,hit] at this;cases this
   exact hfr.heap b (Array.getElem?_eq_some_iff.1 hb).1 (hnotOwn x _ b hin hx List.mem_cons_self)
  have hlkIn:∀ i x,hs[i]?=some x->(afterE s hs vals dst r bs' nbs).lk x=((bs'[i]?).join).map (Blk.ren (backHd hs s.nx)):=fun i x hi=>by
   rw [hlkO x (fun j hj=>hnew x (List.mem_of_getElem? hi) j),setBlks_in hs bs' _ i hnd hlen hi]
  have hlkOut:∀ x,x ∉ hs->(∀ j,j < nbs.length->x ≠ .O (s.nx + j))->(afterE s hs vals dst r bs' nbs).lk x=lkF s.lk (fzE s.lk hs vals) x:=fun x hx hj=>by
   rw [hlkO x hj,setBlks_out _ _ _ hx,hlkF]
  refine ⟨G2,m',⟨fun x b sz hx=>?_,fun x hx=>?_,fun x y l l' b hx hy hb hb'=>?_,hS2.gh,fun x hx=>?_,hS2.gl,fun x b sz fp hx=>?_⟩,fun d hd=>?_,⟨hfr.os,hfr.tape,hfr.output,hfr.size,fun b hb ho=>hfr.heap b hb (fun q=>ho (hOwnM b q)),fun b hb ho o=>?_,hle1.trans hfr.le⟩,hle',fun i=>?_,fun j hj=>?_,fun x l b hj hl=>?_⟩
  ·rcases hsplit x _ hx with ⟨h1,h2,h3⟩ | ⟨i,h1,h2⟩ | ⟨j,hj,rfl,h1⟩
   ·obtain ⟨bl,q1,q2⟩:=hS1.blk x b sz h3
    rw [hlkOut x h1 h2]
    have hno:=hnotOwn x _ b h1 h3 (List.mem_singleton.2 rfl)
    exact ⟨bl,q1,q2.mono hfr.le hle' (fun o=>hfr.gh b (hS1.lt h3) hno o) (hfr.heap b (hS1.lt h3) hno)⟩
   ·obtain ⟨bl,q1,q2⟩:=hS2.blk _ b sz h2
    have q1:(bs'[i]?).join=some bl:=q1
    rw [hlkIn i x h1,q1]
    exact ⟨_,rfl,q2.ren hback⟩
   ·obtain ⟨bl,q1,q2⟩:=hS2.blk _ b sz h1
    exact ⟨_,hlkN j bl q1,q2.ren hback⟩
  ·rcases hsplit x _ hx with ⟨h1,h2,h3⟩ | ⟨i,h1,h2⟩ | ⟨j,hj,rfl,h1⟩
   ·obtain ⟨mt,k,q1⟩:=hS1.nil x h3
    exact ⟨mt,k,by rw [hlkOut x h1 h2];exact q1⟩
   ·obtain ⟨mt,k,q1⟩:=hS2.nil _ h2
    have q1:(bs'[i]?).join=some (.row mt k []):=q1
    exact ⟨mt,k,by rw [hlkIn i x h1,q1];rfl⟩
   ·obtain ⟨mt,k,q1⟩:=hS2.nil _ h1
    exact ⟨mt,k,hlkN j _ q1⟩
  ·have old_new:∀ x l b,x ∉ hs->m x=some l->b ∈ l.blks->∀ z l',m2 z=some l'->b ∈ l'.blks->False:=fun x l b hin hx hb z l' hz hb'=>by
    rcases hO z l' b hz hb' with q | q
    ·have:=hS.ltG hx hb;omega
    ·exact hnotOwn x l b hin hx hb q
   rcases hsplit x _ hx with ⟨h1,h2,h3⟩ | ⟨i,h1,h2⟩ | ⟨j,hj,rfl,h1⟩ <;> rcases hsplit y _ hy with ⟨k1,k2,k3⟩ | ⟨i',k1,k2⟩ | ⟨j',hj',rfl,k1⟩
   ·exact hS.injG x y l l' b h3 k3 hb hb'
   ·exact (old_new x l b h1 h3 hb _ l' k2 hb').elim
   ·exact (old_new x l b h1 h3 hb _ l' k1 hb').elim
   ·exact (old_new y l' b k1 k3 hb' _ l h2 hb).elim
   ·have:=hS2.injG _ _ l l' b h2 k2 hb hb'
    cases this
    exact Option.some.inj (h1.symm.trans k1)
   ·have:=hS2.injG _ _ l l' b h2 k1 hb hb'
    cases this
   ·exact (old_new y l' b k1 k3 hb' _ l h1 hb).elim
   ·have:=hS2.injG _ _ l l' b h1 k2 hb hb'
    cases this
   ·have:=hS2.injG _ _ l l' b h1 k1 hb hb'
    cases this;rfl
  ·rcases hsplit x _ hx with ⟨h1,h2,h3⟩ | ⟨i,h1,h2⟩ | ⟨j,hj,rfl,h1⟩
   ·rw [hlkOut x h1 h2];exact hS1.dead x h3
   ·have q1:(bs'[i]?).join=none:=hS2.dead _ h2
    rw [hlkIn i x h1,q1];rfl
   ·have q1:nbs[j]?=none:=hS2.dead _ h1
    rw [List.getElem?_eq_none_iff] at q1
    omega
  ·rcases hsplit x _ hx with ⟨h1,h2,h3⟩ | ⟨i,h1,h2⟩ | ⟨j,hj,rfl,h1⟩
   ·obtain ⟨bl,q1,q2⟩:=hS1.blkx x b sz fp h3
    rw [hlkOut x h1 h2]
    have hno:∀ c ∈ b :: fp,¬ Own _ c:=fun c hc=>hnotOwn x _ c h1 h3 hc
    exact ⟨bl,q1,q2.mono hfr.le hle' (fun c hc o=>hfr.gh c (q2.lt c hc) (hno c hc) o) (fun c hc=>hfr.heap c (q2.lt c hc) (hno c hc)) hki⟩
   ·obtain ⟨bl,q1,q2⟩:=hS2.blkx _ b sz fp h2
    have q1:(bs'[i]?).join=some bl:=q1
    rw [hlkIn i x h1,q1]
    exact ⟨_,rfl,q2.ren hback⟩
   ·obtain ⟨bl,q1,q2⟩:=hS2.blkx _ b sz fp h1
    exact ⟨_,hlkN j bl q1,q2.ren hback⟩
  ·subst hd
   show AV.Rep G2 m' (upd (setBlks _ _ hs bs').env d _ d) v
   unfold upd
   rw [if_pos rfl]
   exact AV.ren_rep hback r v hr2
  ·rw [hfr.gh b hb (fun q=>ho (hOwnM b q)) o,hG1 b (fun h _ sz e=>ho (.at_ e)) o]
  ·by_cases hin:Hd.B i ∈ hs
   ·obtain ⟨k,hk⟩:=List.getElem?_of_mem hin
    rw [mh k _ hk]
    exact hdead k _ hk
   ·rw [mo _ hin (fun j _ e=>by cases e)];exact .inl rfl
  ·rw [hnx'] at hj
   by_cases hin:Hd.O j ∈ hs
   ·obtain ⟨k,hk⟩:=List.getElem?_of_mem hin
    rw [mh k _ hk]
    exact hdead k _ hk
   ·rw [mo _ hin (fun i hi e=>by cases e;omega)];exact .inl rfl
  ·rcases hsplit _ _ hj with ⟨h1,h2,h3⟩ | ⟨i,h1,h2⟩ | ⟨i,hi,he,h1⟩
   ·exact .inr ⟨_,l,h3,hl⟩
   ·rcases hO _ l b h2 hl with q | q
    ·exact .inl q
    ·exact .inr (hOwnM b q)
   ·rcases hO _ l b h1 hl with q | q
    ·exact .inl q
    ·exact .inr (hOwnM b q)

theorem callE_ok {c:Call} {f:Operand} {s:AState} {dst:Option Nat} {K:AState->Prop} (ho:o.op=.call c) (hc:c.callee=.value f) (h:acallE P s dst K (c.args.toList.map s.ev) (s.ev f)) :
  ∃ s',K s'/\EOk P o (f :: c.args.toList) dst s s':=by
 generalize hf:s.ev f=vf at h
 unfold acallE at h
 split at h
 case h_2=>exact h.elim
 rename_i fn caps
 obtain ⟨hs,r,bs',nbs,hnd,hok,hlive,hits,hlen,hcall,hK⟩:=h
 obtain ⟨e1,e2,e3,e4⟩:=callE_sim (s:=s) (dst:=dst) (vals:=c.args.toList.map s.ev ++ caps) (r:=r) (nbs:=nbs) hnd hok hits hlen
 refine ⟨_,hK,⟨e1,e2,e3,fun G m w ρ _ hS hev hn=>?_⟩⟩
 have hrf:=hev f (by simp)
 rw [hf] at hrf
 unfold AV.Rep at hrf
 obtain ⟨vs,hv,hcaps⟩:=hrf
 have hargs:AV.RepL G m (c.args.toList.map s.ev) (c.args.toList.map ρ):=AV.RepL_map (fun x hx=>hev x (by simp [hx]))
 have hrep:AV.RepL G m (c.args.toList.map s.ev ++ caps) (c.args.map ρ ++ vs).toList:=by
  rw [Array.toList_append,Array.toList_map];exact AV.RepL_append hargs hcaps
 refine does_call ho hc hv ?_
 obtain ⟨G1,m1,hS1,hO1,hr1,hpost⟩:=e4 G m w _ hS hrep hn
 exact (hcall w G1 m1 _ hS1 hO1 hr1).mono fun v w' hp=>hpost v w' hp
end

end Go.Eng


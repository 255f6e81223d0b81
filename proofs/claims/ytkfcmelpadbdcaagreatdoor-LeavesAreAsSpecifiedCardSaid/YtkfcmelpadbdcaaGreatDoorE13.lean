/- Texts of this claim. -/
import Derived.Test.YtkfcmelpadbdcaaGreatDoorE12b
set_option linter.all false
set_option linter.unusedSimpArgs false
set_option linter.unusedVariables false
namespace Go.Eng
open Go.RowKit

def upd {α:Type} (f:Nat->α) (i:Nat) (v:α):Nat->α:=fun j=>if j=i then v else f j

structure AState where
 env:Nat->AV
 bs:Nat->Option Blk
 own:Nat->Option Blk
 nx:Nat

def AState.lk (s:AState):Look
 | .B i=>s.bs i
 | .O i=>s.own i
def AState.ev (s:AState):Operand->AV:=evA s.env

def setDst (env:Nat->AV) (dst:Option Nat) (a:AV):Nat->AV :=
 match dst with
 | some d=>upd env d a
 | none=>env
def addBlks (own:Nat->Option Blk) (n:Nat):List Blk->Nat->Option Blk
 | []=>own
 | b :: bs=>addBlks (upd own n (some b)) (n + 1) bs
def frzB (bs:Nat->Option Blk) (fz:List Hd):Nat->Option Blk:=match fz with
 | []=>bs
 | fz=>fun i=>if Hd.B i ∈ fz then (bs i).map Blk.frz else bs i
def frzO (own:Nat->Option Blk) (fz:List Hd):Nat->Option Blk:=match fz with
 | []=>own
 | fz=>fun i=>if Hd.O i ∈ fz then (own i).map Blk.frz else own i

def AState.put (s:AState) (dst:Option Nat) (a:AV) (nbs:List Blk) (fz:List Hd):AState :=
 {env:=setDst s.env dst a,bs:=frzB s.bs fz,own:=addBlks (frzO s.own fz) s.nx nbs,nx:=s.nx + nbs.length }
def AState.setBlk (s:AState) (h:Hd) (b:Option Blk):AState :=
 match h with
 | .B i=>{ s with bs:=upd s.bs i b }
 | .O i=>{ s with own:=upd s.own i b }

def AV.un:AV:=.D (.C undef)

def astore (s:AState) (sz:Nat) (xv:AV) (K:AState->Prop):AV->Prop
 | .ptr h off=>∃ cs ys,s.lk h=some (.box cs)/\xv.cells?=some ys/\ys.length=sz/\off + sz <= cs.length/\K (s.setBlk h (some (.box (cs.take off ++ ys ++ cs.drop (off + sz)))))
 | .eptr h k ix off=>((k ≠ 1\/sz=1)/\∃ es e ys ds,s.lk h=some (.row true k es)/\es[ix]?=some e/\xv.cells?=some ys/\AV.data ys=some ds/\ds.length=sz/\off + sz <= e.length /\
   K (s.setBlk h (some (.row true k (es.set ix (e.take off ++ ds ++ e.drop (off + sz))))))) \/
  k=1/\off=0/\sz ≠ 1/\∃ es ys ds,s.lk h=some (.row true 1 es)/\xv.cells?=some ys/\AV.data ys=some ds/\ds.length=sz/\ix + sz <= es.length /\
   K (s.setBlk h (some (.row true 1 (es.take ix ++ (ds.map fun d=>[d]) ++ es.drop (ix + sz)))))
 | _=>False

def DV.one:DV->Bool
 | .C v=>v.oneCell'
 | _=>true
def oneL (es:List (List DV)):Bool:=es.all fun e=>e.all DV.one

def aappend (s:AState) (k bytes:Nat) (y:Operand) (dst:Option Nat) (K:AState->Prop):AV->Prop
 | .sl h k' off len=>k'=k/\off=0/\∃ mt es ys,s.lk h=some (.row mt k es)/\len=es.length/\AV.content s.lk (s.ev y)=some ys/\Uni k es/\Uni k ys/\oneL ys=true/\(len + ys.length) * bytes <= 140737488355328 /\
   K ((s.setBlk h none).put dst (.sl (.O s.nx) k 0 (len + ys.length)) [.row mt k (es ++ ys)] [])
 | .fl []=>dst.isSome=true/\∃ ys,AV.content s.lk (s.ev y)=some ys/\Uni k ys/\ys.length * bytes <= 140737488355328/\K (s.put dst (.sl (.O s.nx) k 0 ys.length) [.row true k ys] (fzL s.lk (AV.rows (s.ev y))))
 | .fl (e :: es)=>∃ ys,AV.content s.lk (s.ev y)=some ys/\Uni k (e :: es)/\Uni k ys/\((e :: es).length + ys.length) * bytes <= 140737488355328 /\
   (if ys=[] then K (s.put dst (.fl (e :: es)) [] []) else K (s.put dst (.sl (.O s.nx) k 0 ((e :: es).length + ys.length)) [.row true k (e :: es ++ ys)] (fzL s.lk (AV.rows (s.ev y)))))
 | _=>False

def aclear (s:AState) (k:Nat) (zs:List DV) (dst:Option Nat) (K:AState->Prop):AV->Prop
 | .sl h k' off len=>k'=k/\∃ es,s.lk h=some (.row true k es)/\off + len <= es.length/\K ((s.setBlk h (some (.row true k (es.take off ++ List.replicate len zs ++ es.drop (off + len))))).put dst .any [] [])
 | _=>False
def acopy (s:AState) (k:Nat) (y:Operand) (dst:Option Nat) (K:AState->Prop):AV->Prop
 | .sl h k' off len=>k'=k/\∃ es ys,s.lk h=some (.row true k es)/\off + len <= es.length/\AV.content s.lk (s.ev y)=some ys/\Uni k ys/\oneL (ys.take (min ys.length len))=true /\
   K ((s.setBlk h (some (.row true k (es.take off ++ ys.take (min ys.length len) ++ es.drop (off + min ys.length len))))).put dst (.D (.I .i64 (min ys.length len:Nat))) [] [])
 | .slk h k' off len _=>k'=k/\∃ es ys,s.lk h=some (.row true k es)/\off + len <= es.length/\AV.content s.lk (s.ev y)=some ys/\Uni k ys/\oneL (ys.take (min ys.length len))=true /\
   K ((s.setBlk h (some (.row true k (es.take off ++ ys.take (min ys.length len) ++ es.drop (off + min ys.length len))))).put dst (.D (.I .i64 (min ys.length len:Nat))) [] [])
 | _=>False

def idxH (h:Hd):List Hd->Nat->Option Nat
 | [],_=>none
 | x :: xs,i=>if x=h then some i else idxH h xs (i + 1)
theorem idxH_spec {h:Hd}:∀ {l:List Hd} {n i:Nat},idxH h l n=some i->n <= i/\l[i - n]?=some h
 | [],_,_,q=>by cases q
 | x :: xs,n,i,q=>by
  unfold idxH at q
  split at q
  ·rename_i e;cases q;simp [e]
  ·obtain ⟨h1,h2⟩:=idxH_spec q
   refine ⟨by omega,?_⟩
   rw [show i - n=(i - (n + 1)) + 1 by omega]
   simpa using h2
theorem idxH_none {h:Hd}:∀ {l:List Hd} {n:Nat},idxH h l n=none->h ∉ l
 | [],_,_=>by simp
 | x :: xs,n,q=>by
  unfold idxH at q
  split at q
  ·cases q
  ·rename_i e
   have:=idxH_none q
   simp only [List.mem_cons,not_or]
   exact ⟨fun q=>e q.symm,this⟩
def phiH (hs:List Hd) (h:Hd):Option Hd:=(idxH h hs 0).map .B

def handed (lk:Look) (hs:List Hd):List (Option Blk):=hs.map fun h=>(lk h).map (Blk.conv lk (phiH hs))

def Blk.rows:Blk->List Hd
 | .box cs=>AV.rowsL cs
 | _=>[]
def Blk.isIt:Blk->Bool
 | .it=>true
 | _=>false
def boxRows (lk:Look):List Hd->List Hd
 | []=>[]
 | h :: hs=>(match lk h with | some b=>Blk.rows b | none=>[]) ++ boxRows lk hs
theorem boxRows_mem {lk:Look} {x h:Hd} {b:Blk}:∀ {hs:List Hd},h ∈ hs->lk h=some b->x ∈ Blk.rows b->x ∈ boxRows lk hs
 | [],hm,_,_=>by cases hm
 | y :: ys,hm,hl,hx=>by
  unfold boxRows
  rcases List.mem_cons.1 hm with rfl | hm
  ·exact List.mem_append_left _ (by rw [hl];exact hx)
  ·exact List.mem_append_right _ (boxRows_mem hm hl hx)

def fzE (lk:Look) (hs:List Hd) (args:List AV):List Hd:=(fzL lk (AV.rowsL args ++ boxRows lk hs)).filter fun h=>decide (h ∉ hs)

def setBlks (s:AState) (ψ:Hd->Hd):List Hd->List (Option Blk)->AState
 | h :: hs,b :: bs=>setBlks (s.setBlk h (b.map (Blk.ren ψ))) ψ hs bs
 | _,_=>s

def afterE (s:AState) (hs:List Hd) (args:List AV) (dst:Option Nat) (r:AV) (bs':List (Option Blk)) (nbs:List Blk):AState :=
 (setBlks (s.put none .un [] (fzE s.lk hs args)) (backHd hs s.nx) hs bs').put dst (AV.ren (backHd hs s.nx) r) (nbs.map (Blk.ren (backHd hs s.nx))) []

def hsOk (nx:Nat):List Hd->Bool
 | []=>true
 | .O j :: r=>decide (j < nx) && hsOk nx r
 | .B _ :: r=>hsOk nx r
theorem hsOk_lt {nx j:Nat}:∀ {hs:List Hd},hsOk nx hs=true->.O j ∈ hs->j < nx
 | [],_,h=>by cases h
 | .O k :: r,q,h=>by
  simp only [hsOk,Bool.and_eq_true,decide_eq_true_eq] at q
  rcases List.mem_cons.1 h with e | h
  ·cases e;exact q.1
  ·exact hsOk_lt q.2 h
 | .B k :: r,q,h=>by
  rcases List.mem_cons.1 h with e | h
  ·cases e
  ·exact hsOk_lt (hs:=r) q h
theorem idxH_of {h:Hd}:∀ {l:List Hd} {n i:Nat},l.Nodup->l[i]?=some h->idxH h l n=some (n + i)
 | [],_,_,_,q=>by simp at q
 | x :: xs,n,0,_,q=>by
  simp only [List.getElem?_cons_zero,Option.some.injEq] at q
  unfold idxH;rw [if_pos q];rfl
 | x :: xs,n,i + 1,hn,q=>by
  simp only [List.getElem?_cons_succ] at q
  unfold idxH
  rw [if_neg (fun e:x=h=>(List.nodup_cons.1 hn).1 (by rw [e];exact List.mem_of_getElem? q)),idxH_of (List.nodup_cons.1 hn).2 q]
  congr 1;omega

def acallE (P:Program) (s:AState) (dst:Option Nat) (K:AState->Prop) (args:List AV):AV->Prop
 | .clo fn caps=>∃ hs r bs' nbs,hs.Nodup/\hsOk s.nx hs=true/\(∀ h ∈ hs,(s.lk h).isSome=true)/\(∀ h ∈ hs,(s.lk h).any Blk.isIt=false)/\bs'.length=hs.length /\
   ACall P fn (AV.convL s.lk (phiH hs) (args ++ caps)) (handed s.lk hs) r bs' nbs/\K (afterE s hs (args ++ caps) dst r bs' nbs)
 | _=>False

mutual
def AV.hfree:AV->Bool
 | .D _=>true
 | .fl _=>true
 | .agg cs=>AV.hfreeL cs
 | _=>false
def AV.hfreeL:List AV->Bool
 | []=>true
 | a :: as=>AV.hfree a && AV.hfreeL as
end
def amval (s:AState) (z:AV) (K:MV->AState->Prop):Prop :=
 (z.hfree=true/\K (.v z) s)\/∃ h k mt es,z=.sl h k 0 es.length/\s.lk h=some (.row mt k es)/\(K (.o k es) (s.setBlk h none)\/mt=true/\K (.ow k es) (s.setBlk h none))
def mset (es:List (AV × MV)) (r:Option (Nat × MV)) (key:AV) (mv:MV):List (AV × MV):=match r with
 | some (j,_)=>es.set j (key,mv)
 | none=>es ++ [(key,mv)]
def amput (s:AState) (kd:KD) (y z:Operand) (K:AState->Prop):AV->Prop
 | .mref h=>(s.ev y).isK kd=true/\amval s (s.ev z) fun mv s1=>∃ es it r,s.lk h=some (.mp kd es it)/\mfind (s.ev y) es=some r/\K (s1.setBlk h (some (.mp kd (mset es r (s.ev y) mv) none)))
 | _=>False
def remKeys (key:AV):List AV->Option (List AV)
 | []=>some []
 | x :: r=>match key.keq x,remKeys key r with
  | some true,some l=>some l
  | some false,some l=>some (x :: l)
  | _,_=>none
def itDel (key:AV):Option (Hd × List AV × List AV)->Option (Option (Hd × List AV × List AV))
 | none=>some none
 | some (h,_,rem)=>match remKeys key rem with
  | some r=>some (some (h,[],r))
  | none=>none
def amdel (s:AState) (kd:KD) (y:Operand) (K:AState->Prop):AV->Prop
 | .mref h=>(s.ev y).isK kd=true/\∃ es it r it',s.lk h=some (.mp kd es it)/\mfind (s.ev y) es=some r/\itDel (s.ev y) it=some it'/\K (s.setBlk h (some (.mp kd (match r with | some (j,_)=>es.eraseIdx j | none=>es) it')))
 | _=>False
def arng (s:AState) (kd:KD) (dst:Option Nat) (K:AState->Prop):AV->Prop
 | .mref h=>∃ es it,s.lk h=some (.mp kd es it)/\K ((s.setBlk h (some (.mp kd es (some (.O s.nx,[],es.map (·.1)))))).put dst (.itr h (.O s.nx)) [.it] [])
 | _=>False
def amtake (s:AState) (kd:KD) (z:AV) (k:Nat) (ok:Bool) (y:Operand) (dst:Option Nat) (K:AState->Prop):AV->Prop
 | .mref h=>(s.ev y).isK kd=true/\ok=false/\∃ es it r,s.lk h=some (.mp kd es it)/\mfind (s.ev y) es=some r /\
  match r with
  | some (j,.o k' rs)=>k'=k/\∃ k2,es[j]?=some (k2,.o k rs)/\K ((s.setBlk h (some (.mp kd (es.set j (k2,.v (.D (.L rs)))) it))).put dst (.sl (.O s.nx) k 0 rs.length) [.row false k rs] [])
  | some (j,.ow k' rs)=>k'=k/\∃ k2,es[j]?=some (k2,.ow k rs)/\K ((s.setBlk h (some (.mp kd (es.set j (k2,.v .any)) it))).put dst (.sl (.O s.nx) k 0 rs.length) [.row true k rs] [])
  | some _=>False
  | none=>z=.D (.L [])/\∃ mt,K ((s.setBlk h (some (.mp kd es it))).put dst (.sl (.O s.nx) k 0 0) [.row mt k []] [])
 | _=>False
def aentT (s:AState) (dst:Option Nat) (K:AState->Prop):AV->Prop
 | .itr h hi=>(s.lk hi).isSome=true/\∃ kd es cur rem j k2 k rs,s.lk h=some (.mp kd es (some (hi,[cur],rem)))/\cur.isK kd=true/\mfind cur es=some (some (j,.ow k rs))/\es[j]?=some (k2,.ow k rs) /\
  K ((s.setBlk h (some (.mp kd (es.set j (k2,.v .any)) (some (hi,[],rem))))).put dst (.tup [cur,.sl (.O s.nx) k 0 rs.length]) [.row true k rs] [])
 | _=>False

def sstep (P:Program) (s:AState) (ro:RO) (K:AState->Prop):Prop :=
 match ro.op with
 | .store sz a x=>astore s sz (s.ev x) K (s.ev a)\/astore (s.put none .un [] (fzL s.lk (AV.rows (s.ev x)))) sz (AV.conv s.lk (fun _=>none) (s.ev x)) K (s.ev a)
 | .appE k bytes x y=>aappend s k bytes y ro.dst K (s.ev x)
 | .callE f args=>acallE P s ro.dst K (args.map s.ev) (s.ev f)
 | .clr k zs x=>aclear s k zs ro.dst K (s.ev x)
 | .cpy k x y=>acopy s k y ro.dst K (s.ev x)
 | .mtake kd z k ok x y=>False
 | .mput kd x y z=>False
 | .mdel kd x y=>False
 | .rng kd x=>False
 | .entT x=>False
 | op=>pstep P s.lk s.nx s.ev op fun a nbs fz=>K (s.put ro.dst a nbs fz)

def aops (P:Program):List RO->AState->(AState->Prop)->Prop
 | [],s,K=>K s
 | ro :: r,s,K =>
  match ro.guard with
  | none=>sstep P s ro fun s'=>aops P r s' K
  | some (t,want) =>
   match s.env t with
   | .D (.B c)=>(c=want->sstep P s ro fun s'=>aops P r s' K)/\(¬ c=want->aops P r (s.put ro.dst .un [] []) K)
   | .D (.C (.tuple _))=>aops P r (s.put ro.dst .un [] []) K
   | _=>False

def _root_.Go.Obj.isD:Obj->Bool
 | .cells _ _ _=>true
 | .map _ _=>true
 | .mapIter _ _ _ _=>true
 | _=>false
def KeepO (w w':World):Prop:=∀ (b:Nat) (o:Obj),w.heap[b]?=some o->o.isD=false->w'.heap[b]?=some o
theorem KeepO.refl (w:World):KeepO w w:=fun _ _ h _=>h
theorem Fr.keep {oh og:Nat->Prop} {G G':Gh} {w w':World} (h:Fr oh og G G' w w') (hc:∀ b,oh b->∃ o,w.heap[b]?=some o/\o.isD=true):KeepO w w':=fun b o hb hn=>by
 by_cases ho:oh b
 ·obtain ⟨o',e,e2⟩:=hc b ho
  rw [e] at hb;cases hb;rw [e2] at hn;cases hn
 ·rw [h.heap b (Array.getElem?_eq_some_iff.1 hb).1 ho];exact hb
theorem BlkRep.data {G:Gh} {m:HM} {bl:Blk} {b sz:Nat} {w:World} (hb:BlkRep G m bl b sz w):∃ o,w.heap[b]?=some o/\o.isD=true:=by
 cases bl with
 | box cs=>obtain ⟨vs,T,h1,_⟩:=hb;exact ⟨_,h1,rfl⟩
 | row mt k es=>cases mt <;> (obtain ⟨vs,T,h1,_⟩:=hb;exact ⟨_,h1,rfl⟩)
 | _=>exact hb.elim
theorem BlkX.data {G:Gh} {m:HM} {bl:Blk} {b sz:Nat} {fp:List Nat} {w:World} (hb:BlkX G m bl b sz fp w):∀ c ∈ b :: fp,∃ o,w.heap[c]?=some o/\o.isD=true:=by
 have key:(∃ o,w.heap[b]?=some o/\o.isD=true)/\∀ c ∈ fp,∃ o,w.heap[c]?=some o/\o.isD=true:=by
  cases bl with
  | nst k es=>obtain ⟨_,vs,T,h1,_,_,h4,_⟩:=hb;exact ⟨⟨_,h1,rfl⟩,fun c hc=>let ⟨_,_,h5⟩:=h4.lt c hc;⟨_,h5,rfl⟩⟩
  | sb T us es=>obtain ⟨_,_,v,h1,h4,_⟩:=hb;exact ⟨⟨_,h1,rfl⟩,fun c hc=>let ⟨_,_,h5⟩:=h4.lt c hc;⟨_,h5,rfl⟩⟩
  | mp kd es i=>obtain ⟨_,_,arr,clk,h1,_,_,h4,_⟩:=hb;exact ⟨⟨_,h1,rfl⟩,fun c hc=>let ⟨_,_,h5⟩:=h4.lt c hc;⟨_,h5,rfl⟩⟩
  | it=>obtain ⟨_,rfl,_,_,_,_,h1⟩:=hb;exact ⟨⟨_,h1,rfl⟩,fun c hc=>by cases hc⟩
  | _=>exact hb.elim
 intro c hc
 rcases List.mem_cons.1 hc with rfl | hc
 ·exact key.1
 ·exact key.2 c hc
theorem Sim.data {G:Gh} {m:HM} {lk:Look} {w:World} (h:Sim G m lk w) {b:Nat} (ho:Own m b):∃ o,w.heap[b]?=some o/\o.isD=true:=by
 obtain ⟨x,l,hx,hl⟩:=ho
 cases l with
 | dead=>cases hl
 | none=>cases hl
 | at_ b' sz =>
  obtain ⟨bl,_,hb⟩:=h.blk x b' sz hx
  rw [List.mem_singleton.1 hl];exact hb.data
 | atx b' sz fp =>
  obtain ⟨bl,_,hb⟩:=h.blkx x b' sz fp hx
  exact hb.data b hl

def AV.isSl:AV->Bool
 | .fl _=>true
 | .sl _ _ _ _=>true
 | .slk _ _ _ _ _=>true
 | _=>false

structure Ent where
 w0:World
 G0:Gh
 m0:HM
 N:Nat
 cv:Nat->Value:=fun _=>undef
 J:AV->World->Prop:=fun _ _=>True
 Jkeep:∀ x w w',J x w->KeepO w w'->J x w':=by exact fun _ _ _ _ _=>trivial
 Jany:∀ x w,J x w->J .any w:=by exact fun _ _ _=>trivial
 Jsl:∀ x w y,AV.isSl x=true->J x w->J y w:=by exact fun _ _ _ _ _=>trivial
 Jren:∀ x w ψ,J x w->J (AV.ren ψ x) w:=by exact fun _ _ _ _=>trivial
 Jconv:∀ x w lk φ,J x w->J (AV.conv lk φ x) w:=by exact fun _ _ _ _ _=>trivial
 sk:Nat:=0
 nd:Bool:=false
 dt:List Deferred:=[]
 Jput:∀ x w r o,J x w->w0.heap.size + sk <= r->J x (w.putObj r o):=by exact fun _ _ _ _ _ _=>trivial
 Jsz:∀ x w,J x w->w0.heap.size <= w.heap.size->w0.heap.size + sk <= w.heap.size:=by exact fun _ _ _ h=>h

def Ent.val (E:Ent) (a:Act) (t:Nat):Value:=if t < E.N then a.tmps.getD t undef else E.cv (t - E.N)
theorem Ent.val_lt {E:Ent} {a:Act} {t:Nat} (h:t < E.N):E.val a t=a.tmps.getD t undef:=if_pos h
theorem Ent.val_ge {E:Ent} {a:Act} {t:Nat} (h:E.N <= t):E.val a t=E.cv (t - E.N):=if_neg (by omega)

def Marks (B:Nat) (nd:Bool) (ds:List Deferred) (w:World):Prop:=(∀ d ∈ ds,∃ r,d={ target:=.collected r,args:=#[] }/\B <= r/\w.heap[r]?=some (.deferred (some [])))/\ds.Nodup/\(nd=true->ds=[])
theorem Marks.nil {B:Nat} {nd:Bool} {w:World}:Marks B nd [] w:=⟨fun _ h=>(by cases h),List.nodup_nil,fun _=>rfl⟩
theorem Marks.keep {B:Nat} {nd:Bool} {ds:List Deferred} {w w':World} (h:Marks B nd ds w) (hk:KeepO w w'):Marks B nd ds w' :=
 ⟨fun d hd=>let ⟨r,h1,h2,h3⟩:=h.1 d hd;⟨r,h1,h2,hk r _ h3 rfl⟩,h.2⟩

def Marks1 (dt:List Deferred) (B:Nat) (nd:Bool) (ds:List Deferred) (w:World):Prop:=∃ ms,ds=ms ++ dt/\Marks B nd ms w
theorem marks1_nil {B:Nat} {nd:Bool} {ds:List Deferred} {w:World}:Marks1 [] B nd ds w ↔ Marks B nd ds w :=
 ⟨fun ⟨ms,h,h'⟩=>by rw [List.append_nil] at h;rw [h];exact h',fun h=>⟨ds,by simp,h⟩⟩
theorem Marks1.keep {dt:List Deferred} {B:Nat} {nd:Bool} {ds:List Deferred} {w w':World} (h:Marks1 dt B nd ds w) (hk:KeepO w w'):Marks1 dt B nd ds w' :=
 let ⟨ms,h1,h2⟩:=h;⟨ms,h1,h2.keep hk⟩

structure AtS (E:Ent) (G:Gh) (m:HM) (s:AState) (a:Act) (w:World):Prop where
 sim:Sim G m s.lk w
 env:∀ t,AV.Rep G m (s.env t) (E.val a t)
 size:a.tmps.size=E.N
 defers:Marks1 E.dt (E.w0.heap.size + E.sk) E.nd a.defers w
 jok:E.J (s.env E.N) w
 fresh:∀ i,s.nx <= i->m (.O i)=none
 frame:Fr (Own E.m0) (Own E.m0) E.G0 G E.w0 w
 base:∀ i,SameB (E.m0 (.B i)) (m (.B i))
 own:∀ h l b,m h=some l->b ∈ l.blks->E.w0.heap.size <= b\/Own E.m0 b
 noO:True
 nxOk:∀ i,s.nx <= i->s.own i=none

def ASim (E:Ent) (s:AState) (a:Act) (w:World):Prop:=∃ G m,AtS E G m s a w

theorem Fr.step {oh og oh' og':Nat->Prop} {G0 G G':Gh} {w0 w w':World} (h:Fr oh og G0 G w0 w) (h':Fr oh' og' G G' w w') (h1:∀ b,b < w0.heap.size->oh' b->oh b) (h2:∀ b,b < w0.heap.size->og' b->og b) :
    Fr oh og G0 G' w0 w' :=
  ⟨h'.os.trans h.os,h.tape.trans h'.tape,h'.output.trans h.output,Nat.le_trans h.size h'.size,
   fun b hb ho=>(h'.heap b (Nat.lt_of_lt_of_le hb h.size) (fun q=>ho (h1 b hb q))).trans (h.heap b hb ho),
   fun b hb ho o=>(h'.gh b (Nat.lt_of_lt_of_le hb h.size) (fun q=>ho (h2 b hb q)) o).trans (h.gh b hb ho o),h.le.trans h'.le⟩

theorem AtS.ownOld {E:Ent} {G:Gh} {m:HM} {s:AState} {a:Act} {w:World} (h:AtS E G m s a w) {b:Nat} (hb:b < E.w0.heap.size) (ho:Own m b):Own E.m0 b:=by
 obtain ⟨x,l,hx,hl⟩:=ho
 rcases h.own x l b hx hl with h1 | h1
 ·omega
 ·exact h1

theorem addBlks_get:∀ (bs:List Blk) (own:Nat->Option Blk) (n i:Nat),addBlks own n bs i=if n <= i/\i < n + bs.length then bs[i - n]? else own i
 | [],own,n,i=>by simp only [addBlks,List.length_nil,Nat.add_zero];rw [if_neg (by omega)]
 | b :: bs,own,n,i=>by
  unfold addBlks
  rw [addBlks_get bs _ (n + 1) i]
  by_cases h1:n + 1 <= i/\i < n + 1 + bs.length
  ·rw [if_pos h1,if_pos (by simp;omega),show i - n=(i - (n + 1)) + 1 by omega];rfl
  ·rw [if_neg h1]
   unfold upd
   by_cases h2:i=n
   ·subst h2;simp
   ·rw [if_neg h2,if_neg (by simp;omega)]

theorem lk_put (s:AState) (dst:Option Nat) (a:AV) (nbs:List Blk) (fz:List Hd):(s.put dst a nbs fz).lk=lkN (lkF s.lk fz) s.nx nbs:=by
 funext h
 cases h with
 | B i =>
  show frzB s.bs fz i=_
  unfold frzB lkN lkF
  cases fz with
  | nil=>simp;rfl
  | cons x fz=>rfl
 | O i =>
  show addBlks (frzO s.own fz) s.nx nbs i=_
  rw [addBlks_get]
  unfold lkN lkF
  simp only
  split
  ·rfl
  ·unfold frzO
   cases fz with
   | nil=>simp;rfl
   | cons x fz=>rfl

theorem tmps_put {a:Act} {dst:Option Nat} {v:Value} (t:Nat) (hd:∀ d,dst=some d->d < a.tmps.size):(a.put dst v).tmps.getD t undef=if dst=some t then v else a.tmps.getD t undef:=by
 cases dst with
 | none=>simp [Act.put]
 | some d =>
  have:=hd d rfl
  by_cases e:d=t
  ·subst e;simp [Act.put,this]
  ·simp [Act.put,Array.getElem?_setIfInBounds_ne e,e]

theorem val_put {E:Ent} {a:Act} {dst:Option Nat} {v:Value} (t:Nat) (hs:a.tmps.size=E.N) (hd:∀ d,dst=some d->d < E.N):E.val (a.put dst v) t=if dst=some t then v else E.val a t:=by
 by_cases ht:t < E.N
 ·rw [Ent.val_lt ht,Ent.val_lt ht,tmps_put t (by rw [hs];exact hd)]
 ·rw [Ent.val_ge (by omega),Ent.val_ge (by omega),if_neg (fun e=>ht (hd t e))]
theorem env_put_N {s:AState} {N:Nat} {dst:Option Nat} {x:AV} {nbs:List Blk} {fz:List Hd} (hd:∀ d,dst=some d->d < N):(s.put dst x nbs fz).env N=s.env N:=by
 show setDst s.env dst x N=_
 cases dst with
 | none=>rfl
 | some d=>show upd s.env d x N=_;unfold upd;rw [if_neg (by have:=hd d rfl;omega)]

theorem put_size {a:Act} {dst:Option Nat} {v:Value}:(a.put dst v).tmps.size=a.tmps.size:=by cases dst <;> simp [Act.put]
theorem put_defers {a:Act} {dst:Option Nat} {v:Value}:(a.put dst v).defers=a.defers:=by cases dst <;> rfl

theorem put_own {s:AState} (h:∀ i,s.nx <= i->s.own i=none) {dst:Option Nat} {a:AV} {nbs:List Blk} {fz:List Hd} (i:Nat) (hi:(s.put dst a nbs fz).nx <= i):(s.put dst a nbs fz).own i=none:=by
 have hi':s.nx + nbs.length <= i:=hi
 show addBlks (frzO s.own fz) s.nx nbs i=none
 rw [addBlks_get,if_neg (by omega)]
 unfold frzO
 cases fz with
 | nil=>exact h i (by omega)
 | cons x fz=>simp only;split <;> simp [h i (by omega)]

def _root_.Go.Operand.inN (N:Nat):Operand->Bool
 | .tmp t=>decide (t < N)
 | _=>true

theorem AtS.step {E:Ent} {G:Gh} {m:HM} {s:AState} {a:Act} {w:World} (h:AtS E G m s a w) {x:AV} {nbs:List Blk} {fz:List Hd} {v:Value} {w':World} {dst:Option Nat} (hd:∀ d,dst=some d->d < E.N)
  (hp:PPost G m s.lk s.nx x nbs fz w v w'):ASim E (s.put dst x nbs fz) (a.put dst v) w':=by
 obtain ⟨G',m',hS,hr,hF,hold,hnew⟩:=hp
 have hm:HM.le m m':=fun hh loc hx=>.inl (.inl (by
  rw [hold hh (fun j hj e=>by subst e;rw [h.fresh _ (by omega)] at hx;cases hx)];exact hx))
 have hk:KeepO w w':=hF.keep (fun b q=>q.elim)
 refine ⟨G',m',?_,?_,by rw [put_size];exact h.size,by rw [put_defers];exact h.defers.keep hk,by rw [env_put_N hd];exact E.Jkeep _ _ _ h.jok hk,?_,?_,?_,?_,h.noO,fun i hi=>put_own h.nxOk i hi⟩
 ·rw [lk_put];exact hS
 ·intro t
  rw [val_put t h.size hd]
  show AV.Rep G' m' (setDst s.env dst x t) _
  cases dst with
  | none=>simp only [setDst];simpa using AV.Rep.mono hF.le hm _ _ (h.env t)
  | some d =>
   simp only [setDst,upd]
   by_cases e:t=d
   ·subst e;simpa using hr
   ·rw [if_neg e,if_neg (fun h=>e (Option.some.inj h).symm)]
    exact AV.Rep.mono hF.le hm _ _ (h.env t)
 ·intro i hi
  have hi':s.nx + nbs.length <= i:=hi
  rw [hold (.O i) (fun j hj e=>by cases e;omega)]
  exact h.fresh i (by omega)
 ·exact h.frame.step hF (fun b _ q=>q.elim) (fun b hb q=>h.ownOld hb q)
 ·intro i
  rw [hold (.B i) (fun j hj e=>by cases e)]
  exact h.base i
 ·intro x l b hi hl
  by_cases hc:∃ j,j < nbs.length/\x=.O (s.nx + j)
  ·obtain ⟨j,hj,rfl⟩:=hc
   exact .inl (Nat.le_trans h.frame.size (hnew j l b hj hi hl))
  ·rw [hold x (fun j hj e=>hc ⟨j,hj,e⟩)] at hi
   exact h.own x l b hi hl

theorem AtS.skip {E:Ent} {G:Gh} {m:HM} {s:AState} {a:Act} {w:World} (h:AtS E G m s a w) {dst:Option Nat} (hd:∀ d,dst=some d->d < E.N):ASim E (s.put dst .un [] []) (a.put dst undef) w :=
 h.step hd (PPost.val h.sim (by unfold AV.un AV.Rep DV.Rep;rfl))

theorem AtS.evs {E:Ent} {G:Gh} {m:HM} {s:AState} {a:Act} {w:World} (h:AtS E G m s a w) (x:Operand) (hx:x.inN E.N=true):AV.Rep G m (s.ev x) (a.eval x):=by
 cases x with
 | tmp t =>
  have:=h.env t
  rw [Ent.val_lt (by simpa [Operand.inN] using hx)] at this
  exact this
 | const v=>exact constAV_rep G m v
 | global g =>
  show AV.Rep G m (match glOf g with | some ds=>.rop ds | none=>.any) (.pointer (some ⟨g,0,none⟩))
  cases hg:glOf g with
  | none=>unfold AV.Rep;trivial
  | some ds=>unfold AV.Rep;exact ⟨g,0,rfl,h.sim.gl g ds hg⟩
 | func f =>
  show AV.Rep G m (.clo f []) _
  unfold AV.Rep
  exact ⟨#[],rfl,by simp [AV.RepL]⟩

end Go.Eng


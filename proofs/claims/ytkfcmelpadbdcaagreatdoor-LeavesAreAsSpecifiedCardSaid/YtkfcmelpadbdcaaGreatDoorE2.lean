/- Texts of this claim. -/
import Derived.Test.YtkfcmelpadbdcaaGreatDoorGl
set_option linter.all false
set_option linter.unusedSimpArgs false
set_option linter.unusedVariables false
namespace Go.Eng
open Go.RowKit

def constAV:Value->AV
 | .bool x=>.D (.B x)
 | .int k n=>.D (.I k n)
 | .string s=>.D (.S s.data.toList)
 | .slice none 0 0=>.fl []
 | .agg cs=>.agg (cs.toList.map fun v=>match v with
  | .bool x=>.D (.B x)
  | .int k n=>.D (.I k n)
  | .string s=>.D (.S s.data.toList)
  | .slice none 0 0=>.fl []
  | v=>.D (.C v))
 | v=>.D (.C v)

def evA (env:Nat->AV):Operand->AV
 | .tmp t=>env t
 | .const v=>constAV v
 | .func f=>.clo f []
 | .global g=>match glOf g with
  | some ds=>.rop ds
  | none=>.any

theorem RepL_map_of {G:Gh} {m:HM} {g:Value->AV} (hg:∀ v,AV.Rep G m (g v) v):∀ (vs:List Value),AV.RepL G m (vs.map g) vs
 | []=>by simp [AV.RepL]
 | v :: vs=>by
  simp only [List.map_cons]
  unfold AV.RepL
  exact ⟨v,vs,rfl,hg v,RepL_map_of hg vs⟩

theorem constAV_rep (G:Gh) (m:HM) (v:Value):AV.Rep G m (constAV v) v:=by
 unfold constAV
 split
 ·simp [AV.Rep,DV.Rep]
 ·simp [AV.Rep,DV.Rep]
 ·simp [AV.Rep,DV.Rep]
 ·simp only [AV.Rep,DV.Rep]
  exact ⟨⟨none,0,rfl,Nat.le_refl _,fun _=>rfl,fun h=>absurd rfl h⟩,none,rfl⟩
 ·simp only [AV.Rep]
  refine ⟨_,rfl,RepL_map_of (fun v=>?_) _⟩
  split
  ·simp [AV.Rep,DV.Rep]
  ·simp [AV.Rep,DV.Rep]
  ·simp [AV.Rep,DV.Rep]
  ·simp only [AV.Rep,DV.Rep]
   exact ⟨⟨none,0,rfl,Nat.le_refl _,fun _=>rfl,fun h=>absurd rfl h⟩,none,rfl⟩
  ·simp [AV.Rep,DV.Rep]
 ·simp [AV.Rep,DV.Rep]

def dz1:AV->AV
 | .fl []=>.D (.L [])
 | a=>a
def constMV (v:Value):AV:=match constAV v with
 | .agg cs=>.agg (cs.map dz1)
 | a=>dz1 a
def zeroDV:Value->DV
 | .bool x=>.B x
 | .int k n=>.I k n
 | .string s=>.S s.data.toList
 | .slice none 0 0=>.L []
 | v=>.C v
mutual
def AV.ren (ψ:Hd->Hd):AV->AV
 | .ptr h off=>.ptr (ψ h) off
 | .eptr h k ix off=>.eptr (ψ h) k ix off
 | .sl h k off len=>.sl (ψ h) k off len
 | .slk h k off len cap=>.slk (ψ h) k off len cap
 | .mref h=>.mref (ψ h)
 | .itr hm h=>.itr (ψ hm) (ψ h)
 | .nsl h k off len=>.nsl (ψ h) k off len
 | .nptr h k ix off=>.nptr (ψ h) k ix off
 | .agg cs=>.agg (AV.renL ψ cs)
 | .tup cs=>.tup (AV.renL ψ cs)
 | .clo f cs=>.clo f (AV.renL ψ cs)
 | .D x=>.D x
 | .any=>.any
 | .yld l=>.yld l
 | .gst c=>.gst c
 | .sc=>.sc
 | .ab=>.ab
 | .rop ds=>.rop ds
 | .fl es=>.fl es
def AV.renL (ψ:Hd->Hd):List AV->List AV
 | []=>[]
 | a :: as=>AV.ren ψ a :: AV.renL ψ as
end

def Blk.ren (ψ:Hd->Hd):Blk->Blk
 | .box cs=>.box (AV.renL ψ cs)
 | .row mt k es=>.row mt k es
 | .nst k es=>.nst k es
 | .sb T us es=>.sb T us es
 | .mp kd es i=>.mp kd es (i.map fun p=>(ψ p.1,p.2))
 | .it=>.it

mutual
def AV.conv (lk:Look) (φ:Hd->Option Hd):AV->AV
 | .ptr h off=>match φ h with
  | some h'=>.ptr h' off
  | none=>.sc
 | .eptr h k ix off=>match φ h with
  | some h'=>.eptr h' k ix off
  | none=>.sc
 | .sl h k off len=>match φ h with
  | some h'=>.sl h' k off len
  | none=>match lk h with
   | some (.row _ k' es)=>if k'=k/\off + len <= es.length then .D (.L ((es.drop off).take len)) else .sc
   | _=>.sc
 | .slk h k off len cap=>match φ h with
  | some h'=>.slk h' k off len cap
  | none=>match lk h with
   | some (.row _ k' es)=>if k'=k/\off + len <= es.length then .D (.L ((es.drop off).take len)) else .sc
   | _=>.sc
 | .mref h=>match φ h with
  | some h'=>.mref h'
  | none=>.sc
 | .itr hm h=>match φ hm,φ h with
  | some hm',some h'=>.itr hm' h'
  | _,_=>.sc
 | .nsl h k off len=>match φ h with
  | some h'=>.nsl h' k off len
  | none=>.sc
 | .nptr h k ix off=>match φ h with
  | some h'=>.nptr h' k ix off
  | none=>.sc
 | .agg cs=>.agg (AV.convL lk φ cs)
 | .tup cs=>.tup (AV.convL lk φ cs)
 | .clo f cs=>.clo f (AV.convL lk φ cs)
 | .D x=>.D x
 | .any=>.any
 | .yld l=>.yld l
 | .gst c=>.gst c
 | .sc=>.sc
 | .ab=>.ab
 | .rop ds=>.rop ds
 | .fl es=>.D (.L es)
def AV.convL (lk:Look) (φ:Hd->Option Hd):List AV->List AV
 | []=>[]
 | a :: as=>AV.conv lk φ a :: AV.convL lk φ as
end

def AV.kp:AV->AV->AV
 | .fl es,_=>.fl es
 | _,c=>c
def AV.convK (lk:Look):List Bool->List AV->List AV
 | true :: ks,a :: as=>AV.kp a (AV.conv lk (fun _=>none) a) :: AV.convK lk ks as
 | false :: ks,a :: as=>AV.conv lk (fun _=>none) a :: AV.convK lk ks as
 | [],as=>AV.convL lk (fun _=>none) as
 | _ :: _,[]=>[]
def Blk.conv (lk:Look) (φ:Hd->Option Hd):Blk->Blk
 | .box cs=>.box (AV.convL lk φ cs)
 | .row mt k es=>.row mt k es
 | .nst k es=>.nst k es
 | .sb T us es=>.sb T us es
 | .mp kd es i=>.mp kd es (i.bind fun p=>(φ p.1).map fun h=>(h,p.2))
 | .it=>.it

mutual
def AV.rows:AV->List Hd
 | .sl h _ _ _=>[h]
 | .slk h _ _ _ _=>[h]
 | .agg cs=>AV.rowsL cs
 | .tup cs=>AV.rowsL cs
 | .clo _ cs=>AV.rowsL cs
 | _=>[]
def AV.rowsL:List AV->List Hd
 | []=>[]
 | a :: as=>AV.rows a ++ AV.rowsL as
end

def DV.flat:DV->Bool
 | .L _=>false
 | _=>true
mutual
def AV.flat:AV->Bool
 | .D x=>x.flat
 | .any=>true
 | .yld _=>true
 | .gst _=>true
 | .sc=>true
 | .ab=>true
 | .agg cs=>AV.flatL cs
 | .tup cs=>AV.flatL cs
 | _=>false
def AV.flatL:List AV->Bool
 | []=>true
 | a :: as=>AV.flat a && AV.flatL as
end

mutual
def AV.flatO:AV->Bool
 | .sl _ _ _ _=>true
 | .D x=>x.flat
 | .any=>true
 | .sc=>true
 | .ab=>true
 | .agg cs=>AV.flatOL cs
 | .tup cs=>AV.flatOL cs
 | _=>false
def AV.flatOL:List AV->Bool
 | []=>true
 | a :: as=>AV.flatO a && AV.flatOL as
end
def Blk.flatR:Blk->Bool
 | .row true _ es=>es.all fun e=>e.all DV.flat
 | _=>false
def fzC (z:Bool) (l:List Hd):List Hd:=match z with
 | true=>[]
 | false=>l
def Blk.frz:Blk->Blk
 | .row _ k es=>.row false k es
 | b=>b

def lkF (lk:Look) (hs:List Hd):Look:=fun h=>if h ∈ hs then (lk h).map Blk.frz else lk h
def lkN (lk:Look) (n:Nat) (nbs:List Blk):Look:=fun h =>
 match h with
 | .O i=>if n <= i/\i < n + nbs.length then nbs[i - n]? else lk h
 | .B _=>lk h
def lkOf (bs:List (Option Blk)) (nbs:List Blk):Look
 | .B i=>(bs[i]?).join
 | .O i=>nbs[i]?

def Own (m:HM) (b:Nat):Prop:=∃ h loc,m h=some loc/\b ∈ loc.blks
theorem Own.at_ {m:HM} {h:Hd} {b sz:Nat} (hm:m h=some (.at_ b sz)):Own m b:=⟨h,_,hm,List.mem_singleton.2 rfl⟩
theorem Own.no (b:Nat):¬ Own (fun _=>none) b:=fun ⟨_,_,h,_⟩=>by cases h
def BlkRep (G:Gh) (m:HM):Blk->Nat->Nat->World->Prop
 | .box cs,b,sz,w=>∃ (vs:Array Value) (T:TypeId),w.heap[b]?=some (.cells vs T (0,0))/\vs.size=sz/\AV.RepL G m cs vs.toList/\∀ o,G b o=none
 | .row true k es,b,sz,w=>∃ (vs:Array Value) (T:TypeId),w.heap[b]?=some (.cells vs T (0,0))/\vs.size=sz/\es.length * k <= sz/\DV.rows G (fun o=>vs[o]?) k 0 es/\∀ o,G b o=none
 | .row false k es,b,sz,w=>∃ (vs:Array Value) (T:TypeId),w.heap[b]?=some (.cells vs T (0,0))/\vs.size=sz/\es.length * k <= sz/\DV.rows G (G b) k 0 es/\∀ o,es.length * k <= o->G b o=none
 | .nst _ _,_,_,_=>False
 | .sb _ _ _,_,_,_=>False
 | .mp _ _ _,_,_,_=>False
 | .it,_,_,_=>False
def OwnRep (G:Gh) (mt:Bool) (k:Nat) (es:List (List DV)) (v:Value) (f:List Nat) (w:World):Prop :=
 (∃ a,v=.slice a 0 0/\es=[]/\f=[]) \/
 ∃ b sz cap,f=[b]/\v=.slice (some ⟨b,0,none⟩) es.length cap/\es.length <= cap/\cap * k <= sz/\BlkRep G (fun _=>none) (.row mt k es) b sz w
def SbRep (G:Gh) (Te:TypeId) (es:List (List DV)) (v:Value) (f:List Nat) (w:World):Prop :=
 (v=.slice none 0 0/\es=[]/\f=[]) \/
 ∃ g cap,f=[g]/\v=.slice (some ⟨g,0,none⟩) es.length cap/\es.length <= cap/\cap <= 9223372036854775807/\BlkRep G (fun _=>none) (.row true 1 es) g cap w/\∃ vs,w.heap[g]?=some (.cells vs Te (0,0))
def ND.Rep (G:Gh):ND->Value->List Nat->World->Prop
 | .d x,u,f,_=>f=[]/\DV.Rep G x u
 | .o mt k es,u,f,w=>OwnRep G mt k es u f w
 | .hole,u,f,_=>f=[]/\u.oneCell'=true
def NDcells (G:Gh) (g:Nat->Option Value):Nat->List ND->List Nat->World->Prop
 | _,[],fp,_=>fp=[]
 | o,d :: ds,fp,w=>∃ v f fp',g o=some v/\fp=f ++ fp'/\ND.Rep G d v f w/\NDcells G g (o + 1) ds fp' w
def NDrows (G:Gh) (g:Nat->Option Value) (k:Nat):Nat->List (List ND)->List Nat->World->Prop
 | _,[],fp,_=>fp=[]
 | o,e :: es,fp,w=>e.length=k/\∃ f fp',fp=f ++ fp'/\NDcells G g o e f w/\NDrows G g k (o + k) es fp' w
def MV.Rep (G:Gh):MV->Value->List Nat->World->Prop
 | .v a,u,f,_=>f=[]/\AV.Rep G (fun _=>none) a u
 | .o k es,u,f,w=>OwnRep G false k es u f w
 | .ow k es,u,f,w=>OwnRep G true k es u f w
def EntsRep (G:Gh):List (AV × MV)->List MapEntry->List Nat->World->Prop
 | [],xs,fp,_=>xs=[]/\fp=[]
 | e :: es,xs,fp,w=>∃ x xs' f fp',xs=x :: xs'/\fp=f ++ fp'/\AV.Rep G (fun _=>none) e.1 x.key/\MV.Rep G e.2 x.val f w/\EntsRep G es xs' fp' w
def KeysRep (G:Gh):List AV->List MapEntry->Prop
 | [],xs=>xs=[]
 | a :: as,xs=>∃ x xs',xs=x :: xs'/\AV.Rep G (fun _=>none) a x.key/\KeysRep G as xs'
def ItRep (G:Gh) (m:HM) (it:Option (Hd × List AV × List AV)) (b:Nat) (arr:Array MapEntry) (clk:Nat) (w:World):Prop :=
 ∀ hi q,it=some (hi,q)->∃ loc,m hi=some loc/\(loc ≠ .dead->∃ bi sz fp seen l,loc=.atx bi sz fp/\w.heap[bi]?=some (.mapIter (some b) clk seen clk) /\
  l.Perm (arr.toList.filter fun e=>!seen.contains e.born)/\KeysRep G q.2 l/\∀ key,q.1=[key]->∃ e ∈ arr.toList,seen.back?=some e.born/\AV.Rep G (fun _=>none) key e.key)
def BlkX (G:Gh) (m:HM):Blk->Nat->Nat->List Nat->World->Prop
 | .sb T us es,b,sz,fp,w=>(b :: fp).Nodup/\sz=2/\∃ v,w.heap[b]?=some (.cells #[.pointer (if us=true then some ⟨b,0,none⟩ else none),v] T.1 (0,0))/\SbRep G T.2 es v fp w/\∀ o,G b o=none
 | .nst k es,b,sz,fp,w=>(b :: fp).Nodup/\∃ (vs:Array Value) (T:TypeId),w.heap[b]?=some (.cells vs T (0,0))/\vs.size=sz/\es.length * k <= sz/\NDrows G (fun o=>vs[o]?) k 0 es fp w/\∀ o,G b o=none
 | .mp kd es it,b,sz,fp,w=>sz=0/\fp.Nodup/\∃ arr clk,w.heap[b]?=some (.map arr clk)/\MapKept.Stamped arr clk/\(∀ x ∈ arr.toList,KeyOk kd x.key)/\EntsRep G es arr.toList fp w/\ItRep G m it b arr clk w
 | .it,b,sz,fp,w=>sz=0/\fp=[]/\∃ a c d e,w.heap[b]?=some (.mapIter a c d e)
 | _,_,_,_,_=>False

def GlOk (G:Gh):Prop:=∀ g ds,glOf g=some ds->DV.cells G (G g) 0 ds
theorem GlOk.mono {G G':Gh} (h:Gh.le G G') (hG:GlOk G):GlOk G':=fun g ds e=>DV.cells.mono h (fun i v=>h g i v) 0 ds (hG g ds e)

structure Sim (G:Gh) (m:HM) (lk:Look) (w:World):Prop where
 blk:∀ h b sz,m h=some (.at_ b sz)->∃ bl,lk h=some bl/\BlkRep G m bl b sz w
 nil:∀ h,m h=some .none->∃ mt k,lk h=some (.row mt k [])
 injG:∀ h h' l l' b,m h=some l->m h'=some l'->b ∈ l.blks->b ∈ l'.blks->h=h'
 gh:∀ b o v,G b o=some v->w.cell? ⟨b,o,none⟩=some v
 dead:∀ h,m h=some .dead->lk h=none
 gl:GlOk G
 blkx:∀ h b sz fp,m h=some (.atx b sz fp)->∃ bl,lk h=some bl/\BlkX G m bl b sz fp w

theorem Sim.inj {G:Gh} {m:HM} {lk:Look} {w:World} (h:Sim G m lk w):∀ x y b sz sz',m x=some (.at_ b sz)->m y=some (.at_ b sz')->x=y:=fun x y b sz sz' h1 h2=>h.injG x y _ _ b h1 h2 (List.mem_singleton.2 rfl) (List.mem_singleton.2 rfl)

def TD (w w':World):Prop:=w'.tape=w.tape/\w.drawn <= w'.drawn
theorem TD.same {w w':World} (h:w'.tape=w.tape) (h':w'.drawn=w.drawn):TD w w':=⟨h,Nat.le_of_eq h'.symm⟩
theorem TD.trans {w w' w'':World} (h:TD w w') (h':TD w' w''):TD w w'':=⟨h'.1.trans h.1,Nat.le_trans h.2 h'.2⟩
theorem TD.drew {w w':World} (h:TD w w'):TD w w'.drew:=⟨h.1,Nat.le_succ_of_le h.2⟩
structure Fr (oh og:Nat->Prop) (G G':Gh) (w w':World):Prop where
 os:w'.os=w.os
 tape:TD w w'
 output:w'.output=w.output
 size:w.heap.size <= w'.heap.size
 heap:∀ b,b < w.heap.size->¬ oh b->w'.heap[b]?=w.heap[b]?
 gh:∀ b,b < w.heap.size->¬ og b->∀ o,G' b o=G b o
 le:Gh.le G G'

theorem Fr.refl (oh og:Nat->Prop) (G:Gh) (w:World):Fr oh og G G w w:=⟨rfl,.same rfl rfl,rfl,Nat.le_refl _,fun _ _ _=>rfl,fun _ _ _ _=>rfl,Gh.le.refl G⟩
theorem Fr.mono {oh og oh' og':Nat->Prop} {G G':Gh} {w w':World} (h:Fr oh og G G' w w') (h1:∀ b,b < w.heap.size->oh b->oh' b) (h2:∀ b,b < w.heap.size->og b->og' b):Fr oh' og' G G' w w' :=
 ⟨h.os,h.tape,h.output,h.size,fun b hb ho=>h.heap b hb (fun q=>ho (h1 b hb q)),fun b hb ho=>h.gh b hb (fun q=>ho (h2 b hb q)),h.le⟩

def SameB (a a':Option Loc):Prop:=a'=a\/(a ≠ none/\a'=some .dead)\/∃ b sz fp fp',a=some (.atx b sz fp)/\a'=some (.atx b sz fp')
theorem SameB.trans {a a' a'':Option Loc} (h:SameB a a') (h':SameB a' a''):SameB a a'':=by
 rcases h with rfl | ⟨h1,rfl⟩ | ⟨b,sz,fp,fp',rfl,rfl⟩
 ·exact h'
 ·rcases h' with rfl | ⟨_,rfl⟩ | ⟨b,sz,fp,fp',e,_⟩
  ·exact .inr (.inl ⟨h1,rfl⟩)
  ·exact .inr (.inl ⟨h1,rfl⟩)
  ·cases e
 ·rcases h' with rfl | ⟨_,rfl⟩ | ⟨b',sz',fp2,fp3,e,rfl⟩
  ·exact .inr (.inr ⟨b,sz,fp,fp',rfl,rfl⟩)
  ·exact .inr (.inl ⟨(fun e=>by cases e),rfl⟩)
  ·cases e;exact .inr (.inr ⟨b,sz,fp,fp3,rfl,rfl⟩)
theorem SameB.none {a a':Option Loc} (h:SameB a a') (e:a=none):a'=none:=by
 subst e
 rcases h with rfl | ⟨h1,_⟩ | ⟨_,_,_,_,h1,_⟩
 ·rfl
 ·exact absurd rfl h1
 ·cases h1
theorem SameB.le {m m':HM} {h:Hd} (q:SameB (m h) (m' h)) {loc:Loc} (hl:m h=some loc):(m' h=some loc\/∃ b sz fp fp',loc=.atx b sz fp/\m' h=some (.atx b sz fp'))\/m' h=some .dead:=by
 rcases q with e | ⟨_,e⟩ | ⟨b,sz,fp,fp',e1,e2⟩
 ·exact .inl (.inl (e.trans hl))
 ·exact .inr e
 ·rw [hl] at e1;cases e1;exact .inl (.inr ⟨b,sz,fp,fp',rfl,e2⟩)

def APost (w:World) (G:Gh) (m:HM) (lk':Look) (r:AV) (v:Value) (w':World):Prop :=
 ∃ G' m',Sim G' m' lk' w'/\AV.Rep G' m' r v/\Fr (Own m) (Own m) G G' w w' /\
  (∀ i,SameB (m (.B i)) (m' (.B i))) /\
  (∀ h l b,m' h=some l->b ∈ l.blks->w.heap.size <= b\/Own m b)/\(∀ i,lk' (.O i)=none->m' (.O i)=none)

def FnOk (P : Program) (f : FuncId) : Prop := ∃ fd, P.funcs[f]? = some fd /\ fd.body.isSome = true /\ (fd.name == "runtime.NumGoroutine") = false

def CallDoes (P:Program) (f:FuncId) (vs:Array Value) (w:World) (R:Value->World->Prop):Prop :=
 (FnOk P f/\Calls P f vs w fun e w'=>∃ v,e=.returned v/\R v w')\/∃ v w',(callFunc f vs).run P w=.ok (.value v) w'/\R v w'
theorem CallDoes.mono {P:Program} {f:FuncId} {vs:Array Value} {w:World} {R R':Value->World->Prop} (h:CallDoes P f vs w R) (hr:∀ v w',R v w'->R' v w'):CallDoes P f vs w R':=by
 rcases h with ⟨h1,h2⟩ | ⟨v,w',h1,h2⟩
 ·exact .inl ⟨h1,h2.mono fun e w' ⟨v,he,h⟩=>⟨v,he,hr _ _ h⟩⟩
 ·exact .inr ⟨v,w',h1,hr _ _ h2⟩

def ACall (P:Program) (f:FuncId) (args:List AV) (bs:List (Option Blk)) (r:AV) (bs':List (Option Blk)) (nbs:List Blk):Prop :=
 ∀ (w:World) (G:Gh) (m:HM) (vs:Array Value),Sim G m (lkOf bs []) w->(∀ i,m (.O i)=none)->AV.RepL G m args vs.toList ->
  CallDoes P f vs w fun v w'=>APost w G m (lkOf bs' nbs) r v w'

def PanDoes (P:Program) (f:FuncId) (pv:Value) (vs:Array Value) (w:World) (R:Value->World->Prop):Prop :=
 FnOk P f/\Calls P f vs w fun e w'=>e=.panicked [{ v:=pv,recovered:=false }]/\R undef w'
theorem PanDoes.mono {P:Program} {f:FuncId} {pv:Value} {vs:Array Value} {w:World} {R R':Value->World->Prop} (h:PanDoes P f pv vs w R) (hr:∀ v w',R v w'->R' v w'):PanDoes P f pv vs w R' :=
 ⟨h.1,h.2.mono fun _ _ ⟨he,h⟩=>⟨he,hr _ _ h⟩⟩
def APan (P:Program) (f:FuncId) (args:List AV) (pv:Value):Prop :=
 ∀ (w:World) (G:Gh) (m:HM) (vs:Array Value),Sim G m (lkOf [] []) w->(∀ i,m (.O i)=none)->AV.RepL G m args vs.toList ->
  PanDoes P f pv vs w fun v w'=>APost w G m (lkOf [] []) .any v w'

inductive Sh where
 | s (kd:Nat)
 | a (k:IntKind) (m:Nat)
 deriving DecidableEq,Inhabited
inductive ROp where
 | mv (x:Operand)
 | pick (c a b:Operand)
 | new (zs:List AV)
 | box (x:Operand)
 | build (zs:List AV) (ps:List (Nat × Nat × Operand))
 | stop
 | bslice (k:Nat) (ps:List Operand)
 | bsF (k:Nat) (ps:List Operand)
 | load (ag:Option Nat) (x:Operand)
 | store (sz:Nat) (a x:Operand)
 | bin (op:BinOp) (x y:Operand)
 | eqs (neg:Bool) (kds:List Nat) (x y:Operand)
 | beq (neg:Bool) (x y:Operand)
 | un (op:UnOp) (x:Operand)
 | faddr (off:Nat) (x:Operand)
 | field (off:Nat) (ag:Option Nat) (x:Operand)
 | iaddr (k:Nat) (x i:Operand)
 | sls (x:Operand) (lo hi:Option Operand)
 | sll (k:Nat) (x:Operand) (lo hi mx:Option Operand)
 | ixs (x i:Operand)
 | ext (x:Operand) (i:Nat)
 | call (f:Operand) (args:List Operand)
 | len (str:Bool) (x:Operand)
 | app (k bytes:Nat) (x y:Operand)
 | mm (isMax:Bool) (x y:Operand)
 | mkf (f:Nat) (caps:List Operand)
 | isnil (neg:Bool) (x:Operand)
 | cvI (k:IntKind) (x:Operand)
 | cvS (x:Operand)
 | appE (k bytes:Nat) (x y:Operand)
 | callE (f:Operand) (args:List Operand)
 | loadS (ag:Option Nat) (x:Operand)
 | faddrS (off:Nat) (x:Operand)
 | nilcS (x:Operand)
 | lenS (str:Bool) (x:Operand)
 | clr (k:Nat) (zs:List DV) (x:Operand)
 | cpy (k:Nat) (x y:Operand)
 | mks (k bytes:Nat) (zs:List DV) (x y:Operand)
 | capK (x:Operand)
 | appZ (k bytes:Nat) (zs:List DV) (x y:Operand)
 | iaddrA (n k:Nat) (x i:Operand)
 | idxA (n k:Nat) (ag:Option Nat) (x i:Operand)
 | slsA (n:Nat) (x:Operand) (lo hi:Option Operand)
 | arrP (n:Nat) (x:Operand)
 | nilc (x:Operand)
 | isp (neg:Bool) (x:Operand)
 | eqa (neg:Bool) (k:IntKind) (m:Nat) (x y:Operand)
 | eqg (neg:Bool) (sh:List Sh) (x y:Operand)
 | newR (zs:List AV)
 | boxR (x:Operand)
 | loadD (ag:Option Nat) (x:Operand)
 | iaddrD (k:Nat) (x i:Operand)
 | sllD (k:Nat) (x:Operand) (lo hi mx:Option Operand)
 | cvB (x:Operand)
 | mkI (t:Nat) (x:Operand)
 | pan (x:Operand)
 | isn (neg:Bool) (x:Operand)
 | tas (t:Nat) (x:Operand)
 | callP (f:Operand) (args:List Operand)
 | mkm (kd:KD)
 | newB (T:TypeId × TypeId)
 | mkmW (kd:KD)
 | mget (kd:KD) (z:AV) (k:Nat) (ok:Bool) (x y:Operand)
 | mtake (kd:KD) (z:AV) (k:Nat) (ok:Bool) (x y:Operand)
 | mput (kd:KD) (x y z:Operand)
 | mdel (kd:KD) (x y:Operand)
 | mlen (x:Operand)
 | rng (kd:KD) (x:Operand)
 | nxt (x:Operand)
 | ent (x:Operand)
 | entT (x:Operand)
 deriving Inhabited

def ROp.eff:ROp->Bool
 | .store _ _ _=>true
 | .appE _ _ _ _=>true
 | .callE _ _=>true
 | .clr _ _ _=>true
 | .cpy _ _ _=>true
 | .mtake _ _ _ _ _ _=>true
 | .mput _ _ _ _=>true
 | .mdel _ _ _=>true
 | .rng _ _=>true
 | .nxt _=>true
 | .entT _=>true
 | _=>false

inductive Mk where
 | n
 | e
 | d
def markE:Mk->ROp->ROp
 | .e,.app k b x y=>.appE k b x y
 | .e,.call f args=>.callE f args
 | .e,.load ag x=>.loadS ag x
 | .e,.faddr off x=>.faddrS off x
 | .e,.nilc x=>.nilcS x
 | .e,.len str x=>.lenS str x
 | .e,.bslice k ps=>.bsF k ps
 | .e,.mget kd z k ok x y=>.mtake kd z k ok x y
 | .e,.mkm kd=>.mkmW kd
 | .e,.ent x=>.entT x
 | .d,.load ag x=>.loadD ag x
 | .d,.iaddr k x i=>.iaddrD k x i
 | .d,.sll k x lo hi mx=>.sllD k x lo hi mx
 | .d,.call f args=>.callP f args
 | _,op=>op

structure RO where
 dst:Option Nat
 op:ROp
 guard:Option (Nat × Bool)
 deriving Inhabited

def AV.hd?:AV->Option Hd
 | .ptr h _=>some h
 | .eptr h _ _ _=>some h
 | .sl h _ _ _=>some h
 | _=>none
def ROp.sArg:ROp->Option Operand
 | .loadS _ x=>some x
 | .faddrS _ x=>some x
 | .nilcS x=>some x
 | .lenS _ x=>some x
 | .slsA _ x _ _=>some x
 | .arrP _ x=>some x
 | _=>none

def DV.asI:DV->Option (IntKind × Int)
 | .I k n=>some (k,n)
 | _=>none

def AV.eadd (h:Hd) (k ix o d:Nat):AV:=if k=1 then .eptr h 1 (ix + o + d) 0 else .eptr h k ix (o + d)

def aload (lk:Look) (ag:Option Nat) (K:AV->Prop):AV->Prop
 | .ptr h off=>∃ cs,lk h=some (.box cs) /\
  match ag with
  | none=>∃ a,cs[off]?=some a/\K a
  | some n=>off + n <= cs.length/\K (.agg ((cs.drop off).take n))
 | .eptr h k ix off=>∃ mt es e,lk h=some (.row mt k es)/\es[ix]?=some e /\
  match ag with
  | none=>∃ x,e[off]?=some x/\K (.D x)
  | some n=>if k=1 then off=0/\ix + n <= es.length/\K (.agg ((((es.drop ix).take n).flatten).map .D)) else off + n <= e.length/\K (.agg (((e.drop off).take n).map .D))
 | .rop ds =>
  match ag with
  | none=>∃ x,ds[0]?=some x/\K (.D x)
  | some n=>n <= ds.length/\K (.agg ((ds.take n).map .D))
 | _=>False

def aint (op:BinOp) (k:IntKind) (x y:Int) (K:AV->Prop):Prop :=
 match op with
 | .add=>K (.D (.I k (k.wrap (x + y))))
 | .sub=>K (.D (.I k (k.wrap (x - y))))
 | .mul=>K (.D (.I k (k.wrap (x * y))))
 | .quo=>y ≠ 0/\K (.D (.I k (k.wrap (x.tdiv y))))
 | .rem=>y ≠ 0/\K (.D (.I k (x.tmod y)))
 | .and=>K (.D (.I k (bits .and k x y)))
 | .or=>K (.D (.I k (bits .or k x y)))
 | .xor=>K (.D (.I k (bits .xor k x y)))
 | .andNot=>K (.D (.I k (bits .andNot k x y)))
 | .eql=>K (.D (.B (x == y)))
 | .neq=>K (.D (.B (x != y)))
 | .lss=>K (.D (.B (decide (x < y))))
 | .leq=>K (.D (.B (decide (x <= y))))
 | .gtr=>K (.D (.B (decide (x > y))))
 | .geq=>K (.D (.B (decide (x ≥ y))))
 | _=>False

def astr (op:BinOp) (x y:List UInt8) (K:AV->Prop):Prop :=
 match op with
 | .add=>x.length + y.length <= 9223372036854775807/\K (.D (.S (x ++ y)))
 | .eql=>K (.D (.B (x == y)))
 | .neq=>K (.D (.B (!(x == y))))
 | .lss=>K (.D (.B (Op.bytesLess x y)))
 | .leq=>K (.D (.B (Op.bytesLess x y || x == y)))
 | .gtr=>K (.D (.B (!(Op.bytesLess x y || x == y))))
 | .geq=>K (.D (.B (!Op.bytesLess x y)))
 | _=>False

def abin (op:BinOp) (K:AV->Prop):AV->AV->Prop
 | .D (.I k x),.D (.I k' y) =>
  match op with
  | .shl=>0 <= y/\y <= k.bits/\K (.D (.I k (k.wrap (x * 2 ^ y.toNat))))
  | .shr=>0 <= y/\y <= k.bits/\K (.D (.I k (x / 2 ^ y.toNat)))
  | op=>k=k'/\aint op k x y K
 | .D (.S x),.D (.S y)=>astr op x y K
 | _,_=>False

def aun (op:UnOp) (K:AV->Prop):AV->Prop
 | .D (.B x)=>op=.not/\K (.D (.B (!x)))
 | .D (.I k x)=>match op with
  | .neg=>K (.D (.I k (k.wrap (-x))))
  | .xor=>K (.D (.I k (bits .xor k (if k.signed then -1 else k.max) x)))
  | _=>False
 | _=>False

def DV.same (kd:Nat):DV->DV->Option Bool
 | .B x,.B y=>if kd=0 then some (x == y) else none
 | .I k x,.I k' y=>if kd=1/\k=k' then some (x == y) else none
 | .S x,.S y=>if kd=2 then some (x == y) else none
 | _,_=>none
def sameCells:List Nat->List AV->List AV->Option Bool
 | [],[],[]=>some true
 | kd :: kds,.D x :: xs,.D y :: ys=>match DV.same kd x y,sameCells kds xs ys with
  | some p,some q=>some (p && q)
  | _,_=>none
 | _,_,_=>none

def intsL (k:IntKind):List AV->Option (List Int)
 | []=>some []
 | .D (.I k' n) :: r=>if k'=k then (intsL k r).map (n :: ·) else none
 | _=>none

def eqSh:List Sh->List AV->List AV->Option Bool
 | [],[],[]=>some true
 | .s kd :: r,.D x :: xs,.D y :: ys=>match DV.same kd x y,eqSh r xs ys with
  | some p,some q=>some (p && q)
  | _,_=>none
 | .a k m :: r,xs,ys=>match intsL k (xs.take m),intsL k (ys.take m),eqSh r (xs.drop m) (ys.drop m) with
  | some p,some q,some b=>if p.length=m/\q.length=m then some (p == q && b) else none
  | _,_,_=>none
 | _,_,_=>none

def optInt (ev:Operand->AV) (x:Option Operand) (dflt:Nat) (K:Nat->Prop):Prop :=
 match x with
 | none=>K dflt
 | some x=>∃ k n,ev x=.D (.I k n)/\0 <= n/\K n.toNat

def AV.live (lk:Look):AV->Bool
 | .ptr h _=>(lk h).isSome
 | .eptr h _ _ _=>(lk h).isSome
 | .sl h _ _ _=>(lk h).isSome
 | .slk h _ _ _ _=>(lk h).isSome
 | _=>true

def Uni (k:Nat) (es:List (List DV)):Prop:=∀ e ∈ es,e.length=k

def aslice (k:Nat) (ev:Operand->AV) (lo hi mx:Option Operand) (K:AV->Prop):AV->Prop
 | .D (.L es)=>Uni k es/\optInt ev mx es.length fun m=>optInt ev hi es.length fun h=>optInt ev lo 0 fun l=>l <= h/\h <= es.length/\(mx.isSome=true->hi.isSome=true/\h=m) /\
   K (if mx.isSome=true then .fl ((es.drop l).take (h - l)) else .D (.L ((es.drop l).take (h - l))))
 | .fl es=>Uni k es/\optInt ev mx es.length fun m=>optInt ev hi es.length fun h=>optInt ev lo 0 fun l=>l <= h/\h <= m/\m <= es.length/\(mx.isSome=true->hi.isSome=true) /\
   K (if h=m then .fl ((es.drop l).take (h - l)) else .D (.L ((es.drop l).take (h - l))))
 | .sl hd k' off len=>k'=k/\mx=none/\optInt ev hi len fun h=>optInt ev lo 0 fun l=>l <= h/\h <= len/\K (.sl hd k (off + l) (h - l))
 | .slk hd k' off len cap=>k'=k/\mx=none/\optInt ev hi len fun h=>optInt ev lo 0 fun l=>l <= h/\h <= cap/\l < cap/\K (.slk hd k (off + l) (h - l) (cap - l))
 | _=>False

def afill:List AV->List (Nat × List AV)->List AV
 | cs,[]=>cs
 | cs,(o,xs) :: r=>afill (cs.take o ++ xs ++ cs.drop (o + xs.length)) r
def AV.one:AV->Bool
 | .D (.C v)=>v.oneCell'
 | .any=>false
 | .gst _=>false
 | .agg _=>false
 | .tup _=>false
 | _=>true
def AV.allOne:List AV->Bool
 | []=>true
 | a :: as=>AV.one a && AV.allOne as
def AV.cells? (a:AV):Option (List AV) :=
 match a with
 | .agg cs=>if AV.allOne cs=true then some cs else none
 | a=>if AV.one a=true then some [a] else none

def abuild (ev:Operand->AV) (zs:List AV):List (Nat × Nat × Operand)->List (Nat × List AV)->(AV->Prop)->Prop
 | [],acc,K=>K (.agg (afill zs acc.reverse))
 | (o,sz,x) :: r,acc,K=>∃ cs,(ev x).cells?=some cs/\cs.length=sz/\o + sz <= zs.length/\abuild ev zs r ((o,cs) :: acc) K

def AV.data:List AV->Option (List DV)
 | []=>some []
 | .D x :: r=>(AV.data r).map (x :: ·)
 | _=>none
def adataL (lk:Look) (ev:Operand->AV) (k:Nat):List Operand->Option (List (List DV))
 | []=>some []
 | x :: r=>match ((ev x).cells?).bind fun cs=>AV.data (AV.convL lk (fun _=>none) cs),adataL lk ev k r with
  | some e,some es=>if e.length=k then some (e :: es) else none
  | _,_=>none
def adataRows (ev:Operand->AV):List Operand->List Hd
 | []=>[]
 | x :: r=>AV.rows (ev x) ++ adataRows ev r

def AV.content (lk:Look):AV->Option (List (List DV))
 | .D (.L es)=>some es
 | .fl es=>some es
 | .sl h k off len=>match lk h with
  | some (.row _ k' es)=>if k'=k/\off + len <= es.length then some ((es.drop off).take len) else none
  | _=>none
 | .slk h k off len _=>match lk h with
  | some (.row _ k' es)=>if k'=k/\off + len <= es.length then some ((es.drop off).take len) else none
  | _=>none
 | .D (.S t)=>some (t.map fun c=>[.I .u8 c.toNat])
 | _=>none
def bytesOf:List (List DV)->Option (List UInt8)
 | []=>some []
 | [.I .u8 n] :: r=>(bytesOf r).map (UInt8.ofNat n.toNat :: ·)
 | _=>none
def AV.isS:AV->Bool
 | .D (.S _)=>true
 | _=>false
def AV.len? (str:Bool) (a:AV):Option Nat :=
 match str,a with
 | false,.D (.L es)=>some es.length
 | false,.fl es=>some es.length
 | false,.sl _ _ _ len=>some len
 | false,.slk _ _ _ len _=>some len
 | true,.D (.S t)=>some t.length
 | _,_=>none

def backHd (hs:List Hd) (n:Nat):Hd->Hd
 | .B i=>hs.getD i (.B i)
 | .O i=>.O (n + i)

def fzL (lk:Look) (l:List Hd):List Hd:=l.filter fun h=>(lk h).isSome
theorem mem_fzL {lk:Look} {l:List Hd} {h:Hd} (h1:h ∈ l) (h2:(lk h).isSome=true):h ∈ fzL lk l:=List.mem_filter.2 ⟨h1,h2⟩

def isKs:List IntKind->List AV->Bool
 | [],[]=>true
 | k :: ks,.D (.I k' _) :: cs=>decide (k'=k) && isKs ks cs
 | _,_=>false
def AV.isK:KD->AV->Bool
 | .i k,.D (.I k' _)=>decide (k'=k)
 | .s,.D (.S _)=>true
 | .a ks,.agg cs=>isKs ks cs
 | _,_=>false
def keqL:List AV->List AV->Option Bool
 | [],[]=>some true
 | .D (.I k n) :: xs,.D (.I k' n') :: ys=>if k=k' then match keqL xs ys with
  | some b=>some (n == n' && b)
  | none=>none else none
 | _,_=>none
def AV.keq:AV->AV->Option Bool
 | .D (.I k n),.D (.I k' n')=>if k=k' then some (n == n') else none
 | .D (.S a),.D (.S b)=>some (a == b)
 | .agg xs,.agg ys=>keqL xs ys
 | _,_=>none
def mfind (key:AV):List (AV × MV)->Option (Option (Nat × MV))
 | []=>some none
 | e :: es=>match key.keq e.1 with
  | some true=>some (some (0,e.2))
  | some false=>match mfind key es with
   | some (some (j,v))=>some (some (j + 1,v))
   | some none=>some none
   | none=>none
  | none=>none
def MV.av:MV->AV
 | .v a=>a
 | .o _ rs=>.D (.L rs)
 | .ow _ _=>.any

def pstep (P:Program) (lk:Look) (n:Nat) (ev:Operand->AV) (op:ROp) (K:AV->List Blk->List Hd->Prop):Prop :=
 match op with
 | .mv x=>K (ev x) [] []
 | .pick c a b=>∃ x,ev c=.D (.B x)/\K (if x=true then ev a else ev b) [] []
 | .new zs=>K (.ptr (.O n) 0) [.box zs] []
 | .box x=>∃ cs,(ev x).cells?=some cs/\K (.ptr (.O n) 0) [.box cs] []
 | .build zs ps=>abuild ev zs ps [] fun a=>K a [] []
 | .bslice k ps=>if ps=[] then K (.fl []) [] [] else ∃ es,adataL lk ev k ps=some es/\K (.sl (.O n) k 0 ps.length) [.row true k es] (fzL lk (adataRows ev ps))
 | .load ag x=>aload lk ag (fun a=>K a [] []) (ev x)
 | .bin op x y=>abin op (fun a=>K a [] []) (ev x) (ev y)
 | .eqs neg kds x y=>∃ xs ys b,ev x=.agg xs/\ev y=.agg ys/\sameCells kds xs ys=some b/\K (.D (.B (if neg=true then !b else b))) [] []
 | .beq neg x y=>∃ p q,ev x=.D (.B p)/\ev y=.D (.B q)/\K (.D (.B (if neg=true then !(p == q) else (p == q)))) [] []
 | .un op x=>aun op (fun a=>K a [] []) (ev x)
 | .faddr off x=>AV.live lk (ev x)=true/\match ev x with
  | .ptr h o=>K (.ptr h (o + off)) [] []
  | .eptr h k ix o=>K (AV.eadd h k ix o off) [] []
  | .rop ds=>K (.rop (ds.drop off)) [] []
  | _=>False
 | .field off ag x=>∃ cs,ev x=.agg cs /\
  match ag with
  | none=>∃ a,cs[off]?=some a/\K a [] []
  | some m=>off + m <= cs.length/\K (.agg ((cs.drop off).take m)) [] []
 | .iaddr k x i=>AV.live lk (ev x)=true/\∃ kd j,ev i=.D (.I kd j)/\0 <= j /\
  match ev x with
  | .D (.L es)=>∃ e,es[j.toNat]?=some e/\e.length=k/\K (.rop e) [] []
  | .fl es=>∃ e,es[j.toNat]?=some e/\e.length=k/\K (.rop e) [] []
  | .sl h k' off len=>k'=k/\j < len/\K (.eptr h k (off + j.toNat) 0) [] []
  | _=>False
 | .ixs x i=>∃ t kd j c,ev x=.D (.S t)/\ev i=.D (.I kd j)/\0 <= j/\t[j.toNat]?=some c/\K (.D (.I .u8 c.toNat)) [] []
 | .sls x lo hi=>∃ t,ev x=.D (.S t)/\optInt ev hi t.length fun h=>optInt ev lo 0 fun l=>l <= h/\h <= t.length/\K (.D (.S ((t.drop l).take (h - l)))) [] []
 | .sll k x lo hi mx=>AV.live lk (ev x)=true/\aslice k ev lo hi mx (fun a=>K a [] []) (ev x)
 | .ext x i=>∃ cs a,ev x=.tup cs/\cs[i]?=some a/\K a [] []
 | .call f args=>∃ fn caps ks z r nbs,ev f=.clo fn caps/\(z=true->AV.flatO r=true/\nbs.all Blk.flatR=true) /\
   ACall P fn (AV.convK lk ks (args.map ev ++ caps)) [] r [] nbs /\
   K (AV.ren (backHd [] n) r) (nbs.map (Blk.ren (backHd [] n))) (if AV.flat r=true/\nbs=[] then [] else fzC z (fzL lk (AV.rowsL (args.map ev ++ caps))))
 | .len str x=>AV.live lk (ev x)=true/\∃ m,(ev x).len? str=some m/\K (.D (.I .i64 m)) [] []
 | .app k bytes x y=>∃ es,ev x=.fl es/\∃ ys,AV.content lk (ev y)=some ys/\Uni k es/\Uni k ys/\(es.length + ys.length) * bytes <= 140737488355328 /\
   (if ys=[]/\es ≠ [] then K (.fl es) [] [] else K (.sl (.O n) k 0 (es.length + ys.length)) [.row true k (es ++ ys)] (fzL lk (AV.rows (ev y))))
 | .mm isMax x y=>∃ k a b,ev x=.D (.I k a)/\ev y=.D (.I k b)/\K (.D (.I k (if isMax=true then max a b else min a b))) [] []
 | .mkf f caps=>K (.clo f (caps.map ev)) [] []
 | .store _ _ _=>False
 | .appE _ _ _ _=>False
 | .callE _ _=>False
 | .clr _ _ _=>False
 | .cpy _ _ _=>False
 | .mks k bytes zs x y=>∃ k1 k2 l c,ev x=.D (.I k1 l)/\ev y=.D (.I k2 c)/\0 <= l/\l <= c/\c <= 9223372036854775807/\(bytes:Int) * c <= 281474976710656/\K (.sl (.O n) k 0 l.toNat) [.row true k (List.replicate l.toNat zs)] []
 | .loadS ag x=>(ev x).hd?.isSome=true/\aload lk ag (fun a=>K a [] []) (ev x)
 | .lenS str x=>(ev x).hd?.isSome=true/\AV.live lk (ev x)=true/\∃ m,(ev x).len? str=some m/\K (.D (.I .i64 m)) [] []
 | .nilcS x=>(ev x).hd?.isSome=true/\AV.live lk (ev x)=true/\match ev x with
  | .ptr h o=>K (.ptr h o) [] []
  | .eptr h k ix o=>K (.eptr h k ix o) [] []
  | .rop ds=>K (.rop ds) [] []
  | _=>False
 | .faddrS off x=>(ev x).hd?.isSome=true/\AV.live lk (ev x)=true/\match ev x with
  | .ptr h o=>K (.ptr h (o + off)) [] []
  | .eptr h k ix o=>K (AV.eadd h k ix o off) [] []
  | .rop ds=>K (.rop (ds.drop off)) [] []
  | _=>False
 | .capK x=>AV.live lk (ev x)=true/\∃ cap:Nat,((∃ h k off len,ev x=.slk h k off len cap)\/∃ es,ev x=.fl es/\cap=es.length)/\K (.D (.I .i64 cap)) [] []
 | .appZ k bytes zs x y=>AV.live lk (ev x)=true/\∃ len cap kd j es,((∃ h mt,ev x=.slk h k 0 len cap/\lk h=some (.row mt k es))\/(ev x=.fl []/\len=0/\cap=0/\es=[]))/\ev y=.D (.I kd j)/\0 <= j/\len <= es.length/\Uni k es/\cap < len + j.toNat/\(len + j.toNat) * bytes <= 140737488355328 /\
   K (.sl (.O n) k 0 (len + j.toNat)) [.row true k (es.take len ++ List.replicate j.toNat zs)] []
 | .isnil neg x=>AV.live lk (ev x)=true/\∃ m,(ev x).len? false=some m/\if m=0 then K .ab [] [] else K (.D (.B neg)) [] []
 | .stop=>False
 | .bsF k ps=>(ps=[]/\K (.fl []) [] [])\/(ps ≠ []/\∃ es,adataL (fun _=>none) ev k ps=some es/\K (.fl es) [] [])
 | .isp neg x=>AV.live lk (ev x)=true/\match ev x with
  | .ptr _ _=>K (.D (.B neg)) [] []
  | .D (.C (.pointer none))=>K (.D (.B (!neg))) [] []
  | _=>False
 | .cvI k x=>∃ k' j,ev x=.D (.I k' j)/\K (.D (.I k (k.wrap j))) [] []
 | .cvS x=>∃ ys t,AV.content lk (ev x)=some ys/\bytesOf ys=some t/\AV.isS (ev x)=false/\K (.D (.S t)) [] []
 | .iaddrA m k x i=>AV.live lk (ev x)=true/\∃ kd j,ev i=.D (.I kd j)/\0 <= j/\j < m /\
  match ev x with
  | .ptr h o=>K (.ptr h (o + j.toNat * k)) [] []
  | .eptr h k' ix o=>K (AV.eadd h k' ix o (j.toNat * k)) [] []
  | .rop ds=>K (.rop (ds.drop (j.toNat * k))) [] []
  | _=>False
 | .idxA m k ag x i=>∃ cs kd j,ev x=.agg cs/\ev i=.D (.I kd j)/\0 <= j/\j < m /\
  match ag with
  | none=>∃ a,cs[j.toNat * k]?=some a/\K a [] []
  | some q=>j.toNat * k + q <= cs.length/\K (.agg ((cs.drop (j.toNat * k)).take q)) [] []
 | .slsA m x lo hi=>∃ h ix mt es,ev x=.eptr h 1 ix 0/\lk h=some (.row mt 1 es)/\ix + m <= es.length/\optInt ev hi m fun hh=>optInt ev lo 0 fun l=>l <= hh/\hh <= m/\K (.sl h 1 (ix + l) (hh - l)) [] []
 | .arrP m x=>∃ h off len mt es,ev x=.sl h 1 off len/\lk h=some (.row mt 1 es)/\m <= len/\0 < len/\K (.eptr h 1 off 0) [] []
 | .newR zs=>∃ ds,AV.data zs=some ds/\K (.eptr (.O n) 1 0 0) [.row true 1 (ds.map fun d=>[d])] []
 | .boxR x=>∃ cs ds,(ev x).cells?=some cs/\AV.data cs=some ds/\K (.eptr (.O n) 1 0 0) [.row true 1 (ds.map fun d=>[d])] []
 | .loadD ag x=>aload (fun _=>none) ag (fun a=>K a [] []) (ev x)
 | .sllD k x lo hi mx=>match ev x with
  | .D (.L es)=>aslice k ev lo hi mx (fun a=>K a [] []) (.D (.L es))
  | .fl es=>aslice k ev lo hi mx (fun a=>K a [] []) (.fl es)
  | _=>False
 | .iaddrD k x i=>∃ kd j,ev i=.D (.I kd j)/\0 <= j /\
  match ev x with
  | .D (.L es)=>∃ e,es[j.toNat]?=some e/\e.length=k/\K (.rop e) [] []
  | .fl es=>∃ e,es[j.toNat]?=some e/\e.length=k/\K (.rop e) [] []
  | _=>False
 | .cvB x=>∃ t,ev x=.D (.S t)/\K (.D (.L (t.map fun c=>[DV.I .u8 (c.toNat:Nat)]))) [] []
 | .mkI t x=>ev x=.agg []/\K (.D (.C (.iface t (.agg #[])))) [] []
 | .pan _=>False
 | .isn neg x=>∃ v,ev x=.D (.C v)/\match v with
  | .nilIface=>K (.D (.B (!neg))) [] []
  | .iface _ _=>K (.D (.B neg)) [] []
  | _=>False
 | .tas t x=>ev x=.D (.C (.iface t (.agg #[])))/\K (.tup [.agg [],.D (.B true)]) [] []
 | .callP _ _=>False
 | .mkm kd=>False
 | .newB T=>K (.mref (.O n)) [.sb T false []] []
 | .mkmW kd=>False
 | .mget kd z _ ok x y=>False
 | .mlen x=>False
 | .ent x=>False
 | .mtake _ _ _ _ _ _=>False
 | .mput _ _ _ _=>False
 | .mdel _ _ _=>False
 | .entT _=>False
 | .rng _ _=>False
 | .nxt _=>False
 | .nilc x=>AV.live lk (ev x)=true /\
  match ev x with
  | .ptr h o=>K (.ptr h o) [] []
  | .eptr h k ix o=>K (.eptr h k ix o) [] []
  | .rop ds=>K (.rop ds) [] []
  | _=>False
 | .eqa neg k m x y=>∃ xs ys p q,ev x=.agg xs/\ev y=.agg ys/\intsL k xs=some p/\intsL k ys=some q/\p.length=m/\q.length=m/\K (.D (.B (if neg=true then !(p == q) else (p == q)))) [] []
 | .eqg neg sh x y=>∃ xs ys b,ev x=.agg xs/\ev y=.agg ys/\eqSh sh xs ys=some b/\K (.D (.B (if neg=true then !b else b))) [] []

end Go.Eng


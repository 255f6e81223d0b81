/- Texts of this claim. -/
import Derived.WalkKit
import Derived.WalkLawsBesides
import Derived.MapKept
set_option linter.all false
set_option linter.unusedSimpArgs false
set_option linter.unusedVariables false
namespace Go.Eng
open Go.RowKit

inductive DV where
 | B (x:Bool)
 | I (k:IntKind) (n:Int)
 | S (t:List UInt8)
 | C (v:Value)
 | L (es:List (List DV))
 deriving Inhabited

inductive Hd where
 | B (i:Nat)
 | O (i:Nat)
 deriving DecidableEq,Inhabited

inductive AV where
 | D (x:DV)
 | any
 | sc
 | ab
 | ptr (h:Hd) (off:Nat)
 | eptr (h:Hd) (k ix off:Nat)
 | rop (ds:List DV)
 | fl (es:List (List DV))
 | sl (h:Hd) (k off len:Nat)
 | slk (h:Hd) (k off len cap:Nat)
 | agg (cs:List AV)
 | tup (vs:List AV)
 | clo (f:Nat) (caps:List AV)
 | yld (l:Nat)
 | gst (c:Option Code)
 | mref (h:Hd)
 | itr (hm h:Hd)
 | nsl (h:Hd) (k off len:Nat)
 | nptr (h:Hd) (k ix off:Nat)
 deriving Inhabited

inductive ND where
 | d (x:DV)
 | o (mt:Bool) (k:Nat) (es:List (List DV))
 | hole
 deriving Inhabited
inductive MV where
 | v (a:AV)
 | o (k:Nat) (es:List (List DV))
 | ow (k:Nat) (es:List (List DV))
 deriving Inhabited

inductive KD where
 | i (k:IntKind)
 | s
 | a (ks:List IntKind)
 deriving DecidableEq,Inhabited
def KeyOk:KD->Value->Prop
 | .i k,.int k' _=>k'=k
 | .s,.string _=>True
 | .a ks,.agg cs=>∃ ns:List Int,ns.length=ks.length/\cs.toList=List.zipWith Value.int ks ns
 | _,_=>False

inductive Blk where
 | box (cs:List AV)
 | row (mt:Bool) (k:Nat) (es:List (List DV))
 | nst (k:Nat) (es:List (List ND))
 | sb (T:TypeId × TypeId) (us:Bool) (es:List (List DV))
 | mp (kd:KD) (es:List (AV × MV)) (it:Option (Hd × List AV × List AV))
 | it
 deriving Inhabited

inductive Loc where
 | dead
 | none
 | at_ (b sz:Nat)
 | atx (b sz:Nat) (fp:List Nat)
 deriving DecidableEq
def Loc.blks:Loc->List Nat
 | .at_ b _=>[b]
 | .atx b _ fp=>b :: fp
 | _=>[]

abbrev Gh:=Nat->Nat->Option Value
abbrev HM:=Hd->Option Loc
abbrev Look:=Hd->Option Blk

mutual
def DV.Rep (G:Gh):DV->Value->Prop
 | .B x,v=>v=.bool x
 | .I k n,v=>v=.int k n
 | .S t,v=>v=.string ⟨t.toArray⟩
 | .C x,v=>v=x
 | .L es,v=>∃ a cap,v=.slice a es.length cap/\es.length <= cap/\(a=none->cap=0) /\
   (es ≠ []->∃ b o k,a=some ⟨b,o,none⟩/\DV.rows G (G b) k o es)
def DV.rows (G:Gh) (f:Nat->Option Value) (k:Nat) (o:Nat):List (List DV)->Prop
 | []=>True
 | e :: es=>e.length=k/\DV.cells G f o e/\DV.rows G f k (o + k) es
def DV.cells (G:Gh) (f:Nat->Option Value) (o:Nat):List DV->Prop
 | []=>True
 | d :: ds=>(∃ v,f o=some v/\DV.Rep G d v)/\DV.cells G f (o + 1) ds
end

def slRep (loc:Loc) (k off len:Nat) (v:Value):Prop :=
 (∃ a,v=.slice a 0 0/\len=0) \/
 (∃ b sz cap,loc=.at_ b sz/\v=.slice (some ⟨b,off * k,none⟩) len cap/\len <= cap/\(off + cap) * k <= sz)

def nslRep (loc:Loc) (k off len:Nat) (v:Value):Prop :=
 (∃ a,v=.slice a 0 0/\len=0) \/
 (∃ b sz fp cap,loc=.atx b sz fp/\v=.slice (some ⟨b,off * k,none⟩) len cap/\len <= cap/\(off + cap) * k <= sz)
def slkRep (loc:Loc) (k off len cap:Nat) (v:Value):Prop:=∃ b sz,loc=.at_ b sz/\v=.slice (some ⟨b,off * k,none⟩) len cap/\len <= cap/\(off + cap) * k <= sz
theorem slk_sl {loc:Loc} {k off len cap:Nat} {v:Value} (h:slkRep loc k off len cap v):slRep loc k off len v:=let ⟨b,sz,h1,h2,h3,h4⟩:=h;.inr ⟨b,sz,cap,h1,h2,h3,h4⟩

def refV (b:Nat):Nat->Value
 | 2=>.pointer (some ⟨b,0,none⟩)
 | _=>.map (some b)
mutual
def AV.Rep (G:Gh) (m:HM):AV->Value->Prop
 | .D x,v=>DV.Rep G x v
 | .any,_=>True
 | .yld l,v=>v=.func (.yield l) #[] #[]
 | .gst _,_=>True
 | .mref h,v=>v.oneCell'=true/\∃ loc,m h=some loc/\(loc ≠ .dead->∃ b sz fp,loc=.atx b sz fp/\v=refV b sz)
 | .itr hm h,v=>v.oneCell'=true/\(∃ l,m hm=some l)/\∃ loc,m h=some loc/\(loc ≠ .dead->∃ b sz fp,loc=.atx b sz fp/\v=.pointer (some ⟨b,0,none⟩))
 | .nsl h k off len,v=>v.oneCell'=true/\∃ loc,m h=some loc/\(loc ≠ .dead->nslRep loc k off len v)
 | .nptr h k ix off,v=>v.oneCell'=true/\∃ loc,m h=some loc/\(loc ≠ .dead->∃ b sz fp,loc=.atx b sz fp/\v=.pointer (some ⟨b,ix * k + off,none⟩))
 | .sc,v=>v.oneCell'=true
 | .ab,v=>∃ b:Bool,v=.bool b
 | .ptr h off,v=>v.oneCell'=true/\∃ loc,m h=some loc/\(loc ≠ .dead->∃ b sz,loc=.at_ b sz/\v=.pointer (some ⟨b,off,none⟩))
 | .eptr h k ix off,v=>v.oneCell'=true/\∃ loc,m h=some loc/\(loc ≠ .dead->∃ b sz,loc=.at_ b sz/\v=.pointer (some ⟨b,ix * k + off,none⟩))
 | .rop ds,v=>∃ b o,v=.pointer (some ⟨b,o,none⟩)/\DV.cells G (G b) o ds
 | .fl es,v=>DV.Rep G (.L es) v/\∃ a,v=.slice a es.length es.length
 | .sl h k off len,v=>v.oneCell'=true/\∃ loc,m h=some loc/\(loc ≠ .dead->slRep loc k off len v)
 | .slk h k off len cap,v=>v.oneCell'=true/\∃ loc,m h=some loc/\(loc ≠ .dead->slkRep loc k off len cap v)
 | .agg cs,v=>∃ vs:Array Value,v=.agg vs/\AV.RepL G m cs vs.toList
 | .tup cs,v=>∃ vs:Array Value,v=.tuple vs/\AV.RepL G m cs vs.toList
 | .clo f cs,v=>∃ vs:Array Value,v=.func (.func f) #[] vs/\AV.RepL G m cs vs.toList
def AV.RepL (G:Gh) (m:HM):List AV->List Value->Prop
 | [],vs=>vs=[]
 | a :: as,vs=>∃ v vs',vs=v :: vs'/\AV.Rep G m a v/\AV.RepL G m as vs'
end

def Gh.le (G G':Gh):Prop:=∀ b o v,G b o=some v->G' b o=some v
theorem Gh.le.refl (G:Gh):Gh.le G G:=fun _ _ _ h=>h
theorem Gh.le.trans {G G' G'':Gh} (h:Gh.le G G') (h':Gh.le G' G''):Gh.le G G'':=fun b o v q=>h' b o v (h b o v q)

mutual
theorem DV.Rep.mono {G G':Gh} (h:Gh.le G G'):∀ (d:DV) (v:Value),DV.Rep G d v->DV.Rep G' d v
 | .B _,_,q=>q
 | .I _ _,_,q=>q
 | .S _,_,q=>q
 | .C _,_,q=>q
 | .L es,v,q=>by
  unfold DV.Rep at q |-
  obtain ⟨a,cap,h1,h2,h3,h4⟩:=q
  exact ⟨a,cap,h1,h2,h3,fun hne=>let ⟨b,o,k,ha,hr⟩:=h4 hne;⟨b,o,k,ha,DV.rows.mono h (fun i v=>h b i v) k o es hr⟩⟩
theorem DV.rows.mono {G G':Gh} (h:Gh.le G G') {f f':Nat->Option Value} (hf:∀ i v,f i=some v->f' i=some v) (k:Nat):∀ (o:Nat) (es:List (List DV)),DV.rows G f k o es->DV.rows G' f' k o es
 | _,[],_=>by unfold DV.rows;trivial
 | o,e :: es,q=>by
  unfold DV.rows at q |-
  exact ⟨q.1,DV.cells.mono h hf o e q.2.1,DV.rows.mono h hf k (o + k) es q.2.2⟩
theorem DV.cells.mono {G G':Gh} (h:Gh.le G G') {f f':Nat->Option Value} (hf:∀ i v,f i=some v->f' i=some v):∀ (o:Nat) (ds:List DV),DV.cells G f o ds->DV.cells G' f' o ds
 | _,[],_=>by unfold DV.cells;trivial
 | o,d :: ds,q=>by
  unfold DV.cells at q |-
  obtain ⟨⟨v,h1,h2⟩,h3⟩:=q
  exact ⟨⟨v,hf _ _ h1,DV.Rep.mono h d v h2⟩,DV.cells.mono h hf (o + 1) ds h3⟩
end

def HM.le (m m':HM):Prop:=∀ h loc,m h=some loc->(m' h=some loc\/∃ b sz fp fp',loc=.atx b sz fp/\m' h=some (.atx b sz fp'))\/m' h=some .dead
theorem HM.le.refl (m:HM):HM.le m m:=fun _ _ h=>.inl (.inl h)
mutual
theorem AV.Rep.mono {G G':Gh} {m m':HM} (h:Gh.le G G') (hm:HM.le m m'):∀ (a:AV) (v:Value),AV.Rep G m a v->AV.Rep G' m' a v
 | .D x,v,q=>by unfold AV.Rep at q |-;exact DV.Rep.mono h x v q
 | .any,_,_=>by unfold AV.Rep;trivial
 | .yld _,_,q=>by unfold AV.Rep at q |-;exact q
 | .gst _,_,_=>by unfold AV.Rep;trivial
 | .sc,_,q=>by unfold AV.Rep at q |-;exact q
 | .ab,_,q=>by unfold AV.Rep at q |-;exact q
 | .ptr hd off,v,q=>by
  unfold AV.Rep at q |-
  obtain ⟨h0,loc,h1,h2⟩:=q
  rcases hm hd loc h1 with (h3 | ⟨b,sz,fp,fp',rfl,h3⟩) | h3
  ·exact ⟨h0,loc,h3,h2⟩
  ·exact absurd (h2 (fun e=>by cases e)) (fun ⟨_,_,e,_⟩=>by cases e)
  ·exact ⟨h0,_,h3,fun h=>absurd rfl h⟩
 | .eptr hd k ix off,v,q=>by
  unfold AV.Rep at q |-
  obtain ⟨h0,loc,h1,h2⟩:=q
  rcases hm hd loc h1 with (h3 | ⟨b,sz,fp,fp',rfl,h3⟩) | h3
  ·exact ⟨h0,loc,h3,h2⟩
  ·exact absurd (h2 (fun e=>by cases e)) (fun ⟨_,_,e,_⟩=>by cases e)
  ·exact ⟨h0,_,h3,fun h=>absurd rfl h⟩
 | .rop ds,v,q=>by
  unfold AV.Rep at q |-
  obtain ⟨b,o,h1,h2⟩:=q
  exact ⟨b,o,h1,DV.cells.mono h (fun i v=>h b i v) o ds h2⟩
 | .fl es,v,q=>by
  unfold AV.Rep at q |-
  exact ⟨DV.Rep.mono h _ v q.1,q.2⟩
 | .sl hd k off len,v,q=>by
  unfold AV.Rep at q |-
  obtain ⟨h0,loc,h1,h2⟩:=q
  rcases hm hd loc h1 with (h3 | ⟨b,sz,fp,fp',rfl,h3⟩) | h3
  ·exact ⟨h0,loc,h3,h2⟩
  ·exact ⟨h0,_,h3,fun _=>by
   rcases h2 (fun e=>by cases e) with ⟨a,e1,e2⟩ | ⟨_,_,_,e,_⟩
   ·exact .inl ⟨a,e1,e2⟩
   ·cases e⟩
  ·exact ⟨h0,_,h3,fun h=>absurd rfl h⟩
 | .slk hd k off len cap,v,q=>by
  unfold AV.Rep at q |-
  obtain ⟨h0,loc,h1,h2⟩:=q
  rcases hm hd loc h1 with (h3 | ⟨b,sz,fp,fp',rfl,h3⟩) | h3
  ·exact ⟨h0,loc,h3,h2⟩
  ·exact absurd (h2 (fun e=>by cases e)) (fun ⟨_,_,e,_⟩=>by cases e)
  ·exact ⟨h0,_,h3,fun h=>absurd rfl h⟩
 | .mref hd,v,q=>by
  unfold AV.Rep at q |-
  obtain ⟨h0,loc,h1,h2⟩:=q
  rcases hm hd loc h1 with (h3 | ⟨b,sz,fp,fp',rfl,h3⟩) | h3
  ·exact ⟨h0,loc,h3,h2⟩
  ·obtain ⟨_,_,_,e,h4⟩:=h2 (fun e=>by cases e)
   cases e
   exact ⟨h0,_,h3,fun _=>⟨b,sz,fp',rfl,h4⟩⟩
  ·exact ⟨h0,_,h3,fun h=>absurd rfl h⟩
 | .itr hd0 hd,v,q=>by
  unfold AV.Rep at q |-
  obtain ⟨h0,⟨l0,g0⟩,loc,h1,h2⟩:=q
  have g1:∃ l,m' hd0=some l:=by
   rcases hm hd0 l0 g0 with (h3 | ⟨b,sz,fp,fp',_,h3⟩) | h3 <;> exact ⟨_,h3⟩
  rcases hm hd loc h1 with (h3 | ⟨b,sz,fp,fp',rfl,h3⟩) | h3
  ·exact ⟨h0,g1,loc,h3,h2⟩
  ·obtain ⟨_,_,_,e,h4⟩:=h2 (fun e=>by cases e)
   cases e
   exact ⟨h0,g1,_,h3,fun _=>⟨b,sz,fp',rfl,h4⟩⟩
  ·exact ⟨h0,g1,_,h3,fun h=>absurd rfl h⟩
 | .nptr hd k ix off,v,q=>by
  unfold AV.Rep at q |-
  obtain ⟨h0,loc,h1,h2⟩:=q
  rcases hm hd loc h1 with (h3 | ⟨b,sz,fp,fp',rfl,h3⟩) | h3
  ·exact ⟨h0,loc,h3,h2⟩
  ·obtain ⟨_,_,_,e,h4⟩:=h2 (fun e=>by cases e)
   cases e
   exact ⟨h0,_,h3,fun _=>⟨b,sz,fp',rfl,h4⟩⟩
  ·exact ⟨h0,_,h3,fun h=>absurd rfl h⟩
 | .nsl hd k off len,v,q=>by
  unfold AV.Rep at q |-
  obtain ⟨h0,loc,h1,h2⟩:=q
  rcases hm hd loc h1 with (h3 | ⟨b,sz,fp,fp',rfl,h3⟩) | h3
  ·exact ⟨h0,loc,h3,h2⟩
  ·refine ⟨h0,_,h3,fun _=>?_⟩
   rcases h2 (fun e=>by cases e) with ⟨a,e1,e2⟩ | ⟨_,_,_,cap,e,e1,e2,e3⟩
   ·exact .inl ⟨a,e1,e2⟩
   ·cases e;exact .inr ⟨b,sz,fp',cap,rfl,e1,e2,e3⟩
  ·exact ⟨h0,_,h3,fun h=>absurd rfl h⟩
 | .agg cs,v,q=>by
  unfold AV.Rep at q |-
  obtain ⟨vs,h1,h2⟩:=q
  exact ⟨vs,h1,AV.RepL.mono h hm cs _ h2⟩
 | .tup cs,v,q=>by
  unfold AV.Rep at q |-
  obtain ⟨vs,h1,h2⟩:=q
  exact ⟨vs,h1,AV.RepL.mono h hm cs _ h2⟩
 | .clo f cs,v,q=>by
  unfold AV.Rep at q |-
  obtain ⟨vs,h1,h2⟩:=q
  exact ⟨vs,h1,AV.RepL.mono h hm cs _ h2⟩
theorem AV.RepL.mono {G G':Gh} {m m':HM} (h:Gh.le G G') (hm:HM.le m m'):∀ (as:List AV) (vs:List Value),AV.RepL G m as vs->AV.RepL G' m' as vs
 | [],_,q=>by unfold AV.RepL at q |-;exact q
 | a :: as,vs,q=>by
  unfold AV.RepL at q |-
  obtain ⟨v,vs',h1,h2,h3⟩:=q
  exact ⟨v,vs',h1,AV.Rep.mono h hm a v h2,AV.RepL.mono h hm as vs' h3⟩
end

end Go.Eng


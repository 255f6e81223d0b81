/- What the package-level variables hold that stay as they are (as the given rows list it). -/
import Derived.WalkKit
import Derived.WalkLawsBesides
import Derived.MapKept
open Array renaming getElem?_eq_some_iff->aad,getElem?_toList->aaj,toArray_toList->aaL,toList_map->abm
open Bool renaming and_eq_true->μ,false_eq_true->abu
open List renaming all_eq_true->aa1,cons_append->acg,drop_succ_cons->acO,extract_eq_take_drop->abT,flatten_cons->acx,getElem?_eq_getElem->ν,getElem?_eq_none_iff->abS,getElem?_eq_some_iff->υ,getElem?_map->aac,length_cons->aaf,length_map->κ,length_nil->aaE,map_cons->aaM,mem_append->aau,mem_append_left->abp,mem_append_right->abi,mem_cons->ω,mem_cons_of_mem->aab,mem_cons_self->aap,mem_filter->ξ,mem_of_getElem?->aar,mem_singleton->aai,nil_append->aa8,replicate->aae,take_succ_cons->ab4
open Nat renaming add_mul->aaW,add_sub_cancel_left->aaP,add_zero->abt,le_refl->me,le_trans->aaG,lt_of_lt_of_le->aa6,mul_one->aaN
open Option renaming bind_eq_some_iff->η,isSome_iff_exists->aa5,isSome_none->adu,map_eq_some_iff->ι,map_some->aaZ
set_option linter.all false
namespace Go.Eng
open Go.RowKit
inductive DV where
 |B (x:Bool)
 |I (k:IntKind) (n:Int)
 |S (t:List UInt8)
 |C (v:Value)
 |L (es:List (List DV))
 deriving Inhabited
inductive Hd where
 |B (i:Nat)
 |O (i:Nat)
 deriving DecidableEq,Inhabited
inductive AV where
 |D (x:DV)
 |any
 |sc
 |ab
 |ptr (h:Hd) (off:Nat)
 |eptr (h:Hd) (k ix off:Nat)
 |rop (ds:List DV)
 |fl (es:List (List DV))
 |sl (h:Hd) (k off len:Nat)
 |slk (h:Hd) (k off len cap:Nat)
 |agg (cs:List AV)
 |cn (vs:List AV)
 |clo (f:Nat) (caps:List AV)
 |yld (l:Nat)
 |gst (c:Option Code)
 |mref (h:Hd)
 |itr (hm h:Hd)
 |nsl (h:Hd) (k off len:Nat)
 |nptr (h:Hd) (k ix off:Nat)
 deriving Inhabited
inductive ND where
 |d (x:DV)
 |o (mt:Bool) (k:Nat) (es:List (List DV))
 |hole
 deriving Inhabited
inductive MV where
 |v (a:AV)
 |o (k:Nat) (es:List (List DV))
 |ow (k:Nat) (es:List (List DV))
 deriving Inhabited
inductive KD where
 |i (k:IntKind)
 |s
 |a (ks:List IntKind)
 deriving DecidableEq,Inhabited
def mV:KD->Value->Prop
 |.i k,.int k' _=>k'=k
 |.s,.string _=>True
 |.a ks,.agg cs=>∃ns:List Int,ns.length=ks.length/\cs.toList=List.zipWith Value.int ks ns
 |_,_=>False
inductive bn where
 |box (cs:List AV)
 |row (mt:Bool) (k:Nat) (es:List (List DV))
 |nst (k:Nat) (es:List (List ND))
 |sb (T:TypeId×TypeId) (us:Bool) (es:List (List DV))
 |mp (kd:KD) (es:List (AV×MV)) (it:Option (Hd×List AV×List AV))
 |it
 deriving Inhabited
inductive Loc where
 |dead
 |none
 |at_ (b sz:Nat)
 |atx (b sz:Nat) (fp:List Nat)
 deriving DecidableEq
def Loc.ga:Loc->List Nat
 |.at_ b _=>[b]
 |.atx b _ fp=>b::fp
 |_=>[]
abbrev Gh:=Nat->Nat->Option Value
abbrev HM:=Hd->Option Loc
abbrev bJ:=Hd->Option bn
mutual
def DV.aq(G:Gh):DV->Value->Prop
 |.B x,v=>v=.bool x
 |.I k n,v=>v=.int k n
 |.S t,v=>v=.string ⟨t.toArray⟩
 |.C x,v=>v=x
 | .L es,v=>∃ a cap,v=.slice a es.length cap/\es.length <= cap/\(a=none->cap=0) /\
   (es≠[]->∃b o k,a=some ⟨b,o,none⟩/\DV.rows G (G b) k o es)
def DV.rows(G:Gh)(f:Nat->Option Value)(k:Nat)(o:Nat):List (List DV)->Prop
 |[]=>True
 |e::es=>e.length=k/\DV.cells G f o e/\DV.rows G f k (o+k) es
def DV.cells(G:Gh)(f:Nat->Option Value)(o:Nat):List DV->Prop
 |[]=>True
 |d::ds=>(∃v,f o=some v/\DV.aq G d v)/\DV.cells G f (o+1) ds
end
def Ce(loc:Loc)(k off len:Nat)(v:Value):Prop:=
 (∃a,v=.slice a 0 0/\len=0)\/
 (∃b sz cap,loc=.at_ b sz/\v=.slice (some ⟨b,off*k,none⟩) len cap/\len<=cap/\(off+cap)*k<=sz)
def ZA(loc:Loc)(k off len:Nat)(v:Value):Prop:=
 (∃a,v=.slice a 0 0/\len=0)\/
 (∃b sz fp cap,loc=.atx b sz fp/\v=.slice (some ⟨b,off*k,none⟩) len cap/\len<=cap/\(off+cap)*k<=sz)
def HU(loc:Loc)(k off len cap:Nat)(v:Value):Prop:=∃b sz,loc=.at_ b sz/\v=.slice (some ⟨b,off*k,none⟩) len cap/\len<=cap/\(off+cap)*k<=sz
theorem Ek{loc:Loc}{k off len cap:Nat}{v:Value}(h:HU loc k off len cap v):Ce loc k off len v:=let⟨b,sz,h1,h2,h3,h4⟩:=h;.inr ⟨b,sz,cap,h1,h2,h3,h4⟩
def VY(b:Nat):Nat->Value
 |2=>.pointer (some ⟨b,0,none⟩)
 |_=>.map (some b)
mutual
def AV.aq(G:Gh)(m:HM):AV->Value->Prop
 |.D x,v=>DV.aq G x v
 |.any,_=>True
 |.yld l,v=>v=.func (.yield l) #[] #[]
 |.gst _,_=>True
 |.mref h,v=>v.oneCell'=true/\∃loc,m h=some loc/\(loc≠.dead->∃b sz fp,loc=.atx b sz fp/\v=VY b sz)
 |.itr hm h,v=>v.oneCell'=true/\(∃l,m hm=some l)/\∃loc,m h=some loc/\(loc≠.dead->∃b sz fp,loc=.atx b sz fp/\v=.pointer (some ⟨b,0,none⟩))
 |.nsl h k off len,v=>v.oneCell'=true/\∃loc,m h=some loc/\(loc≠.dead->ZA loc k off len v)
 |.nptr h k ix off,v=>v.oneCell'=true/\∃loc,m h=some loc/\(loc≠.dead->∃b sz fp,loc=.atx b sz fp/\v=.pointer (some ⟨b,ix*k+off,none⟩))
 |.sc,v=>v.oneCell'=true
 |.ab,v=>∃b:Bool,v=.bool b
 |.ptr h off,v=>v.oneCell'=true/\∃loc,m h=some loc/\(loc≠.dead->∃b sz,loc=.at_ b sz/\v=.pointer (some ⟨b,off,none⟩))
 |.eptr h k ix off,v=>v.oneCell'=true/\∃loc,m h=some loc/\(loc≠.dead->∃b sz,loc=.at_ b sz/\v=.pointer (some ⟨b,ix*k+off,none⟩))
 |.rop ds,v=>∃b o,v=.pointer (some ⟨b,o,none⟩)/\DV.cells G (G b) o ds
 |.fl es,v=>DV.aq G (.L es) v/\∃a,v=.slice a es.length es.length
 |.sl h k off len,v=>v.oneCell'=true/\∃loc,m h=some loc/\(loc≠.dead->Ce loc k off len v)
 |.slk h k off len cap,v=>v.oneCell'=true/\∃loc,m h=some loc/\(loc≠.dead->HU loc k off len cap v)
 |.agg cs,v=>∃vs:Array Value,v=.agg vs/\AV.bb G m cs vs.toList
 |.cn cs,v=>∃vs:Array Value,v=.tuple vs/\AV.bb G m cs vs.toList
 |.clo f cs,v=>∃vs:Array Value,v=.func (.func f) #[] vs/\AV.bb G m cs vs.toList
def AV.bb(G:Gh)(m:HM):List AV->List Value->Prop
 |[],vs=>vs=[]
 |a::as,vs=>∃v vs',vs=v::vs'/\AV.aq G m a v/\AV.bb G m as vs'
end
def Gh.le(G G':Gh):Prop:=∀b o v,G b o=some v->G' b o=some v
theorem Gh.le.refl(G:Gh):Gh.le G G:=fun _ _ _ h=>h
theorem Gh.le.trans{G G' G'':Gh}(h:Gh.le G G')(h':Gh.le G' G''):Gh.le G G'':=fun b o v q=>h' b o v (h b o v q)
mutual
theorem DV.aq.mono{G G':Gh}(h:Gh.le G G'):∀(d:DV) (v:Value),DV.aq G d v->DV.aq G' d v
 |.B _,_,q=>q
 |.I _ _,_,q=>q
 |.S _,_,q=>q
 |.C _,_,q=>q
 |.L es,v,q=>by unfold DV.aq at q|-;obtain⟨a,cap,h1,h2,h3,h4⟩:=q;exact⟨a,cap,h1,h2,h3,fun hne=>let⟨b,o,k,ha,hr⟩:=h4 hne;⟨b,o,k,ha,DV.rows.mono h (fun i v=>h b i v) k o es hr⟩⟩
theorem DV.rows.mono{G G':Gh}(h:Gh.le G G'){f f':Nat->Option Value}(hf:∀i v,f i=some v->f' i=some v)(k:Nat):∀(o:Nat) (es:List (List DV)),DV.rows G f k o es->DV.rows G' f' k o es
 |_,[],_=>by unfold DV.rows;trivial
 |o,e::es,q=>by unfold DV.rows at q|-;exact⟨q.1,DV.cells.mono h hf o e q.2.1,DV.rows.mono h hf k (o+k) es q.2.2⟩
theorem DV.cells.mono{G G':Gh}(h:Gh.le G G'){f f':Nat->Option Value}(hf:∀i v,f i=some v->f' i=some v):∀(o:Nat) (ds:List DV),DV.cells G f o ds->DV.cells G' f' o ds
 |_,[],_=>by unfold DV.cells;trivial
 |o,d::ds,q=>by unfold DV.cells at q|-;obtain⟨⟨v,h1,h2⟩,h3⟩:=q;exact⟨⟨v,hf _ _ h1,DV.aq.mono h d v h2⟩,DV.cells.mono h hf (o+1) ds h3⟩
end
def HM.le(m m':HM):Prop:=∀h loc,m h=some loc->(m' h=some loc\/∃b sz fp fp',loc=.atx b sz fp/\m' h=some (.atx b sz fp'))\/m' h=some .dead
theorem HM.le.refl(m:HM):HM.le m m:=fun _ _ h=>.inl (.inl h)
theorem HM.le.trans{m m' m'':HM}(h:HM.le m m')(h':HM.le m' m''):HM.le m m'':=fun x loc q=>by
 rcases h x loc q with(q|⟨b,sz,fp,fp',rfl,q2⟩)|q
 ·exact h' x loc q
 ·rcases h' x _ q2 with(q|⟨b',sz',fp2,fp3,e,q⟩)|q
  ·exact .inl (.inr ⟨b,sz,fp,fp',rfl,q⟩)
  ·cases e;exact .inl (.inr ⟨b,sz,fp,fp3,rfl,q⟩)
  ·exact .inr q
 ·rcases h' x _ q with(q|⟨b',sz',fp2,fp3,e,q⟩)|q
  ·exact .inr q
  ·cases e
  ·exact .inr q
mutual
theorem AV.aq.mono{G G':Gh}{m m':HM}(h:Gh.le G G')(hm:HM.le m m'):∀(a:AV) (v:Value),AV.aq G m a v->AV.aq G' m' a v
 |.D x,v,q=>by unfold AV.aq at q|-;exact DV.aq.mono h x v q
 |.any,_,_=>by unfold AV.aq;trivial
 |.yld _,_,q=>by unfold AV.aq at q|-;exact q
 |.gst _,_,_=>by unfold AV.aq;trivial
 |.sc,_,q=>by unfold AV.aq at q|-;exact q
 |.ab,_,q=>by unfold AV.aq at q|-;exact q
 |.ptr hd off,v,q=>by
  unfold AV.aq at q|-;obtain⟨h0,loc,h1,h2⟩:=q;rcases hm hd loc h1 with(h3|⟨b,sz,fp,fp',rfl,h3⟩)|h3
  ·exact⟨h0,loc,h3,h2⟩
  ·exact absurd (h2 (fun e=>by cases e)) (fun⟨_,_,e,_⟩=>by cases e)
  ·exact⟨h0,_,h3,fun h=>absurd rfl h⟩
 |.eptr hd k ix off,v,q=>by
  unfold AV.aq at q|-;obtain⟨h0,loc,h1,h2⟩:=q;rcases hm hd loc h1 with(h3|⟨b,sz,fp,fp',rfl,h3⟩)|h3
  ·exact⟨h0,loc,h3,h2⟩
  ·exact absurd (h2 (fun e=>by cases e)) (fun⟨_,_,e,_⟩=>by cases e)
  ·exact⟨h0,_,h3,fun h=>absurd rfl h⟩
 |.rop ds,v,q=>by
  unfold AV.aq at q|-;obtain⟨b,o,h1,h2⟩:=q;exact⟨b,o,h1,DV.cells.mono h (fun i v=>h b i v) o ds h2⟩
 |.fl es,v,q=>by
  unfold AV.aq at q|-;exact⟨DV.aq.mono h _ v q.1,q.2⟩
 |.sl hd k off len,v,q=>by
  unfold AV.aq at q|-;obtain⟨h0,loc,h1,h2⟩:=q;rcases hm hd loc h1 with(h3|⟨b,sz,fp,fp',rfl,h3⟩)|h3
  ·exact⟨h0,loc,h3,h2⟩
  ·exact⟨h0,_,h3,fun _=>by
   rcases h2 (fun e=>by cases e)with⟨a,e1,e2⟩|⟨_,_,_,e,_⟩
   ·exact .inl ⟨a,e1,e2⟩
   ·cases e⟩
  ·exact⟨h0,_,h3,fun h=>absurd rfl h⟩
 |.slk hd k off len cap,v,q=>by
  unfold AV.aq at q|-;obtain⟨h0,loc,h1,h2⟩:=q;rcases hm hd loc h1 with(h3|⟨b,sz,fp,fp',rfl,h3⟩)|h3
  ·exact⟨h0,loc,h3,h2⟩
  ·exact absurd (h2 (fun e=>by cases e)) (fun⟨_,_,e,_⟩=>by cases e)
  ·exact⟨h0,_,h3,fun h=>absurd rfl h⟩
 |.mref hd,v,q=>by
  unfold AV.aq at q|-;obtain⟨h0,loc,h1,h2⟩:=q;rcases hm hd loc h1 with(h3|⟨b,sz,fp,fp',rfl,h3⟩)|h3
  ·exact⟨h0,loc,h3,h2⟩
  ·obtain⟨_,_,_,e,h4⟩:=h2 (fun e=>by cases e);cases e;exact⟨h0,_,h3,fun _=>⟨b,sz,fp',rfl,h4⟩⟩
  ·exact⟨h0,_,h3,fun h=>absurd rfl h⟩
 |.itr hd0 hd,v,q=>by
  unfold AV.aq at q|-;obtain⟨h0,⟨l0,g0⟩,loc,h1,h2⟩:=q;have g1:∃l,m' hd0=some l:=by rcases hm hd0 l0 g0 with(h3|⟨b,sz,fp,fp',_,h3⟩)|h3<;>exact⟨_,h3⟩
  rcases hm hd loc h1 with(h3|⟨b,sz,fp,fp',rfl,h3⟩)|h3
  ·exact⟨h0,g1,loc,h3,h2⟩
  ·obtain⟨_,_,_,e,h4⟩:=h2 (fun e=>by cases e);cases e;exact⟨h0,g1,_,h3,fun _=>⟨b,sz,fp',rfl,h4⟩⟩
  ·exact⟨h0,g1,_,h3,fun h=>absurd rfl h⟩
 |.nptr hd k ix off,v,q=>by
  unfold AV.aq at q|-;obtain⟨h0,loc,h1,h2⟩:=q;rcases hm hd loc h1 with(h3|⟨b,sz,fp,fp',rfl,h3⟩)|h3
  ·exact⟨h0,loc,h3,h2⟩
  ·obtain⟨_,_,_,e,h4⟩:=h2 (fun e=>by cases e);cases e;exact⟨h0,_,h3,fun _=>⟨b,sz,fp',rfl,h4⟩⟩
  ·exact⟨h0,_,h3,fun h=>absurd rfl h⟩
 |.nsl hd k off len,v,q=>by
  unfold AV.aq at q|-;obtain⟨h0,loc,h1,h2⟩:=q;rcases hm hd loc h1 with(h3|⟨b,sz,fp,fp',rfl,h3⟩)|h3
  ·exact⟨h0,loc,h3,h2⟩
  ·refine⟨h0,_,h3,fun _=>?_⟩;rcases h2 (fun e=>by cases e)with⟨a,e1,e2⟩|⟨_,_,_,cap,e,e1,e2,e3⟩
   ·exact .inl ⟨a,e1,e2⟩
   ·cases e;exact .inr ⟨b,sz,fp',cap,rfl,e1,e2,e3⟩
  ·exact⟨h0,_,h3,fun h=>absurd rfl h⟩
 |.agg cs,v,q=>by
  unfold AV.aq at q|-;obtain⟨vs,h1,h2⟩:=q;exact⟨vs,h1,AV.bb.mono h hm cs _ h2⟩
 |.cn cs,v,q=>by
  unfold AV.aq at q|-;obtain⟨vs,h1,h2⟩:=q;exact⟨vs,h1,AV.bb.mono h hm cs _ h2⟩
 |.clo f cs,v,q=>by unfold AV.aq at q|-;obtain⟨vs,h1,h2⟩:=q;exact⟨vs,h1,AV.bb.mono h hm cs _ h2⟩
theorem AV.bb.mono{G G':Gh}{m m':HM}(h:Gh.le G G')(hm:HM.le m m'):∀(as:List AV) (vs:List Value),AV.bb G m as vs->AV.bb G' m' as vs
 |[],_,q=>by unfold AV.bb at q|-;exact q
 |a::as,vs,q=>by unfold AV.bb at q|-;obtain⟨v,vs',h1,h2,h3⟩:=q;exact⟨v,vs',h1,AV.aq.mono h hm a v h2,AV.bb.mono h hm as vs' h3⟩
end
end Go.Eng
namespace Go.Eng
def za:List Int:=[1116352408,1899447441,3049323471,3921009573,961987163,1508970993,2453635748,2870763221,3624381080,310598401,607225278,1426881987,1925078388,2162078206,2614888103,3248222580,3835390401,4022224774,264347078,604807628,770255983,1249150122,1555081692,1996064986,2554220882,2821834349,2952996808,3210313671,3336571891,3584528711,113926993,338241895,666307205,773529912,1294757372,1396182291,1695183700,1986661051,2177026350,2456956037,2730485921,2820302411,3259730800,3345764771,3516065817,3600352804,4094571909,275423344,430227734,506948616,659060556,883997877,958139571,1322822218,1537002063,1747873779,1955562222,2024104815,2227730452,2361852424,2428436474,2756734187,3204031479,3329325298]
def sw:Nat→Option (List DV)
  |0=>some (za.map (DV.I .u32))
  |_=>none
end Go.Eng
namespace Go.Eng
open Go.RowKit
variable{G G':Gh}{w w':World}{m m':HM}{v z:Value}{lk lk2 lk':bJ}{b k sz n off o clk:Nat}{T e:TypeId}{x y:Operand}{f g f':Nat->Option Value}{h:Hd}{a r:AV}{vs:Array Value}{P:Program}{bl:bn}{es:List (List DV)}{i:TypeInfo}{R R':Value->World->Prop}{ρ:Operand->Value}{fp:List Nat}{nbs:List bn}{K':AV->Prop}{args cs:List AV}{d:TypeDesc}{loc:Loc}{mt ld:Bool}{ψ:Hd->Hd}{ks:List Bool}{fn:FuncId}{c:Call}{oh og:Nat->Prop}{arr:Array MapEntry}{b':Option bn}{s:Sem Value}{a':Option Loc}{fr:Nat×Nat}{φ:Hd->Option Hd}{X:(Array Value)->World->(Value->World->Prop)->Prop}{ds:List DV}{ag:Option Nat}{lo hi:Option Operand}{fz:List Hd}{ps:Array (Nat×Operand)}
def jJ:Value->AV
 |.bool x=>.D (.B x)
 |.int k n=>.D (.I k n)
 |.string s=>.D (.S s.data.toList)
 |.slice none 0 0=>.fl []
 |.agg cs=>.agg (cs.toList.map fun v=>match v with
  |.bool x=>.D (.B x)
  |.int k n=>.D (.I k n)
  |.string s=>.D (.S s.data.toList)
  |.slice none 0 0=>.fl []
  |v=>.D (.C v))
 |v=>.D (.C v)
def Sf(env:Nat->AV):Operand->AV
 |.tmp t=>env t
 |.const v=>jJ v
 |.func f=>.clo f []
 |.global g=>match sw g with
  |some ds=>.rop ds
  |none=>.any
theorem J8{G:Gh}{m:HM}{g:Value->AV}(hg:∀v,AV.aq G m (g v) v):∀(vs:List Value),AV.bb G m (vs.map g) vs
 |[]=>by simp[AV.bb]
 |v::vs=>by simp only[aaM];unfold AV.bb;exact⟨v,vs,rfl,hg v,J8 hg vs⟩
theorem tP(G:Gh)(m:HM)(v:Value):AV.aq G m (jJ v) v:=by
 unfold jJ;split
 ·simp[AV.aq,DV.aq]
 ·simp[AV.aq,DV.aq]
 ·simp[AV.aq,DV.aq]
 ·simp only[AV.aq,DV.aq];exact⟨⟨none,0,rfl,me _,fun _=>rfl,fun h=>absurd rfl h⟩,none,rfl⟩
 ·simp only[AV.aq];refine⟨_,rfl,J8 (fun v=>?_) _⟩;split
  ·simp[AV.aq,DV.aq]
  ·simp[AV.aq,DV.aq]
  ·simp[AV.aq,DV.aq]
  ·simp only[AV.aq,DV.aq];exact⟨⟨none,0,rfl,me _,fun _=>rfl,fun h=>absurd rfl h⟩,none,rfl⟩
  ·simp[AV.aq,DV.aq]
 ·simp[AV.aq,DV.aq]
def Bw:AV->AV
 |.fl []=>.D (.L [])
 |a=>a
def qG(v:Value):AV:=match jJ v with
 |.agg cs=>.agg (cs.map Bw)
 |a=>Bw a
theorem OA(h:AV.aq G m a v):AV.aq G m (Bw a) v:=by
 unfold Bw;split
 ·unfold AV.aq at h|-;exact h.1
 ·exact h
theorem MW{G:Gh}{m:HM}:∀{as:List AV} {vs:List Value},AV.bb G m as vs->AV.bb G m (as.map Bw) vs
 |[],_,h=>h
 |a::as,vs,h=>by unfold AV.bb at h;obtain⟨v,vs',rfl,h1,h2⟩:=h;simp only[aaM];unfold AV.bb;exact⟨v,vs',rfl,OA h1,MW h2⟩
theorem Vf(G:Gh)(m:HM)(v:Value):AV.aq G m (qG v) v:=by
 have h:=tP G m v;unfold qG;split
 ·rename_i cs e;rw[e]at h;unfold AV.aq at h|-;obtain⟨vs,h1,h2⟩:=h;exact⟨vs,h1,MW h2⟩
 ·exact OA h
def iP:Value->DV
 |.bool x=>.B x
 |.int k n=>.I k n
 |.string s=>.S s.data.toList
 |.slice none 0 0=>.L []
 |v=>.C v
mutual
def AV.cg(ψ:Hd->Hd):AV->AV
 |.ptr h off=>.ptr (ψ h) off
 |.eptr h k ix off=>.eptr (ψ h) k ix off
 |.sl h k off len=>.sl (ψ h) k off len
 |.slk h k off len cap=>.slk (ψ h) k off len cap
 |.mref h=>.mref (ψ h)
 |.itr hm h=>.itr (ψ hm) (ψ h)
 |.nsl h k off len=>.nsl (ψ h) k off len
 |.nptr h k ix off=>.nptr (ψ h) k ix off
 |.agg cs=>.agg (AV.dh ψ cs)
 |.cn cs=>.cn (AV.dh ψ cs)
 |.clo f cs=>.clo f (AV.dh ψ cs)
 |.D x=>.D x
 |.any=>.any
 |.yld l=>.yld l
 |.gst c=>.gst c
 |.sc=>.sc
 |.ab=>.ab
 |.rop ds=>.rop ds
 |.fl es=>.fl es
def AV.dh(ψ:Hd->Hd):List AV->List AV
 |[]=>[]
 |a::as=>AV.cg ψ a::AV.dh ψ as
end
def bn.cg(ψ:Hd->Hd):bn->bn
 |.box cs=>.box (AV.dh ψ cs)
 |.row mt k es=>.row mt k es
 |.nst k es=>.nst k es
 |.sb T us es=>.sb T us es
 |.mp kd es i=>.mp kd es (i.map fun p=>(ψ p.1,p.2))
 |.it=>.it
mutual
def AV.conv(lk:bJ)(φ:Hd->Option Hd):AV->AV
 |.ptr h off=>match φ h with
  |some h'=>.ptr h' off
  |none=>.sc
 |.eptr h k ix off=>match φ h with
  |some h'=>.eptr h' k ix off
  |none=>.sc
 |.sl h k off len=>match φ h with
  |some h'=>.sl h' k off len
  |none=>match lk h with
   |some (.row _ k' es)=>if k'=k/\off+len<=es.length then .D (.L ((es.drop off).take len))else .sc
   |_=>.sc
 |.slk h k off len cap=>match φ h with
  |some h'=>.slk h' k off len cap
  |none=>match lk h with
   |some (.row _ k' es)=>if k'=k/\off+len<=es.length then .D (.L ((es.drop off).take len))else .sc
   |_=>.sc
 |.mref h=>match φ h with
  |some h'=>.mref h'
  |none=>.sc
 |.itr hm h=>match φ hm,φ h with
  |some hm',some h'=>.itr hm' h'
  |_,_=>.sc
 |.nsl h k off len=>match φ h with
  |some h'=>.nsl h' k off len
  |none=>.sc
 |.nptr h k ix off=>match φ h with
  |some h'=>.nptr h' k ix off
  |none=>.sc
 |.agg cs=>.agg (AV.bq lk φ cs)
 |.cn cs=>.cn (AV.bq lk φ cs)
 |.clo f cs=>.clo f (AV.bq lk φ cs)
 |.D x=>.D x
 |.any=>.any
 |.yld l=>.yld l
 |.gst c=>.gst c
 |.sc=>.sc
 |.ab=>.ab
 |.rop ds=>.rop ds
 |.fl es=>.D (.L es)
def AV.bq(lk:bJ)(φ:Hd->Option Hd):List AV->List AV
 |[]=>[]
 |a::as=>AV.conv lk φ a::AV.bq lk φ as
end
def AV.kp:AV->AV->AV
 |.fl es,_=>.fl es
 |_,c=>c
def AV.ft(lk:bJ):List Bool->List AV->List AV
 |true::ks,a::as=>AV.kp a (AV.conv lk (fun _=>none) a)::AV.ft lk ks as
 |false::ks,a::as=>AV.conv lk (fun _=>none) a::AV.ft lk ks as
 |[],as=>AV.bq lk (fun _=>none) as
 |_::_,[]=>[]
def bn.conv(lk:bJ)(φ:Hd->Option Hd):bn->bn
 |.box cs=>.box (AV.bq lk φ cs)
 |.row mt k es=>.row mt k es
 |.nst k es=>.nst k es
 |.sb T us es=>.sb T us es
 |.mp kd es i=>.mp kd es (i.bind fun p=>(φ p.1).map fun h=>(h,p.2))
 |.it=>.it
mutual
def AV.rows:AV->List Hd
 |.sl h _ _ _=>[h]
 |.slk h _ _ _ _=>[h]
 |.agg cs=>AV.cm cs
 |.cn cs=>AV.cm cs
 |.clo _ cs=>AV.cm cs
 |_=>[]
def AV.cm:List AV->List Hd
 |[]=>[]
 |a::as=>AV.rows a++AV.cm as
end
def DV.flat:DV->Bool
 |.L _=>false
 |_=>true
mutual
def AV.flat:AV->Bool
 |.D x=>x.flat
 |.any=>true
 |.yld _=>true
 |.gst _=>true
 |.sc=>true
 |.ab=>true
 |.agg cs=>AV.dj cs
 |.cn cs=>AV.dj cs
 |_=>false
def AV.dj:List AV->Bool
 |[]=>true
 |a::as=>AV.flat a&&AV.dj as
end
mutual
def AV.dm:AV->Bool
 |.sl _ _ _ _=>true
 |.D x=>x.flat
 |.any=>true
 |.sc=>true
 |.ab=>true
 |.agg cs=>AV.dq cs
 |.cn cs=>AV.dq cs
 |_=>false
def AV.dq:List AV->Bool
 |[]=>true
 |a::as=>AV.dm a&&AV.dq as
end
def bn.ku:bn->Bool
 |.row true _ es=>es.all fun e=>e.all DV.flat
 |_=>false
def Aa(z:Bool)(l:List Hd):List Hd:=match z with
 |true=>[]
 |false=>l
def bn.jo:bn->bn
 |.row _ k es=>.row false k es
 |b=>b
def bn.kf:bn->bn
 |.row _ k es=>.row true k es
 |b=>b
theorem yN{o:Option bn}{b:bn}(h:o.map bn.kf=some b):∃b',o=some b'/\(b'=b\/b'=b.jo):=by
 cases o with
 |none=>cases h
 |some c=>
  cases h;cases c with
  |row mt k es=>
   cases mt
   ·exact⟨_,rfl,.inr rfl⟩
   ·exact⟨_,rfl,.inl rfl⟩
  |_=>exact⟨_,rfl,.inl rfl⟩
def fo(lk:bJ)(hs:List Hd):bJ:=fun h=>if h∈hs then(lk h).map bn.jo else lk h
def ij(lk:bJ)(n:Nat)(nbs:List bn):bJ:=fun h=>
 match h with
 |.O i=>if n<=i/\i<n+nbs.length then nbs[i-n]?else lk h
 |.B _=>lk h
def gH(bs:List (Option bn))(nbs:List bn):bJ
 |.B i=>(bs[i]?).join
 |.O i=>nbs[i]?
def Own(m:HM)(b:Nat):Prop:=∃h loc,m h=some loc/\b∈loc.ga
theorem Own.at_{m:HM}{h:Hd}{b sz:Nat}(hm:m h=some (.at_ b sz)):Own m b:=⟨h,_,hm,aai.2 rfl⟩
theorem Own.no(b:Nat):¬Own (fun _=>none) b:=fun⟨_,_,h,_⟩=>by cases h
def bg(G:Gh)(m:HM):bn->Nat->Nat->World->Prop
 |.box cs,b,sz,w=>∃(vs:Array Value) (T:TypeId),w.heap[b]?=some (.cells vs T (0,0))/\vs.size=sz/\AV.bb G m cs vs.toList/\∀o,G b o=none
 |.row true k es,b,sz,w=>∃(vs:Array Value) (T:TypeId),w.heap[b]?=some (.cells vs T (0,0))/\vs.size=sz/\es.length*k<=sz/\DV.rows G (fun o=>vs[o]?) k 0 es/\∀o,G b o=none
 |.row false k es,b,sz,w=>∃(vs:Array Value) (T:TypeId),w.heap[b]?=some (.cells vs T (0,0))/\vs.size=sz/\es.length*k<=sz/\DV.rows G (G b) k 0 es/\∀o,es.length*k<=o->G b o=none
 |.nst _ _,_,_,_=>False
 |.sb _ _ _,_,_,_=>False
 |.mp _ _ _,_,_,_=>False
 |.it,_,_,_=>False
def fa(G:Gh)(mt:Bool)(k:Nat)(es:List (List DV))(v:Value)(f:List Nat)(w:World):Prop:=
 (∃a,v=.slice a 0 0/\es=[]/\f=[])\/
 ∃b sz cap,f=[b]/\v=.slice (some ⟨b,0,none⟩) es.length cap/\es.length<=cap/\cap*k<=sz/\bg G (fun _=>none) (.row mt k es) b sz w
def lg(G:Gh)(Te:TypeId)(es:List (List DV))(v:Value)(f:List Nat)(w:World):Prop:=
 (v=.slice none 0 0/\es=[]/\f=[])\/
 ∃g cap,f=[g]/\v=.slice (some ⟨g,0,none⟩) es.length cap/\es.length<=cap/\cap<=9223372036854775807/\bg G (fun _=>none) (.row true 1 es) g cap w/\∃vs,w.heap[g]?=some (.cells vs Te (0,0))
def ND.aq(G:Gh):ND->Value->List Nat->World->Prop
 |.d x,u,f,_=>f=[]/\DV.aq G x u
 |.o mt k es,u,f,w=>fa G mt k es u f w
 |.hole,u,f,_=>f=[]/\u.oneCell'=true
def iu(G:Gh)(g:Nat->Option Value):Nat->List ND->List Nat->World->Prop
 |_,[],fp,_=>fp=[]
 |o,d::ds,fp,w=>∃v f fp',g o=some v/\fp=f++fp'/\ND.aq G d v f w/\iu G g (o+1) ds fp' w
def jm(G:Gh)(g:Nat->Option Value)(k:Nat):Nat->List (List ND)->List Nat->World->Prop
 |_,[],fp,_=>fp=[]
 |o,e::es,fp,w=>e.length=k/\∃f fp',fp=f++fp'/\iu G g o e f w/\jm G g k (o+k) es fp' w
def MV.aq(G:Gh):MV->Value->List Nat->World->Prop
 |.v a,u,f,_=>f=[]/\AV.aq G (fun _=>none) a u
 |.o k es,u,f,w=>fa G false k es u f w
 |.ow k es,u,f,w=>fa G true k es u f w
def dk(G:Gh):List (AV×MV)->List MapEntry->List Nat->World->Prop
 |[],xs,fp,_=>xs=[]/\fp=[]
 |e::es,xs,fp,w=>∃x xs' f fp',xs=x::xs'/\fp=f++fp'/\AV.aq G (fun _=>none) e.1 x.key/\MV.aq G e.2 x.val f w/\dk G es xs' fp' w
def jw(G:Gh):List AV->List MapEntry->Prop
 |[],xs=>xs=[]
 |a::as,xs=>∃x xs',xs=x::xs'/\AV.aq G (fun _=>none) a x.key/\jw G as xs'
def jk(G:Gh)(m:HM)(it:Option (Hd×List AV×List AV))(b:Nat)(arr:Array MapEntry)(clk:Nat)(w:World):Prop:=
 ∀hi q,it=some (hi,q)->∃loc,m hi=some loc/\(loc≠.dead->∃bi sz fp seen l,loc=.atx bi sz fp/\w.heap[bi]?=some (.mapIter (some b) clk seen clk)/\
  l.Perm (arr.toList.filter fun e=>!seen.contains e.born)/\jw G q.2 l/\∀key,q.1=[key]->∃e∈arr.toList,seen.back?=some e.born/\AV.aq G (fun _=>none) key e.key)
def c9(G:Gh)(m:HM):bn->Nat->Nat->List Nat->World->Prop
 |.sb T us es,b,sz,fp,w=>(b::fp).Nodup/\sz=2/\∃v,w.heap[b]?=some (.cells #[.pointer (if us=true then some ⟨b,0,none⟩else none),v] T.1 (0,0))/\lg G T.2 es v fp w/\∀o,G b o=none
 |.nst k es,b,sz,fp,w=>(b::fp).Nodup/\∃(vs:Array Value) (T:TypeId),w.heap[b]?=some (.cells vs T (0,0))/\vs.size=sz/\es.length*k<=sz/\jm G (fun o=>vs[o]?) k 0 es fp w/\∀o,G b o=none
 |.mp kd es it,b,sz,fp,w=>sz=0/\fp.Nodup/\∃arr clk,w.heap[b]?=some (.map arr clk)/\MapKept.Stamped arr clk/\(∀x∈arr.toList,mV kd x.key)/\dk G es arr.toList fp w/\jk G m it b arr clk w
 |.it,b,sz,fp,w=>sz=0/\fp=[]/\∃a c d e,w.heap[b]?=some (.mapIter a c d e)
 |_,_,_,_,_=>False
def nt(G:Gh):Prop:=∀g ds,sw g=some ds->DV.cells G (G g) 0 ds
theorem nt.mono{G G':Gh}(h:Gh.le G G')(hG:nt G):nt G':=fun g ds e=>DV.cells.mono h (fun i v=>h g i v) 0 ds (hG g ds e)
structure cf (G:Gh) (m:HM) (lk:bJ) (w:World):Prop where
 fh:∀h b sz,m h=some (.at_ b sz)->∃bl,lk h=some bl/\bg G m bl b sz w
 nil:∀h,m h=some .none->∃mt k,lk h=some (.row mt k [])
 da:∀h h' l l' b,m h=some l->m h'=some l'->b∈l.ga->b∈l'.ga->h=h'
 gh:∀b o v,G b o=some v->w.cell? ⟨b,o,none⟩=some v
 dead:∀h,m h=some .dead->lk h=none
 gl:nt G
 di:∀h b sz fp,m h=some (.atx b sz fp)->∃bl,lk h=some bl/\c9 G m bl b sz fp w
theorem cf.inj(h:cf G m lk w):∀x y b sz sz',m x=some (.at_ b sz)->m y=some (.at_ b sz')->x=y:=fun x y b sz sz' h1 h2=>h.da x y _ _ b h1 h2 (aai.2 rfl) (aai.2 rfl)
def TD(w w':World):Prop:=w'.tape=w.tape/\w.drawn<=w'.drawn
theorem TD.same(h:w'.tape=w.tape)(h':w'.drawn=w.drawn):TD w w':=⟨h,Nat.le_of_eq h'.symm⟩
theorem TD.trans{w w' w'':World}(h:TD w w')(h':TD w' w''):TD w w'':=⟨h'.1.trans h.1,aaG h.2 h'.2⟩
theorem TD.drew{w w':World}(h:TD w w'):TD w w'.drew:=⟨h.1,Nat.le_succ_of_le h.2⟩
structure Fr (oh og:Nat->Prop) (G G':Gh) (w w':World):Prop where
 os:w'.os=w.os
 tape:TD w w'
 output:w'.output=w.output
 size:w.heap.size<=w'.heap.size
 heap:∀b,b<w.heap.size->¬oh b->w'.heap[b]?=w.heap[b]?
 gh:∀b,b<w.heap.size->¬og b->∀o,G' b o=G b o
 le:Gh.le G G'
theorem Fr.refl(oh og:Nat->Prop)(G:Gh)(w:World):Fr oh og G G w w:=⟨rfl,.same rfl rfl,rfl,me _,fun _ _ _=>rfl,fun _ _ _ _=>rfl,Gh.le.refl G⟩
theorem Fr.trans{oh og:Nat->Prop}{G G' G'':Gh}{w w' w'':World}(h:Fr oh og G G' w w')(h':Fr oh og G' G'' w' w''):Fr oh og G G'' w w'':=
  ⟨h'.os.trans h.os,h.tape.trans h'.tape,h'.output.trans h.output,aaG h.size h'.size,
   fun b hb ho=>(h'.heap b (aa6 hb h.size) ho).trans (h.heap b hb ho),
   fun b hb ho o=>(h'.gh b (aa6 hb h.size) ho o).trans (h.gh b hb ho o),h.le.trans h'.le⟩
theorem Fr.mono{oh' og':Nat->Prop}(h:Fr oh og G G' w w')(h1:∀b,b<w.heap.size->oh b->oh' b)(h2:∀b,b<w.heap.size->og b->og' b):Fr oh' og' G G' w w':=
 ⟨h.os,h.tape,h.output,h.size,fun b hb ho=>h.heap b hb (fun q=>ho (h1 b hb q)),fun b hb ho=>h.gh b hb (fun q=>ho (h2 b hb q)),h.le⟩
def dw(a a':Option Loc):Prop:=a'=a\/(a≠none/\a'=some .dead)\/∃b sz fp fp',a=some (.atx b sz fp)/\a'=some (.atx b sz fp')
theorem dw.refl(a:Option Loc):dw a a:=.inl rfl
theorem dw.trans{a a'':Option Loc}(h:dw a a')(h':dw a' a''):dw a a'':=by
 rcases h with rfl|⟨h1,rfl⟩|⟨b,sz,fp,fp',rfl,rfl⟩
 ·exact h'
 ·rcases h' with rfl|⟨_,rfl⟩|⟨b,sz,fp,fp',e,_⟩
  ·exact .inr (.inl ⟨h1,rfl⟩)
  ·exact .inr (.inl ⟨h1,rfl⟩)
  ·cases e
 ·rcases h' with rfl|⟨_,rfl⟩|⟨b',sz',fp2,fp3,e,rfl⟩
  ·exact .inr (.inr ⟨b,sz,fp,fp',rfl,rfl⟩)
  ·exact .inr (.inl ⟨(fun e=>by cases e),rfl⟩)
  ·cases e;exact .inr (.inr ⟨b,sz,fp,fp3,rfl,rfl⟩)
theorem dw.none{a a':Option Loc}(h:dw a a')(e:a=none):a'=none:=by
 subst e;rcases h with rfl|⟨h1,_⟩|⟨_,_,_,_,h1,_⟩
 ·rfl
 ·exact absurd rfl h1
 ·cases h1
theorem dw.le(q:dw (m h) (m' h))(hl:m h=some loc):(m' h=some loc\/∃b sz fp fp',loc=.atx b sz fp/\m' h=some (.atx b sz fp'))\/m' h=some .dead:=by
 rcases q with e|⟨_,e⟩|⟨b,sz,fp,fp',e1,e2⟩
 ·exact .inl (.inl (e.trans hl))
 ·exact .inr e
 ·rw[hl]at e1;cases e1;exact .inl (.inr ⟨b,sz,fp,fp',rfl,e2⟩)
def pZ(w:World)(G:Gh)(m:HM)(lk':bJ)(r:AV)(v:Value)(w':World):Prop:=
 ∃G' m',cf G' m' lk' w'/\AV.aq G' m' r v/\Fr (Own m) (Own m) G G' w w'/\
  (∀i,dw (m (.B i)) (m' (.B i)))/\
  (∀h l b,m' h=some l->b∈l.ga->w.heap.size<=b\/Own m b)/\(∀i,lk' (.O i)=none->m' (.O i)=none)
def x7(P:Program)(f:FuncId):Prop:=∃fd,P.funcs[f]?=some fd/\fd.body.isSome=true/\(fd.name== "runtime.NumGoroutine")=false
def db(P:Program)(f:FuncId)(vs:Array Value)(w:World)(R:Value->World->Prop):Prop:=
 (x7 P f/\Calls P f vs w fun e w'=>∃v,e=.returned v/\R v w')\/∃v w',(callFunc f vs).run P w=.ok (.value v) w'/\R v w'
theorem db.mono{P:Program}{f:FuncId}{vs:Array Value}{w:World}{R R':Value->World->Prop}(h:db P f vs w R)(hr:∀v w',R v w'->R' v w'):db P f vs w R':=by
 rcases h with⟨h1,h2⟩|⟨v,w',h1,h2⟩
 ·exact .inl ⟨h1,h2.mono fun e w' ⟨v,he,h⟩=>⟨v,he,hr _ _ h⟩⟩
 ·exact .inr ⟨v,w',h1,hr _ _ h2⟩
def de(P:Program)(f:FuncId)(args:List AV)(bs:List (Option bn))(r:AV)(bs':List (Option bn))(nbs:List bn):Prop:=
 ∀(w:World) (G:Gh) (m:HM) (vs:Array Value),cf G m (gH bs []) w->(∀i,m (.O i)=none)->AV.bb G m args vs.toList->
  db P f vs w fun v w'=>pZ w G m (gH bs' nbs) r v w'
def ic(P:Program)(f:FuncId)(pv:Value)(vs:Array Value)(w:World)(R:Value->World->Prop):Prop:=
 x7 P f/\Calls P f vs w fun e w'=>e=.panicked [{v:=pv,recovered:=false}]/\R undef w'
theorem ic.mono{P:Program}{f:FuncId}{pv:Value}{vs:Array Value}{w:World}{R R':Value->World->Prop}(h:ic P f pv vs w R)(hr:∀v w',R v w'->R' v w'):ic P f pv vs w R':=
 ⟨h.1,h.2.mono fun _ _ ⟨he,h⟩=>⟨he,hr _ _ h⟩⟩
def wj(P:Program)(f:FuncId)(args:List AV)(pv:Value):Prop:=
 ∀(w:World) (G:Gh) (m:HM) (vs:Array Value),cf G m (gH [] []) w->(∀i,m (.O i)=none)->AV.bb G m args vs.toList->
  ic P f pv vs w fun v w'=>pZ w G m (gH [] []) .any v w'
inductive Sh where
 |s (kd:Nat)
 |a (k:IntKind) (m:Nat)
 deriving DecidableEq,Inhabited
inductive bu where
 |mv (x:Operand)
 |pick (c a b:Operand)
 |new (zs:List AV)
 |box (x:Operand)
 |build (zs:List AV) (ps:List (Nat×Nat×Operand))
 |stop
 |bslice (k:Nat) (ps:List Operand)
 |bsF (k:Nat) (ps:List Operand)
 |load (ag:Option Nat) (x:Operand)
 |store (sz:Nat) (a x:Operand)
 |bin (op:BinOp) (x y:Operand)
 |eqs (neg:Bool) (kds:List Nat) (x y:Operand)
 |beq (neg:Bool) (x y:Operand)
 |un (op:UnOp) (x:Operand)
 |faddr (off:Nat) (x:Operand)
 |field (off:Nat) (ag:Option Nat) (x:Operand)
 |iaddr (k:Nat) (x i:Operand)
 |sls (x:Operand) (lo hi:Option Operand)
 |sll (k:Nat) (x:Operand) (lo hi mx:Option Operand)
 |ixs (x i:Operand)
 |ext (x:Operand) (i:Nat)
 |call (f:Operand) (args:List Operand)
 |len (str:Bool) (x:Operand)
 |app (k bytes:Nat) (x y:Operand)
 |mm (isMax:Bool) (x y:Operand)
 |mkf (f:Nat) (caps:List Operand)
 |isnil (neg:Bool) (x:Operand)
 |cvI (k:IntKind) (x:Operand)
 |cvS (x:Operand)
 |appE (k bytes:Nat) (x y:Operand)
 |callE (f:Operand) (args:List Operand)
 |loadS (ag:Option Nat) (x:Operand)
 |faddrS (off:Nat) (x:Operand)
 |nilcS (x:Operand)
 |lenS (str:Bool) (x:Operand)
 |sllS (k:Nat) (x:Operand) (lo hi mx:Option Operand)
 |clr (k:Nat) (zs:List DV) (x:Operand)
 |cpy (k:Nat) (x y:Operand)
 |mks (k bytes:Nat) (zs:List DV) (x y:Operand)
 |capK (x:Operand)
 |appZ (k bytes:Nat) (zs:List DV) (x y:Operand)
 |iaddrA (n k:Nat) (x i:Operand)
 |idxA (n k:Nat) (ag:Option Nat) (x i:Operand)
 |slsA (n:Nat) (x:Operand) (lo hi:Option Operand)
 |arrP (n:Nat) (x:Operand)
 |nilc (x:Operand)
 |isp (neg:Bool) (x:Operand)
 |eqa (neg:Bool) (k:IntKind) (m:Nat) (x y:Operand)
 |eqg (neg:Bool) (sh:List Sh) (x y:Operand)
 |newR (zs:List AV)
 |boxR (x:Operand)
 |loadD (ag:Option Nat) (x:Operand)
 |iaddrD (k:Nat) (x i:Operand)
 |sllD (k:Nat) (x:Operand) (lo hi mx:Option Operand)
 |kg (x:Operand)
 |mkI (t:Nat) (x:Operand)
 |ny (x:Operand)
 |isn (neg:Bool) (x:Operand)
 |tas (t:Nat) (x:Operand)
 |callP (f:Operand) (args:List Operand)
 |mkm (kd:KD)
 |newB (T:TypeId×TypeId)
 |mkmW (kd:KD)
 |mget (kd:KD) (z:AV) (k:Nat) (ok:Bool) (x y:Operand)
 |mtake (kd:KD) (z:AV) (k:Nat) (ok:Bool) (x y:Operand)
 |mput (kd:KD) (x y z:Operand)
 |mdel (kd:KD) (x y:Operand)
 |mlen (x:Operand)
 |rng (kd:KD) (x:Operand)
 |nxt (x:Operand)
 |ent (x:Operand)
 |entT (x:Operand)
 deriving Inhabited
def bu.fu:bu->Bool
 |.store _ _ _=>true
 |.appE _ _ _ _=>true
 |.callE _ _=>true
 |.clr _ _ _=>true
 |.cpy _ _ _=>true
 |.mtake _ _ _ _ _ _=>true
 |.mput _ _ _ _=>true
 |.mdel _ _ _=>true
 |.rng _ _=>true
 |.nxt _=>true
 |.entT _=>true
 |_=>false
inductive Mk where
 |n
 |e
 |d
def Cw(m k:Nat):Operand->Option Nat
 |.const (.int _ j)=>if 0<=j/\j<m then some (j.toNat*k)else none
 |_=>none
def iY(m k:Nat)(x i:Operand):bu:=
 match Cw m k i with
 |some off=>.faddrS off x
 |none=>.iaddrA m k x i
def cE:Mk->bu->bu
 |.e,.app k b x y=>.appE k b x y
 |.e,.call f args=>.callE f args
 |.e,.load ag x=>.loadS ag x
 |.e,.faddr off x=>.faddrS off x
 |.e,.iaddrA m k x i=>iY m k x i
 |.e,.nilc x=>.nilcS x
 |.e,.len str x=>.lenS str x
 |.e,.sll k x lo hi mx=>.sllS k x lo hi mx
 |.e,.bslice k ps=>.bsF k ps
 |.e,.mget kd z k ok x y=>.mtake kd z k ok x y
 |.e,.mkm kd=>.mkmW kd
 |.e,.ent x=>.entT x
 |.d,.load ag x=>.loadD ag x
 |.d,.iaddr k x i=>.iaddrD k x i
 |.d,.sll k x lo hi mx=>.sllD k x lo hi mx
 |.d,.call f args=>.callP f args
 |_,op=>op
structure RO where
 dst:Option Nat
 op:bu
 guard:Option (Nat×Bool)
 deriving Inhabited
def AV.mu:AV->Option Hd
 |.ptr h _=>some h
 |.eptr h _ _ _=>some h
 |.sl h _ _ _=>some h
 |_=>none
def bu.mw:bu->Option Operand
 |.loadS _ x=>some x
 |.faddrS _ x=>some x
 |.nilcS x=>some x
 |.lenS _ x=>some x
 |.sllS _ x _ _ _=>some x
 |.slsA _ x _ _=>some x
 |.arrP _ x=>some x
 |_=>none
def DV.asI:DV->Option (IntKind×Int)
 |.I k n=>some (k,n)
 |_=>none
def AV.ia(h:Hd)(k ix o d:Nat):AV:=if k=1 then .eptr h 1 (ix+o+d) 0 else .eptr h k ix (o+d)
def rO(lk:bJ)(ag:Option Nat)(K:AV->Prop):AV->Prop
 |.ptr h off=>∃cs,lk h=some (.box cs)/\
  match ag with
  |none=>∃a,cs[off]?=some a/\K a
  |some n=>off+n<=cs.length/\K (.agg ((cs.drop off).take n))
 |.eptr h k ix off=>∃mt es e,lk h=some (.row mt k es)/\es[ix]?=some e/\
  match ag with
  |none=>∃x,e[off]?=some x/\K (.D x)
  |some n=>if k=1 then off=0/\ix+n<=es.length/\K (.agg ((((es.drop ix).take n).flatten).map .D))else off+n<=e.length/\K (.agg (((e.drop off).take n).map .D))
 |.rop ds=>
  match ag with
  |none=>∃x,ds[0]?=some x/\K (.D x)
  |some n=>n<=ds.length/\K (.agg ((ds.take n).map .D))
 |_=>False
def Cy(op:BinOp)(k:IntKind)(x y:Int)(K:AV->Prop):Prop:=
 match op with
 |.add=>K (.D (.I k (k.wrap (x+y))))
 |.sub=>K (.D (.I k (k.wrap (x-y))))
 |.mul=>K (.D (.I k (k.wrap (x*y))))
 |.quo=>y≠0/\K (.D (.I k (k.wrap (x.tdiv y))))
 |.rem=>y≠0/\K (.D (.I k (x.tmod y)))
 |.and=>K (.D (.I k (bits .and k x y)))
 |.or=>K (.D (.I k (bits .or k x y)))
 |.xor=>K (.D (.I k (bits .xor k x y)))
 |.andNot=>K (.D (.I k (bits .andNot k x y)))
 |.eql=>K (.D (.B (x==y)))
 |.neq=>K (.D (.B (x !=y)))
 |.lss=>K (.D (.B (decide (x<y))))
 |.leq=>K (.D (.B (decide (x<=y))))
 |.gtr=>K (.D (.B (decide (x>y))))
 |.geq=>K (.D (.B (decide (x≥y))))
 |_=>False
def D5(op:BinOp)(x y:List UInt8)(K:AV->Prop):Prop:=
 match op with
 |.add=>x.length+y.length<=9223372036854775807/\K (.D (.S (x++y)))
 |.eql=>K (.D (.B (x==y)))
 |.neq=>K (.D (.B (!(x==y))))
 |.lss=>K (.D (.B (Op.bytesLess x y)))
 |.leq=>K (.D (.B (Op.bytesLess x y||x==y)))
 |.gtr=>K (.D (.B (!(Op.bytesLess x y||x==y))))
 |.geq=>K (.D (.B (!Op.bytesLess x y)))
 |_=>False
def As(op:BinOp)(K:AV->Prop):AV->AV->Prop
 |.D (.I k x),.D (.I k' y)=>
  match op with
  |.shl=>0<=y/\y<=k.bits/\K (.D (.I k (k.wrap (x*2^y.toNat))))
  |.shr=>0<=y/\y<=k.bits/\K (.D (.I k (x/2^y.toNat)))
  |op=>k=k'/\Cy op k x y K
 |.D (.S x),.D (.S y)=>D5 op x y K
 |_,_=>False
def AN(op:UnOp)(K:AV->Prop):AV->Prop
 |.D (.B x)=>op=.not/\K (.D (.B (!x)))
 |.D (.I k x)=>match op with
  |.neg=>K (.D (.I k (k.wrap (-x))))
  |.xor=>K (.D (.I k (bits .xor k (if k.signed then-1 else k.max) x)))
  |_=>False
 |_=>False
def DV.same(kd:Nat):DV->DV->Option Bool
 |.B x,.B y=>if kd=0 then some (x==y)else none
 |.I k x,.I k' y=>if kd=1/\k=k' then some (x==y)else none
 |.S x,.S y=>if kd=2 then some (x==y)else none
 |_,_=>none
def kP:List Nat->List AV->List AV->Option Bool
 |[],[],[]=>some true
 |kd::kds,.D x::xs,.D y::ys=>match DV.same kd x y,kP kds xs ys with
  |some p,some q=>some (p&&q)
  |_,_=>none
 |_,_,_=>none
def wU(k:IntKind):List AV->Option (List Int)
 |[]=>some []
 |.D (.I k' n)::r=>if k'=k then(wU k r).map (n::·)else none
 |_=>none
def qh:List Sh->List AV->List AV->Option Bool
 |[],[],[]=>some true
 |.s kd::r,.D x::xs,.D y::ys=>match DV.same kd x y,qh r xs ys with
  |some p,some q=>some (p&&q)
  |_,_=>none
 |.a k m::r,xs,ys=>match wU k (xs.take m),wU k (ys.take m),qh r (xs.drop m) (ys.drop m)with
  |some p,some q,some b=>if p.length=m/\q.length=m then some (p==q&&b)else none
  |_,_,_=>none
 |_,_,_=>none
def gJ(ev:Operand->AV)(x:Option Operand)(dflt:Nat)(K:Nat->Prop):Prop:=
 match x with
 |none=>K dflt
 |some x=>∃k n,ev x=.D (.I k n)/\0<=n/\K n.toNat
def AV.live(lk:bJ):AV->Bool
 |.ptr h _=>(lk h).isSome
 |.eptr h _ _ _=>(lk h).isSome
 |.sl h _ _ _=>(lk h).isSome
 |.slk h _ _ _ _=>(lk h).isSome
 |_=>true
def js(k:Nat)(es:List (List DV)):Prop:=∀e∈es,e.length=k
def mI(k:Nat)(ev:Operand->AV)(lo hi mx:Option Operand)(K:AV->Prop):AV->Prop
 | .D (.L es)=>js k es/\gJ ev mx es.length fun m=>gJ ev hi es.length fun h=>gJ ev lo 0 fun l=>l <= h/\h <= es.length/\(mx.isSome=true->hi.isSome=true/\h=m) /\
   K (if mx.isSome=true then .fl ((es.drop l).take (h-l))else .D (.L ((es.drop l).take (h-l))))
 | .fl es=>js k es/\gJ ev mx es.length fun m=>gJ ev hi es.length fun h=>gJ ev lo 0 fun l=>l <= h/\h <= m/\m <= es.length/\(mx.isSome=true->hi.isSome=true) /\
   K (if h=m then .fl ((es.drop l).take (h-l))else .D (.L ((es.drop l).take (h-l))))
 |.sl hd k' off len=>k'=k/\mx=none/\gJ ev hi len fun h=>gJ ev lo 0 fun l=>l<=h/\h<=len/\K (.sl hd k (off+l) (h-l))
 |.slk hd k' off len cap=>k'=k/\mx=none/\gJ ev hi len fun h=>gJ ev lo 0 fun l=>l<=h/\h<=cap/\l<cap/\K (.slk hd k (off+l) (h-l) (cap-l))
 |_=>False
def zD:List AV->List (Nat×List AV)->List AV
 |cs,[]=>cs
 |cs,(o,xs)::r=>zD (cs.take o++xs++cs.drop (o+xs.length)) r
def AV.one:AV->Bool
 |.D (.C v)=>v.oneCell'
 |.any=>false
 |.gst _=>false
 |.agg _=>false
 |.cn _=>false
 |_=>true
def AV.cx:List AV->Bool
 |[]=>true
 |a::as=>AV.one a&&AV.cx as
def AV.cells?(a:AV):Option (List AV):=
 match a with
 |.agg cs=>if AV.cx cs=true then some cs else none
 |a=>if AV.one a=true then some [a]else none
def y9(ev:Operand->AV)(zs:List AV):List (Nat×Nat×Operand)->List (Nat×List AV)->(AV->Prop)->Prop
 |[],acc,K=>K (.agg (zD zs acc.reverse))
 |(o,sz,x)::r,acc,K=>∃cs,(ev x).cells?=some cs/\cs.length=sz/\o+sz<=zs.length/\y9 ev zs r ((o,cs)::acc) K
def AV.data:List AV->Option (List DV)
 |[]=>some []
 |.D x::r=>(AV.data r).map (x::·)
 |_=>none
def uI(lk:bJ)(ev:Operand->AV)(k:Nat):List Operand->Option (List (List DV))
 |[]=>some []
 |x::r=>match((ev x).cells?).bind fun cs=>AV.data (AV.bq lk (fun _=>none) cs),uI lk ev k r with
  |some e,some es=>if e.length=k then some (e::es)else none
  |_,_=>none
def gO(ev:Operand->AV):List Operand->List Hd
 |[]=>[]
 |x::r=>AV.rows (ev x)++gO ev r
def AV.content(lk:bJ):AV->Option (List (List DV))
 |.D (.L es)=>some es
 |.fl es=>some es
 |.sl h k off len=>match lk h with
  |some (.row _ k' es)=>if k'=k/\off+len<=es.length then some ((es.drop off).take len)else none
  |_=>none
 |.slk h k off len _=>match lk h with
  |some (.row _ k' es)=>if k'=k/\off+len<=es.length then some ((es.drop off).take len)else none
  |_=>none
 |.D (.S t)=>some (t.map fun c=>[.I .u8 c.toNat])
 |_=>none
def qL:List (List DV)->Option (List UInt8)
 |[]=>some []
 |[.I .u8 n]::r=>(qL r).map (UInt8.ofNat n.toNat::·)
 |_=>none
def AV.si:AV->Bool
 |.D (.S _)=>true
 |_=>false
def AV.k6(str:Bool)(a:AV):Option Nat:=
 match str,a with
 |false,.D (.L es)=>some es.length
 |false,.fl es=>some es.length
 |false,.sl _ _ _ len=>some len
 |false,.slk _ _ _ len _=>some len
 |true,.D (.S t)=>some t.length
 |_,_=>none
def bU(hs:List Hd)(n:Nat):Hd->Hd
 |.B i=>hs.getD i (.B i)
 |.O i=>.O (n+i)
def ja(lk:bJ)(l:List Hd):List Hd:=l.filter fun h=>(lk h).isSome
theorem zm{l:List Hd}(h1:h∈l)(h2:(lk h).isSome=true):h∈ja lk l:=ξ.2 ⟨h1,h2⟩
def ov:List IntKind->List AV->Bool
 |[],[]=>true
 |k::ks,.D (.I k' _)::cs=>decide (k'=k)&&ov ks cs
 |_,_=>false
def AV.r6:KD->AV->Bool
 |.i k,.D (.I k' _)=>decide (k'=k)
 |.s,.D (.S _)=>true
 |.a ks,.agg cs=>ov ks cs
 |_,_=>false
def o8:List AV->List AV->Option Bool
 |[],[]=>some true
 |.D (.I k n)::xs,.D (.I k' n')::ys=>if k=k' then match o8 xs ys with
  |some b=>some (n==n'&&b)
  |none=>none else none
 |_,_=>none
def AV.Bm:AV->AV->Option Bool
 |.D (.I k n),.D (.I k' n')=>if k=k' then some (n==n')else none
 |.D (.S a),.D (.S b)=>some (a==b)
 |.agg xs,.agg ys=>o8 xs ys
 |_,_=>none
def mR(key:AV):List (AV×MV)->Option (Option (Nat×MV))
 |[]=>some none
 |e::es=>match key.Bm e.1 with
  |some true=>some (some (0,e.2))
  |some false=>match mR key es with
   |some (some (j,v))=>some (some (j+1,v))
   |some none=>some none
   |none=>none
  |none=>none
def MV.av:MV->AV
 |.v a=>a
 |.o _ rs=>.D (.L rs)
 |.ow _ _=>.any
def aY(P:Program)(lk:bJ)(n:Nat)(ev:Operand->AV)(op:bu)(K:AV->List bn->List Hd->Prop):Prop:=
 match op with
 |.mv x=>K (ev x) [] []
 |.pick c a b=>∃x,ev c=.D (.B x)/\K (if x=true then ev a else ev b) [] []
 |.new zs=>K (.ptr (.O n) 0) [.box zs] []
 |.box x=>∃cs,(ev x).cells?=some cs/\K (.ptr (.O n) 0) [.box cs] []
 |.build zs ps=>y9 ev zs ps [] fun a=>K a [] []
 |.bslice k ps=>if ps=[]then K (.fl []) [] []else∃es,uI lk ev k ps=some es/\K (.sl (.O n) k 0 ps.length) [.row true k es] (ja lk (gO ev ps))
 |.load ag x=>rO lk ag (fun a=>K a [] []) (ev x)
 |.bin op x y=>As op (fun a=>K a [] []) (ev x) (ev y)
 |.eqs neg kds x y=>∃xs ys b,ev x=.agg xs/\ev y=.agg ys/\kP kds xs ys=some b/\K (.D (.B (if neg=true then !b else b))) [] []
 |.beq neg x y=>∃p q,ev x=.D (.B p)/\ev y=.D (.B q)/\K (.D (.B (if neg=true then !(p==q)else(p==q)))) [] []
 |.un op x=>AN op (fun a=>K a [] []) (ev x)
 |.faddr off x=>AV.live lk (ev x)=true/\match ev x with
  |.ptr h o=>K (.ptr h (o+off)) [] []
  |.eptr h k ix o=>K (AV.ia h k ix o off) [] []
  |.rop ds=>K (.rop (ds.drop off)) [] []
  |_=>False
 |.field off ag x=>∃cs,ev x=.agg cs/\
  match ag with
  |none=>∃a,cs[off]?=some a/\K a [] []
  |some m=>off+m<=cs.length/\K (.agg ((cs.drop off).take m)) [] []
 |.iaddr k x i=>AV.live lk (ev x)=true/\∃kd j,ev i=.D (.I kd j)/\0<=j/\
  match ev x with
  |.D (.L es)=>∃e,es[j.toNat]?=some e/\e.length=k/\K (.rop e) [] []
  |.fl es=>∃e,es[j.toNat]?=some e/\e.length=k/\K (.rop e) [] []
  |.sl h k' off len=>k'=k/\j<len/\K (.eptr h k (off+j.toNat) 0) [] []
  |_=>False
 |.ixs x i=>∃t kd j c,ev x=.D (.S t)/\ev i=.D (.I kd j)/\0<=j/\t[j.toNat]?=some c/\K (.D (.I .u8 c.toNat)) [] []
 |.sls x lo hi=>∃t,ev x=.D (.S t)/\gJ ev hi t.length fun h=>gJ ev lo 0 fun l=>l<=h/\h<=t.length/\K (.D (.S ((t.drop l).take (h-l)))) [] []
 |.sll k x lo hi mx=>AV.live lk (ev x)=true/\mI k ev lo hi mx (fun a=>K a [] []) (ev x)
 |.ext x i=>∃cs a,ev x=.cn cs/\cs[i]?=some a/\K a [] []
 | .call f args=>∃ fn caps ks z r nbs,ev f=.clo fn caps/\(z=true->AV.dm r=true/\nbs.all bn.ku=true) /\
   de P fn (AV.ft lk ks (args.map ev++caps)) [] r [] nbs/\
   K (AV.cg (bU [] n) r) (nbs.map (bn.cg (bU [] n))) (if AV.flat r=true/\nbs=[]then[]else Aa z (ja lk (AV.cm (args.map ev++caps))))
 |.len str x=>AV.live lk (ev x)=true/\∃m,(ev x).k6 str=some m/\K (.D (.I .i64 m)) [] []
 | .app k bytes x y=>∃ es,ev x=.fl es/\∃ ys,AV.content lk (ev y)=some ys/\js k es/\js k ys/\(es.length + ys.length) * bytes <= 140737488355328 /\
   (if ys=[]/\es≠[]then K (.fl es) [] []else K (.sl (.O n) k 0 (es.length+ys.length)) [.row true k (es++ys)] (ja lk (AV.rows (ev y))))
 |.mm isMax x y=>∃k a b,ev x=.D (.I k a)/\ev y=.D (.I k b)/\K (.D (.I k (if isMax=true then max a b else min a b))) [] []
 |.mkf f caps=>K (.clo f (caps.map ev)) [] []
 |.store _ _ _=>False
 |.appE _ _ _ _=>False
 |.callE _ _=>False
 |.clr _ _ _=>False
 |.cpy _ _ _=>False
 |.mks k bytes zs x y=>∃k1 k2 l c,ev x=.D (.I k1 l)/\ev y=.D (.I k2 c)/\0<=l/\l<=c/\c<=9223372036854775807/\(bytes:Int)*c<=281474976710656/\K (.sl (.O n) k 0 l.toNat) [.row true k (aae l.toNat zs)] []
 |.loadS ag x=>(ev x).mu.isSome=true/\rO lk ag (fun a=>K a [] []) (ev x)
 |.lenS str x=>(ev x).mu.isSome=true/\AV.live lk (ev x)=true/\∃m,(ev x).k6 str=some m/\K (.D (.I .i64 m)) [] []
 |.sllS k x lo hi mx=>(ev x).mu.isSome=true/\AV.live lk (ev x)=true/\mI k ev lo hi mx (fun a=>K a [] []) (ev x)
 |.nilcS x=>(ev x).mu.isSome=true/\AV.live lk (ev x)=true/\match ev x with
  |.ptr h o=>K (.ptr h o) [] []
  |.eptr h k ix o=>K (.eptr h k ix o) [] []
  |.rop ds=>K (.rop ds) [] []
  |_=>False
 |.faddrS off x=>(ev x).mu.isSome=true/\AV.live lk (ev x)=true/\match ev x with
  |.ptr h o=>K (.ptr h (o+off)) [] []
  |.eptr h k ix o=>K (AV.ia h k ix o off) [] []
  |.rop ds=>K (.rop (ds.drop off)) [] []
  |_=>False
 |.capK x=>AV.live lk (ev x)=true/\∃cap:Nat,((∃h k off len,ev x=.slk h k off len cap)\/∃es,ev x=.fl es/\cap=es.length)/\K (.D (.I .i64 cap)) [] []
 | .appZ k bytes zs x y=>AV.live lk (ev x)=true/\∃ len cap kd j es,((∃ h mt,ev x=.slk h k 0 len cap/\lk h=some (.row mt k es))\/(ev x=.fl []/\len=0/\cap=0/\es=[]))/\ev y=.D (.I kd j)/\0 <= j/\len <= es.length/\js k es/\cap < len + j.toNat/\(len + j.toNat) * bytes <= 140737488355328 /\
   K (.sl (.O n) k 0 (len+j.toNat)) [.row true k (es.take len++aae j.toNat zs)] []
 |.isnil neg x=>AV.live lk (ev x)=true/\∃m,(ev x).k6 false=some m/\if m=0 then K .ab [] []else K (.D (.B neg)) [] []
 |.stop=>False
 |.bsF k ps=>(ps=[]/\K (.fl []) [] [])\/(ps≠[]/\∃es,uI (fun _=>none) ev k ps=some es/\K (.fl es) [] [])
 |.isp neg x=>AV.live lk (ev x)=true/\match ev x with
  |.ptr _ _=>K (.D (.B neg)) [] []
  |.D (.C (.pointer none))=>K (.D (.B (!neg))) [] []
  |_=>False
 |.cvI k x=>∃k' j,ev x=.D (.I k' j)/\K (.D (.I k (k.wrap j))) [] []
 |.cvS x=>∃ys t,AV.content lk (ev x)=some ys/\qL ys=some t/\AV.si (ev x)=false/\K (.D (.S t)) [] []
 |.iaddrA m k x i=>AV.live lk (ev x)=true/\∃kd j,ev i=.D (.I kd j)/\0<=j/\j<m/\
  match ev x with
  |.ptr h o=>K (.ptr h (o+j.toNat*k)) [] []
  |.eptr h k' ix o=>K (AV.ia h k' ix o (j.toNat*k)) [] []
  |.rop ds=>K (.rop (ds.drop (j.toNat*k))) [] []
  |_=>False
 |.idxA m k ag x i=>∃cs kd j,ev x=.agg cs/\ev i=.D (.I kd j)/\0<=j/\j<m/\
  match ag with
  |none=>∃a,cs[j.toNat*k]?=some a/\K a [] []
  |some q=>j.toNat*k+q<=cs.length/\K (.agg ((cs.drop (j.toNat*k)).take q)) [] []
 |.slsA m x lo hi=>∃h ix mt es,ev x=.eptr h 1 ix 0/\lk h=some (.row mt 1 es)/\ix+m<=es.length/\gJ ev hi m fun hh=>gJ ev lo 0 fun l=>l<=hh/\hh<=m/\K (.sl h 1 (ix+l) (hh-l)) [] []
 |.arrP m x=>∃h off len mt es,ev x=.sl h 1 off len/\lk h=some (.row mt 1 es)/\m<=len/\0<len/\K (.eptr h 1 off 0) [] []
 |.newR zs=>∃ds,AV.data zs=some ds/\K (.eptr (.O n) 1 0 0) [.row true 1 (ds.map fun d=>[d])] []
 |.boxR x=>∃cs ds,(ev x).cells?=some cs/\AV.data cs=some ds/\K (.eptr (.O n) 1 0 0) [.row true 1 (ds.map fun d=>[d])] []
 |.loadD ag x=>rO (fun _=>none) ag (fun a=>K a [] []) (ev x)
 |.sllD k x lo hi mx=>match ev x with
  |.D (.L es)=>mI k ev lo hi mx (fun a=>K a [] []) (.D (.L es))
  |.fl es=>mI k ev lo hi mx (fun a=>K a [] []) (.fl es)
  |_=>False
 |.iaddrD k x i=>∃kd j,ev i=.D (.I kd j)/\0<=j/\
  match ev x with
  |.D (.L es)=>∃e,es[j.toNat]?=some e/\e.length=k/\K (.rop e) [] []
  |.fl es=>∃e,es[j.toNat]?=some e/\e.length=k/\K (.rop e) [] []
  |_=>False
 |.kg x=>∃t,ev x=.D (.S t)/\K (.D (.L (t.map fun c=>[DV.I .u8 (c.toNat:Nat)]))) [] []
 |.mkI t x=>ev x=.agg []/\K (.D (.C (.iface t (.agg #[])))) [] []
 |.ny _=>False
 |.isn neg x=>∃v,ev x=.D (.C v)/\match v with
  |.nilIface=>K (.D (.B (!neg))) [] []
  |.iface _ _=>K (.D (.B neg)) [] []
  |_=>False
 |.tas t x=>ev x=.D (.C (.iface t (.agg #[])))/\K (.cn [.agg [],.D (.B true)]) [] []
 |.callP _ _=>False
 |.mkm kd=>K (.mref (.O n)) [.mp kd [] none] []
 |.newB T=>K (.mref (.O n)) [.sb T false []] []
 |.mkmW kd=>K (.mref (.O n)) [.mp kd [] none] []
 |.mget kd z _ ok x y=>∃h es i r,ev x=.mref h/\lk h=some (.mp kd es i)/\(ev y).r6 kd=true/\mR (ev y) es=some r/\
  match r with
  |some (_,mv)=>K (if ok=true then .cn [mv.av,.D (.B true)]else mv.av) [] []
  |none=>K (if ok=true then .cn [z,.D (.B false)]else z) [] []
 |.mlen x=>False
 |.ent x=>False
 |.mtake _ _ _ _ _ _=>False
 |.mput _ _ _ _=>False
 |.mdel _ _ _=>False
 |.entT _=>False
 |.rng _ _=>False
 |.nxt _=>False
 |.nilc x=>AV.live lk (ev x)=true/\
  match ev x with
  |.ptr h o=>K (.ptr h o) [] []
  |.eptr h k ix o=>K (.eptr h k ix o) [] []
  |.rop ds=>K (.rop ds) [] []
  |_=>False
 |.eqa neg k m x y=>∃xs ys p q,ev x=.agg xs/\ev y=.agg ys/\wU k xs=some p/\wU k ys=some q/\p.length=m/\q.length=m/\K (.D (.B (if neg=true then !(p==q)else(p==q)))) [] []
 |.eqg neg sh x y=>∃xs ys b,ev x=.agg xs/\ev y=.agg ys/\qh sh xs ys=some b/\K (.D (.B (if neg=true then !b else b))) [] []
theorem DV.lh{G:Gh}{f:Nat->Option Value}:∀{ds:List DV} {o j:Nat} {d:DV},DV.cells G f o ds->ds[j]?=some d->∃v,f (o+j)=some v/\DV.aq G d v
 |[],_,_,_,_,h=>by simp at h
 |x::ds,o,0,d,q,h=>by
  unfold DV.cells at q;simp at h;subst h;simpa using q.1
 |x::ds,o,j+1,d,q,h=>by unfold DV.cells at q;simp at h;have:=DV.lh q.2 h;rwa[show o+1+j=o+(j+1) by omega]at this
theorem DV.gj{G:Gh}{f:Nat->Option Value}:∀{ds:List DV} {o:Nat} (n:Nat),DV.cells G f o ds->DV.cells G f (o+n) (ds.drop n)
 |ds,o,0,q=>by simpa using q
 |[],o,n+1,_=>by simp[DV.cells]
 |x::ds,o,n+1,q=>by unfold DV.cells at q;have:=DV.gj (G:=G) (f:=f) n q.2;simp only[acO];rwa[show o+1+n=o+(n+1) by omega]at this
theorem DV.jn{G:Gh}{f:Nat->Option Value}:∀{ds:List DV} {o:Nat} (n:Nat),DV.cells G f o ds->DV.cells G f o (ds.take n)
 |ds,o,0,_=>by simp[DV.cells]
 |[],o,n+1,_=>by simp[DV.cells]
 |x::ds,o,n+1,q=>by unfold DV.cells at q;simp only[ab4];unfold DV.cells;exact⟨q.1,DV.jn n q.2⟩
theorem DV.fy{G:Gh}{f:Nat->Option Value}:∀{xs ys:List DV} {o:Nat},DV.cells G f o xs->DV.cells G f (o+xs.length) ys->DV.cells G f o (xs++ys)
 |[],ys,o,_,h=>by simpa using h
 |x::xs,ys,o,q,h=>by unfold DV.cells at q;simp only[acg];unfold DV.cells;refine⟨q.1,DV.fy q.2 ?_⟩;rwa[show o+1+xs.length=o+(x::xs).length by simp;omega]
theorem DV.im{G:Gh}{f:Nat->Option Value}{k:Nat}:∀{es:List (List DV)} {o j:Nat} {e:List DV},DV.rows G f k o es->es[j]?=some e->e.length=k/\DV.cells G f (o+j*k) e
 |[],_,_,_,_,h=>by simp at h
 |x::es,o,0,e,q,h=>by
  unfold DV.rows at q;simp at h;subst h;exact⟨q.1,by simpa using q.2.1⟩
 |x::es,o,j+1,e,q,h=>by unfold DV.rows at q;simp at h;have:=DV.im q.2.2 h;rwa[show o+k+j*k=o+(j+1)*k by rw[aaW];omega]at this
theorem DV.ei{G:Gh}{f:Nat->Option Value}{k:Nat}:∀{es:List (List DV)} {o:Nat} (n:Nat),DV.rows G f k o es->DV.rows G f k (o+n*k) (es.drop n)
 |es,o,0,q=>by simpa using q
 |[],o,n+1,_=>by simp[DV.rows]
 |x::es,o,n+1,q=>by unfold DV.rows at q;have:=DV.ei (G:=G) (f:=f) n q.2.2;simp only[acO];rwa[show o+k+n*k=o+(n+1)*k by rw[aaW];omega]at this
theorem DV.en{G:Gh}{f:Nat->Option Value}{k:Nat}:∀{es:List (List DV)} {o:Nat} (n:Nat),DV.rows G f k o es->DV.rows G f k o (es.take n)
 |es,o,0,_=>by simp[DV.rows]
 |[],o,n+1,_=>by simp[DV.rows]
 |x::es,o,n+1,q=>by unfold DV.rows at q;simp only[ab4];unfold DV.rows;exact⟨q.1,q.2.1,DV.en n q.2.2⟩
theorem DV.cu{G:Gh}{f:Nat->Option Value}{k:Nat}:∀{xs ys:List (List DV)} {o:Nat},DV.rows G f k o xs->DV.rows G f k (o+xs.length*k) ys->DV.rows G f k o (xs++ys)
 |[],ys,o,_,h=>by simpa using h
 |x::xs,ys,o,q,h=>by unfold DV.rows at q;simp only[acg];unfold DV.rows;refine⟨q.1,q.2.1,DV.cu q.2.2 ?_⟩;rwa[show o+k+xs.length*k=o+(x::xs).length*k by simp[aaW];omega]
theorem DV.jv(h:DV.rows G f k o es):∀e∈es,e.length=k:=by intro e he;obtain⟨j,hj⟩:=List.getElem?_of_mem he;exact(DV.im h hj).1
theorem DV.eu{G:Gh}{f f':Nat->Option Value}:∀{ds:List DV} {o o':Nat},(∀i,i<ds.length->f' (o'+i)=f (o+i))->DV.cells G f o ds->DV.cells G f' o' ds
 |[],_,_,_,_=>by simp[DV.cells]
 |x::ds,o,o',hf,q=>by
  unfold DV.cells at q|-;refine⟨?_,DV.eu (o:=o+1) (o':=o'+1) (fun i hi=>?_) q.2⟩
  ·have:=hf 0 (by simp);simp at this;rw[this];exact q.1
  ·have:=hf (i+1) (by simp;omega);rwa[show o'+1+i=o'+(i+1) by omega,show o+1+i=o+(i+1) by omega]
theorem DV.dc{G:Gh}{f f':Nat->Option Value}{k:Nat}:∀{es:List (List DV)} {o o':Nat},(∀i,i<es.length*k->f' (o'+i)=f (o+i))->DV.rows G f k o es->DV.rows G f' k o' es
 |[],_,_,_,_=>by simp[DV.rows]
 |x::es,o,o',hf,q=>by
  unfold DV.rows at q|-;refine⟨q.1,DV.eu (fun i hi=>hf i ?_) q.2.1,DV.dc (o:=o+k) (o':=o'+k) (fun i hi=>?_) q.2.2⟩
  ·have:(x::es).length*k=es.length*k+k:=by simp[aaW]
   omega
  ·have h1:(x::es).length*k=es.length*k+k:=by simp[aaW]
   have:=hf (k+i) (by omega);rwa[show o'+k+i=o'+(k+i) by omega,show o+k+i=o+(k+i) by omega]
theorem AV.cd{G:Gh}{m:HM}:∀{as:List AV} {vs:List Value},AV.bb G m as vs->as.length=vs.length
 |[],vs,h=>by unfold AV.bb at h;simp[h]
 |a::as,vs,h=>by unfold AV.bb at h;obtain⟨v,vs',rfl,_,h3⟩:=h;simp[AV.cd h3]
theorem AV.gf{G:Gh}{m:HM}:∀{as:List AV} {vs:List Value} {j:Nat} {a:AV},AV.bb G m as vs->as[j]?=some a->∃v,vs[j]?=some v/\AV.aq G m a v
 |[],_,_,_,_,h=>by simp at h
 |x::as,vs,0,a,q,h=>by
  unfold AV.bb at q;obtain⟨v,vs',rfl,h2,h3⟩:=q;simp at h;subst h;exact⟨v,rfl,h2⟩
 |x::as,vs,j+1,a,q,h=>by unfold AV.bb at q;obtain⟨v,vs',rfl,h2,h3⟩:=q;simp at h;simpa using AV.gf h3 h
theorem AV.cw{G:Gh}{m:HM}:∀{as bs:List AV} {vs us:List Value},AV.bb G m as vs->AV.bb G m bs us->AV.bb G m (as++bs) (vs++us)
 |[],bs,vs,us,h,h'=>by unfold AV.bb at h;subst h;simpa using h'
 |a::as,bs,vs,us,h,h'=>by unfold AV.bb at h;obtain⟨v,vs',rfl,h2,h3⟩:=h;simp only[acg];unfold AV.bb;exact⟨v,_,rfl,h2,AV.cw h3 h'⟩
theorem AV.gv{G:Gh}{m:HM}:∀{as:List AV} {vs:List Value} (n:Nat),AV.bb G m as vs->AV.bb G m (as.drop n) (vs.drop n)
 |as,vs,0,h=>by simpa using h
 |[],vs,n+1,h=>by unfold AV.bb at h;subst h;simp[AV.bb]
 |a::as,vs,n+1,h=>by unfold AV.bb at h;obtain⟨v,vs',rfl,h2,h3⟩:=h;simpa using AV.gv n h3
theorem AV.eg{G:Gh}{m:HM}:∀{as:List AV} {vs:List Value} (n:Nat),AV.bb G m as vs->AV.bb G m (as.take n) (vs.take n)
 |as,vs,0,h=>by simp[AV.bb]
 |[],vs,n+1,h=>by unfold AV.bb at h;subst h;simp[AV.bb]
 |a::as,vs,n+1,h=>by unfold AV.bb at h;obtain⟨v,vs',rfl,h2,h3⟩:=h;simp only[ab4];unfold AV.bb;exact⟨v,_,rfl,h2,AV.eg n h3⟩
theorem AV.gn{G:Gh}{m:HM}{ev:Operand->AV}{ρ:Operand->Value}:∀{xs:List Operand},(∀x∈xs,AV.aq G m (ev x) (ρ x))->AV.bb G m (xs.map ev) (xs.map ρ)
 |[],_=>by simp[AV.bb]
 |x::xs,h=>by simp only[aaM];unfold AV.bb;exact⟨_,_,rfl,h x (by simp),AV.gn (fun y hy=>h y (by simp[hy]))⟩
theorem AV.gg{G:Gh}{m:HM}:∀(vs:List Value),AV.bb G m (vs.map jJ) vs
 |[]=>by simp[AV.bb]
 |v::vs=>by simp only[aaM];unfold AV.bb;exact⟨v,vs,rfl,tP G m v,AV.gg vs⟩
theorem AV.j2{G:Gh}{m:HM}{f:Nat->Option Value}:∀{ds:List DV} {vs:List Value} {o:Nat},DV.cells G f o ds->(∀j,j<ds.length->f (o+j)=vs[j]?)->vs.length=ds.length->AV.bb G m (ds.map .D) vs
 |[],vs,o,_,_,hl=>by
  have:vs=[]:=by simpa using hl
  subst this;simp[AV.bb]
 |d::ds,vs,o,q,hf,hl=>by
  match vs,hl with
  |v::vs,hl=>
   unfold DV.cells at q;obtain⟨⟨u,hu,hr⟩,q2⟩:=q;have h0:=hf 0 (by simp);simp at h0;rw[h0]at hu;cases hu;simp only[aaM];unfold AV.bb;refine⟨v,vs,rfl,by unfold AV.aq;exact hr,AV.j2 (o:=o+1) q2 (fun j hj=>?_) (by simpa using hl)⟩;have:=hf (j+1) (by simp;omega);simpa[show o+1+j=o+(j+1) by omega]using this
theorem AV.jd{G:Gh}{m:HM}:∀{cs:List AV} {vs:List Value} {ds:List DV},AV.bb G m cs vs->AV.data cs=some ds->∀(f:Nat->Option Value) (o:Nat),(∀j,j<vs.length->f (o+j)=vs[j]?)->DV.cells G f o ds
 |[],vs,ds,h,hd,f,o,_=>by
  unfold AV.data at hd;cases hd;simp[DV.cells]
 |.D x::r,vs,ds,h,hd,f,o,hf=>by
  unfold AV.bb at h;obtain⟨v,vs',rfl,h2,h3⟩:=h;unfold AV.data at hd;cases hr:AV.data r with
  |none=>rw[hr]at hd;cases hd
  |some ds'=>
   rw[hr]at hd;cases hd;unfold DV.cells;refine⟨⟨v,by have:=hf 0 (by simp);simpa using this,by unfold AV.aq at h2;exact h2⟩,AV.jd h3 hr f (o+1) (fun j hj=>?_)⟩;have:=hf (j+1) (by simp;omega);simpa[show o+1+j=o+(j+1) by omega]using this
 |.any::_,_,_,_,hd,_,_,_=>by unfold AV.data at hd;cases hd
 |.yld _::_,_,_,_,hd,_,_,_=>by unfold AV.data at hd;cases hd
 |.gst _::_,_,_,_,hd,_,_,_=>by unfold AV.data at hd;cases hd
 |.ptr _ _::_,_,_,_,hd,_,_,_=>by unfold AV.data at hd;cases hd
 |.eptr _ _ _ _::_,_,_,_,hd,_,_,_=>by unfold AV.data at hd;cases hd
 |.rop _::_,_,_,_,hd,_,_,_=>by unfold AV.data at hd;cases hd
 |.fl _::_,_,_,_,hd,_,_,_=>by unfold AV.data at hd;cases hd
 |.slk _ _ _ _ _::_,_,_,_,hd,_,_,_=>by unfold AV.data at hd;cases hd
 |.sl _ _ _ _::_,_,_,_,hd,_,_,_=>by unfold AV.data at hd;cases hd
 |.agg _::_,_,_,_,hd,_,_,_=>by unfold AV.data at hd;cases hd
 |.cn _::_,_,_,_,hd,_,_,_=>by unfold AV.data at hd;cases hd
 |.clo _ _::_,_,_,_,hd,_,_,_=>by unfold AV.data at hd;cases hd
theorem AV.m9(ha:a.one=true)(h:AV.aq G m a v):v.oneCell'=true:=by
 cases a with
 |D x=>
  unfold AV.aq at h;cases x with
  |B _=>unfold DV.aq at h;subst h;rfl
  |I _ _=>unfold DV.aq at h;subst h;rfl
  |S _=>unfold DV.aq at h;subst h;rfl
  |C _=>unfold DV.aq at h;subst h;simpa[AV.one]using ha
  |L es=>unfold DV.aq at h;obtain⟨a,cap,rfl,_⟩:=h;rfl
 |any=>cases ha
 |agg _=>cases ha
 |cn _=>cases ha
 |sc=>simpa[AV.aq]using h
 |ab=>unfold AV.aq at h;obtain⟨_,rfl⟩:=h;rfl
 |ptr _ _=>unfold AV.aq at h;exact h.1
 |eptr _ _ _ _=>unfold AV.aq at h;exact h.1
 |sl _ _ _ _=>unfold AV.aq at h;exact h.1
 |slk _ _ _ _ _=>unfold AV.aq at h;exact h.1
 |rop _=>unfold AV.aq at h;obtain⟨_,_,rfl,_⟩:=h;rfl
 |fl _=>unfold AV.aq at h;obtain⟨_,_,rfl⟩:=h;rfl
 |clo _ _=>unfold AV.aq at h;obtain⟨_,rfl,_⟩:=h;rfl
 |yld _=>unfold AV.aq at h;subst h;rfl
 |gst _=>cases ha
 |mref _=>unfold AV.aq at h;exact h.1
 |itr _ _=>unfold AV.aq at h;exact h.1
 |nsl _ _ _ _=>unfold AV.aq at h;exact h.1
 |nptr _ _ _ _=>unfold AV.aq at h;exact h.1
theorem LF(h:v.oneCell'=true):v.cells=#[v]:=by cases v<;>first|rfl|cases h
theorem AV.j7{G:Gh}{m:HM}:∀{as:List AV} {vs:List Value},AV.cx as=true->AV.bb G m as vs->∀v∈vs,v.oneCell'=true
 |[],vs,_,h=>by unfold AV.bb at h;subst h;simp
 |a::as,vs,ha,h=>by
  unfold AV.bb at h;obtain⟨v,vs',rfl,h2,h3⟩:=h;simp only[AV.cx,μ]at ha;intro u hu;rcases ω.1 hu with rfl|hu
  ·exact AV.m9 ha.1 h2
  ·exact AV.j7 ha.2 h3 u hu
theorem AV.fq(ha:a.cells?=some cs)(h:AV.aq G m a v):
  AV.bb G m cs v.cells.toList/\∀u∈v.cells,u.oneCell'=true:=by
 unfold AV.cells? at ha;split at ha
 ·split at ha
  ·rename_i _ cs' hone;cases ha;unfold AV.aq at h;obtain⟨vs,rfl,h2⟩:=h;exact⟨by simpa[Value.cells]using h2,fun u hu=>AV.j7 hone h2 u (by simpa[Value.cells]using hu)⟩
  ·cases ha
 ·split at ha
  ·rename_i hone;cases ha;have:=AV.m9 hone h;rw[LF this];refine⟨by simp[AV.bb];exact h,fun u hu=>?_⟩;have:u=v:=by simpa using hu
   subst this;assumption
  ·cases ha
theorem bg.mono{G G':Gh}{m m':HM}{bl:bn}{b sz:Nat}{w w':World}(h:bg G m bl b sz w)(hG:Gh.le G G')(hm:HM.le m m')(hb:∀o,G' b o=G b o)(hw:w'.heap[b]?=w.heap[b]?):
  bg G' m' bl b sz w':=by
 match bl,h with
 |.box cs,h=>
  unfold bg at h|-;obtain⟨vs,T,h1,h2,h3,h4⟩:=h;exact⟨vs,T,hw.trans h1,h2,AV.bb.mono hG hm _ _ h3,fun o=>(hb o).trans (h4 o)⟩
 |.row true k es,h=>
  unfold bg at h|-;obtain⟨vs,T,h1,h2,h3,h4,h5⟩:=h;exact⟨vs,T,hw.trans h1,h2,h3,DV.rows.mono hG (fun _ _ h=>h) _ _ _ h4,fun o=>(hb o).trans (h5 o)⟩
 |.row false k es,h=>
  unfold bg at h|-;obtain⟨vs,T,h1,h2,h3,h4,h5⟩:=h;exact⟨vs,T,hw.trans h1,h2,h3,DV.rows.mono hG (fun i v=>hG b i v) _ _ _ h4,fun o ho=>(hb o).trans (h5 o ho)⟩
theorem fa.mono{G G':Gh}(hG:Gh.le G G'){mt:Bool}{k:Nat}{es:List (List DV)}{v:Value}{f:List Nat}{w w':World}(h:fa G mt k es v f w)(hb:∀c∈f,∀o,G' c o=G c o)(hw:∀c∈f,w'.heap[c]?=w.heap[c]?):fa G' mt k es v f w':=by
 rcases h with h|⟨b,sz,cap,rfl,h2,h3,h4,h5⟩
 ·exact .inl h
 ·exact .inr ⟨b,sz,cap,rfl,h2,h3,h4,h5.mono hG (HM.le.refl _) (hb b (by simp)) (hw b (by simp))⟩
theorem fa.lt{f:List Nat}(h:fa G mt k es v f w):∀c∈f,∃vs T,w.heap[c]?=some (.cells vs T (0,0)):=by
 rcases h with⟨_,_,_,rfl⟩|⟨b,sz,cap,rfl,h2,h3,h4,h5⟩
 ·intro c hc;cases hc
 ·intro c hc;rw[aai.1 hc];cases mt<;>(unfold bg at h5;obtain⟨vs,T,h1,_⟩:=h5;exact⟨vs,T,h1⟩)
theorem lg.mono{G G':Gh}(hG:Gh.le G G'){Te:TypeId}{es:List (List DV)}{v:Value}{f:List Nat}{w w':World}(h:lg G Te es v f w)(hb:∀c∈f,∀o,G' c o=G c o)(hw:∀c∈f,w'.heap[c]?=w.heap[c]?):lg G' Te es v f w':=by
 rcases h with h|⟨g,cap,rfl,h2,h3,h4,h5,vs,h6⟩
 ·exact .inl h
 ·exact .inr ⟨g,cap,rfl,h2,h3,h4,h5.mono hG (HM.le.refl _) (hb g (by simp)) (hw g (by simp)),vs,(hw g (by simp)).trans h6⟩
theorem lg.lt{Te:TypeId}{f:List Nat}(h:lg G Te es v f w):∀c∈f,∃vs T,w.heap[c]?=some (.cells vs T (0,0)):=by
 rcases h with⟨_,_,rfl⟩|⟨g,cap,rfl,h2,h3,h4,h5,vs,h6⟩
 ·intro c hc;cases hc
 ·intro c hc;rw[aai.1 hc];exact⟨vs,Te,h6⟩
theorem ND.aq.mono{G G':Gh}(hG:Gh.le G G'){d:ND}{v:Value}{f:List Nat}{w w':World}(h:ND.aq G d v f w)(hb:∀c∈f,∀o,G' c o=G c o)(hw:∀c∈f,w'.heap[c]?=w.heap[c]?):ND.aq G' d v f w':=by
 cases d with
 |d x=>exact⟨h.1,DV.aq.mono hG _ _ h.2⟩
 |o mt k es=>exact fa.mono hG h hb hw
 |hole=>exact h
theorem ND.aq.lt{G:Gh}{d:ND}{v:Value}{f:List Nat}{w:World}(h:ND.aq G d v f w):∀c∈f,∃vs T,w.heap[c]?=some (.cells vs T (0,0)):=by
 cases d with
 |d x=>rw[h.1];intro c hc;cases hc
 |o mt k es=>exact fa.lt h
 |hole=>rw[h.1];intro c hc;cases hc
theorem iu.mono{G G':Gh}(hG:Gh.le G G'){g:Nat->Option Value}{w w':World}:∀{ds:List ND} {o:Nat} {f:List Nat},iu G g o ds f w->(∀c∈f,∀o,G' c o=G c o)->(∀c∈f,w'.heap[c]?=w.heap[c]?)->iu G' g o ds f w'
 |[],_,_,h,_,_=>h
 |d::ds,o,_,h,hb,hw=>by
  obtain⟨v,f,fp',h1,rfl,h2,h3⟩:=h;exact⟨v,f,fp',h1,rfl,h2.mono hG (fun c hc=>hb c (abp _ hc)) (fun c hc=>hw c (abp _ hc)),
   h3.mono hG (fun c hc=>hb c (abi _ hc)) (fun c hc=>hw c (abi _ hc))⟩
theorem iu.lt{G:Gh}{g:Nat->Option Value}{w:World}:∀{ds:List ND} {o:Nat} {f:List Nat},iu G g o ds f w->∀c∈f,∃vs T,w.heap[c]?=some (.cells vs T (0,0))
 |[],_,_,h,c,hc=>by rw[show _=[]from h]at hc;cases hc
 |d::ds,o,_,h,c,hc=>by
  obtain⟨v,f,fp',h1,rfl,h2,h3⟩:=h;rcases aau.1 hc with hc|hc
  ·exact h2.lt c hc
  ·exact h3.lt c hc
theorem jm.mono{G G':Gh}(hG:Gh.le G G'){g:Nat->Option Value}{k:Nat}{w w':World}:∀{es:List (List ND)} {o:Nat} {f:List Nat},jm G g k o es f w->(∀c∈f,∀o,G' c o=G c o)->(∀c∈f,w'.heap[c]?=w.heap[c]?)->jm G' g k o es f w'
 |[],_,_,h,_,_=>h
 |e::es,o,_,h,hb,hw=>by
  obtain⟨h0,f,fp',rfl,h2,h3⟩:=h;exact⟨h0,f,fp',rfl,h2.mono hG (fun c hc=>hb c (abp _ hc)) (fun c hc=>hw c (abp _ hc)),
   h3.mono hG (fun c hc=>hb c (abi _ hc)) (fun c hc=>hw c (abi _ hc))⟩
theorem jm.lt{G:Gh}{g:Nat->Option Value}{k:Nat}{w:World}:∀{es:List (List ND)} {o:Nat} {f:List Nat},jm G g k o es f w->∀c∈f,∃vs T,w.heap[c]?=some (.cells vs T (0,0))
 |[],_,_,h,c,hc=>by rw[show _=[]from h]at hc;cases hc
 |e::es,o,_,h,c,hc=>by
  obtain⟨h0,f,fp',rfl,h2,h3⟩:=h;rcases aau.1 hc with hc|hc
  ·exact h2.lt c hc
  ·exact h3.lt c hc
theorem MV.aq.mono{G G':Gh}(hG:Gh.le G G'){d:MV}{v:Value}{f:List Nat}{w w':World}(h:MV.aq G d v f w)(hb:∀c∈f,∀o,G' c o=G c o)(hw:∀c∈f,w'.heap[c]?=w.heap[c]?):MV.aq G' d v f w':=by
 cases d with
 |v a=>exact⟨h.1,AV.aq.mono hG (HM.le.refl _) _ _ h.2⟩
 |o k es=>exact fa.mono hG h hb hw
 |ow k es=>exact fa.mono hG h hb hw
theorem MV.aq.lt{G:Gh}{d:MV}{v:Value}{f:List Nat}{w:World}(h:MV.aq G d v f w):∀c∈f,∃vs T,w.heap[c]?=some (.cells vs T (0,0)):=by
 cases d with
 |v a=>rw[h.1];intro c hc;cases hc
 |o k es=>exact fa.lt h
 |ow k es=>exact fa.lt h
theorem dk.mono{G G':Gh}(hG:Gh.le G G'){w w':World}:∀{es:List (AV×MV)} {xs:List MapEntry} {f:List Nat},dk G es xs f w->(∀c∈f,∀o,G' c o=G c o)->(∀c∈f,w'.heap[c]?=w.heap[c]?)->dk G' es xs f w'
 |[],_,_,h,_,_=>h
 |e::es,_,_,h,hb,hw=>by
  obtain⟨x,xs',f,fp',h1,rfl,h2,h3,h4⟩:=h;exact⟨x,xs',f,fp',h1,rfl,AV.aq.mono hG (HM.le.refl _) _ _ h2,h3.mono hG (fun c hc=>hb c (abp _ hc)) (fun c hc=>hw c (abp _ hc)),
   h4.mono hG (fun c hc=>hb c (abi _ hc)) (fun c hc=>hw c (abi _ hc))⟩
theorem dk.lt{G:Gh}{w:World}:∀{es:List (AV×MV)} {xs:List MapEntry} {f:List Nat},dk G es xs f w->∀c∈f,∃vs T,w.heap[c]?=some (.cells vs T (0,0))
 |[],_,_,h,c,hc=>by rw[h.2]at hc;cases hc
 |e::es,_,_,h,c,hc=>by
  obtain⟨x,xs',f,fp',h1,rfl,h2,h3,h4⟩:=h;rcases aau.1 hc with hc|hc
  ·exact h3.lt c hc
  ·exact h4.lt c hc
theorem jw.mono{G G':Gh}(hG:Gh.le G G'):∀{es:List AV} {xs:List MapEntry},jw G es xs->jw G' es xs
 |[],_,h=>h
 |e::es,_,h=>by obtain⟨x,xs',h1,h2,h3⟩:=h;exact⟨x,xs',h1,AV.aq.mono hG (HM.le.refl _) _ _ h2,h3.mono hG⟩
def dz(m:HM)(w w':World):Prop:=∀h b sz fp,m h=some (.atx b sz fp)->∀x c d e,w.heap[b]?=some (.mapIter x c d e)->w'.heap[b]?=w.heap[b]?
theorem dz.refl(m:HM)(w:World):dz m w w:=fun _ _ _ _ _ _ _ _ _ _=>rfl
theorem dz.all(h:∀b,b<w.heap.size->w'.heap[b]?=w.heap[b]?):dz m w w':=fun _ b _ _ _ _ _ _ _ hb=>h b (aad.1 hb).1
def FD(bm:Nat)(m:HM)(w w':World):Prop:=∀h b sz fp,m h=some (.atx b sz fp)->∀c d e,w.heap[b]?=some (.mapIter (some bm) c d e)->w'.heap[b]?=w.heap[b]?
theorem dz.at(h:dz m w w')(bm:Nat):FD bm m w w':=fun x b sz fp hx c d e hb=>h x b sz fp hx _ c d e hb
theorem jk.rh{it:Option (Hd×List AV×List AV)}(h:jk G m it b arr clk w)(hG:Gh.le G G')(hm:HM.le m m')(hk:FD b m w w'):jk G' m' it b arr clk w':=fun hi rem e=>by
 obtain⟨loc,h1,h2⟩:=h hi rem e;rcases hm hi loc h1 with(h3|⟨c,sz,fp,fp',rfl,h3⟩)|h3
 ·refine⟨loc,h3,fun hd=>?_⟩;obtain⟨bi,sz,fp,seen,l,rfl,g1,g2,g3,g4⟩:=h2 hd;exact⟨bi,sz,fp,seen,l,rfl,(hk hi bi sz fp h1 _ _ _ g1).trans g1,g2,g3.mono hG,fun k e=>let⟨x,q1,q2,q3⟩:=g4 k e;⟨x,q1,q2,AV.aq.mono hG (HM.le.refl _) _ _ q3⟩⟩
 ·refine⟨_,h3,fun hd=>?_⟩;obtain⟨bi,sz,fp,seen,l,e,g1,g2,g3,g4⟩:=h2 (fun e=>by cases e);cases e;exact⟨c,sz,fp',seen,l,rfl,(hk hi c sz fp h1 _ _ _ g1).trans g1,g2,g3.mono hG,fun k e=>let⟨x,q1,q2,q3⟩:=g4 k e;⟨x,q1,q2,AV.aq.mono hG (HM.le.refl _) _ _ q3⟩⟩
 ·exact⟨_,h3,fun h=>absurd rfl h⟩
theorem c9.lt{G:Gh}{m:HM}{bl:bn}{b sz:Nat}{fp:List Nat}{w:World}(h:c9 G m bl b sz fp w):∀c∈b::fp,c<w.heap.size:=by
 have key:b<w.heap.size/\∀c∈fp,c<w.heap.size:=by
  cases bl with
  |box _=>unfold c9 at h;exact h.elim
  |row _ _ _=>unfold c9 at h;exact h.elim
  |nst k es=>
   unfold c9 at h;obtain⟨_,vs,T,h1,_,_,h4,_⟩:=h;exact⟨(aad.1 h1).1,fun c hc=>by obtain⟨_,_,h5⟩:=h4.lt c hc;exact(aad.1 h5).1⟩
  |sb T us es=>
   unfold c9 at h;obtain⟨_,_,v,h1,h4,_⟩:=h;exact⟨(aad.1 h1).1,fun c hc=>by obtain⟨_,_,h5⟩:=h4.lt c hc;exact(aad.1 h5).1⟩
  |mp kd es i=>
   unfold c9 at h;obtain⟨_,_,arr,clk,h1,_,_,h4,_⟩:=h;exact⟨(aad.1 h1).1,fun c hc=>by obtain⟨_,_,h5⟩:=h4.lt c hc;exact(aad.1 h5).1⟩
  |it=>
   unfold c9 at h;obtain⟨_,rfl,_,_,_,_,h1⟩:=h;exact⟨(aad.1 h1).1,fun c hc=>by cases hc⟩
 intro c hc;rcases ω.1 hc with rfl|hc
 ·exact key.1
 ·exact key.2 c hc
theorem c9.rh{G G':Gh}{m m':HM}{bl:bn}{b sz:Nat}{fp:List Nat}{w w':World}(h:c9 G m bl b sz fp w)(hG:Gh.le G G')(hm:HM.le m m')(hb:∀c∈b::fp,∀o,G' c o=G c o)(hw:∀c∈b::fp,w'.heap[c]?=w.heap[c]?)(hk:FD b m w w'):c9 G' m' bl b sz fp w':=by
 have hw0:=hw b aap;have hb':∀c∈fp,∀o,G' c o=G c o:=fun c hc=>hb c (aab _ hc);have hw':∀c∈fp,w'.heap[c]?=w.heap[c]?:=fun c hc=>hw c (aab _ hc);cases bl with
 |box _=>unfold c9 at h;exact h.elim
 |row _ _ _=>unfold c9 at h;exact h.elim
 |nst k es=>
  unfold c9 at h|-;obtain⟨h0,vs,T,h1,h2,h3,h4,h5⟩:=h;exact⟨h0,vs,T,hw0.trans h1,h2,h3,h4.mono hG hb' hw',fun o=>(hb b aap o).trans (h5 o)⟩
 |sb T us es=>
  unfold c9 at h|-;obtain⟨h0,h0',v,h1,h4,h5⟩:=h;exact⟨h0,h0',v,hw0.trans h1,h4.mono hG hb' hw',fun o=>(hb b aap o).trans (h5 o)⟩
 |mp kd es i=>
  unfold c9 at h|-;obtain⟨h0,h0',arr,clk,h1,h2,h3,h4,h5⟩:=h;exact⟨h0,h0',arr,clk,hw0.trans h1,h2,h3,h4.mono hG hb' hw',h5.rh hG hm hk⟩
 |it=>
  unfold c9 at h|-;obtain⟨h0,h0',a,c,d,e,h1⟩:=h;exact⟨h0,h0',a,c,d,e,hw0.trans h1⟩
theorem c9.mono(h:c9 G m bl b sz fp w)(hG:Gh.le G G')(hm:HM.le m m')(hb:∀c∈b::fp,∀o,G' c o=G c o)(hw:∀c∈b::fp,w'.heap[c]?=w.heap[c]?)(hk:dz m w w'):c9 G' m' bl b sz fp w':=h.rh hG hm hb hw (hk.at b)
theorem c9.jo{G:Gh}{m:HM}{bl:bn}{b sz:Nat}{fp:List Nat}{w:World}(h:c9 G m bl b sz fp w):bl.jo=bl:=by cases bl<;>first|rfl|(unfold c9 at h;exact h.elim)
theorem qS(h:w.heap[b]?=some (.cells vs T fr)):w.cell? ⟨b,o,none⟩=vs[o]?:=by simp[World.cell?,h]
theorem cf.l9(hS:cf G m lk w)(h:Hd):
  ∃G',cf G' m (fun x=>if x=h then(lk x).map bn.jo else lk x) w/\Gh.le G G'/\(∀b,(∀sz,m h≠some (.at_ b sz))->∀o,G' b o=G b o):=by
 by_cases hrow:∃b sz k es,m h=some (.at_ b sz)/\lk h=some (.row true k es)
 case neg=>
  refine⟨G,⟨?_,?_,hS.da,hS.gh,?_,hS.gl,fun h' b sz fp hm=>?_⟩,Gh.le.refl G,fun _ _ _=>rfl⟩
  ·intro h' b sz hm;obtain⟨bl,hl,hb⟩:=hS.fh h' b sz hm;by_cases e:h'=h
   ·subst e;simp only[if_true,hl,aaZ];cases bl with
    |box cs=>exact⟨_,rfl,hb⟩
    |row mt k es=>
     cases mt with
     |true=>exact absurd ⟨b,sz,k,es,hm,hl⟩ hrow
     |false=>exact⟨_,rfl,hb⟩
    |_=>unfold bg at hb;exact hb.elim
   ·simp only[e,if_false];exact⟨bl,hl,hb⟩
  ·intro h' hm;obtain⟨mt,k,hl⟩:=hS.nil h' hm;by_cases e:h'=h
   ·subst e;simp only[if_true,hl,aaZ,bn.jo];exact⟨_,_,rfl⟩
   ·simp only[e,if_false];exact⟨mt,k,hl⟩
  ·intro h' hm;have:=hS.dead h' hm;split<;>simp[this]
  ·obtain⟨bl,hl,hb⟩:=hS.di h' b sz fp hm;refine⟨bl,?_,hb⟩;rw[hl];split
   ·rw[aaZ,hb.jo]
   ·rfl
 case pos=>
  obtain⟨b,sz,k,es,hm,hl⟩:=hrow;obtain⟨bl,hl',hb⟩:=hS.fh h b sz hm;rw[hl]at hl';cases hl';unfold bg at hb;obtain⟨vs,T,h1,h2,h3,h4,h5⟩:=hb;let G':Gh:=fun b' o=>if b'=b/\o<es.length*k then vs[o]?else G b' o
  have hle:Gh.le G G':=fun b' o v hv=>by
   show(if b'=b/\o<es.length*k then vs[o]?else G b' o)=some v;split
   ·rename_i hc;rw[hc.1,h5 o]at hv;cases hv
   ·exact hv
  have hother:∀b',b'≠b->∀o,G' b' o=G b' o:=fun b' hne o=>by show(if b'=b/\o<es.length*k then vs[o]?else G b' o)=_;rw[if_neg (fun hc=>hne hc.1)]
  refine⟨G',⟨?_,?_,hS.da,?_,?_,hS.gl.mono hle,fun h' b' sz' fp' hm'=>?_⟩,hle,fun b' hne o=>hother b' (fun e=>hne sz (e▸hm)) o⟩
  ·intro h' b' sz' hm';by_cases e:h'=h
   ·subst e;have:Loc.at_ b' sz'=Loc.at_ b sz:=by rw[hm]at hm';exact(Option.some.inj hm').symm
    cases this;simp only[if_true,hl,aaZ,bn.jo];refine⟨_,rfl,?_⟩;unfold bg;refine⟨vs,T,h1,h2,h3,DV.dc (fun i hi=>?_) (DV.rows.mono hle (fun _ _ h=>h) _ _ _ h4),fun o ho=>?_⟩
    ·show(if b=b/\0+i<es.length*k then vs[0+i]?else G b (0+i))=_;rw[if_pos ⟨rfl,by omega⟩]
    ·show(if b=b/\o<es.length*k then vs[o]?else G b o)=none;rw[if_neg (by omega)];exact h5 o
   ·simp only[e,if_false];obtain⟨bl',hl',hb'⟩:=hS.fh h' b' sz' hm';have hne:b'≠b:=fun eb=>e (hS.inj h' h b sz' sz (eb▸hm') hm);exact⟨bl',hl',hb'.mono hle (HM.le.refl m) (hother b' hne) rfl⟩
  ·intro h' hm';obtain⟨mt,k',hl'⟩:=hS.nil h' hm';by_cases e:h'=h
   ·subst e;simp only[if_true,hl',aaZ,bn.jo];exact⟨_,_,rfl⟩
   ·simp only[e,if_false];exact⟨mt,k',hl'⟩
  ·intro b' o v hv;by_cases hc:b'=b/\o<es.length*k
   ·have:G' b' o=vs[o]?:=by show(if b'=b/\o<es.length*k then vs[o]?else G b' o)=_;rw[if_pos hc]
    rw[this]at hv;rw[hc.1,qS h1];exact hv
   ·have:G' b' o=G b' o:=by show(if b'=b/\o<es.length*k then vs[o]?else G b' o)=_;rw[if_neg hc]
    rw[this]at hv;exact hS.gh b' o v hv
  ·intro h' hm';have:=hS.dead h' hm';split<;>simp[this]
  ·obtain⟨bl',hl',hb'⟩:=hS.di h' b' sz' fp' hm';have e:h'≠h:=fun e=>by subst e;rw[hm]at hm';cases hm'
   have hne:∀c∈b'::fp',c≠b:=fun c hc eb=>e (hS.da h' h _ _ c hm' hm hc (aai.2 eb));rw[if_neg e];exact⟨bl',hl',hb'.mono hle (HM.le.refl m) (fun c hc=>hother c (hne c hc)) (fun _ _=>rfl) (dz.refl m w)⟩
theorem cf.congr(hS:cf G m lk w)(h:∀x,m x≠none->lk' x=lk x):cf G m lk' w:=
 ⟨fun x b sz hm=>by rw[h x (by rw[hm];simp)];exact hS.fh x b sz hm,fun x hm=>by rw[h x (by rw[hm];simp)];exact hS.nil x hm,hS.da,hS.gh,fun x hm=>by rw[h x (by rw[hm];simp)];exact hS.dead x hm,hS.gl,fun x b sz fp hm=>by rw[h x (by rw[hm];simp)];exact hS.di x b sz fp hm⟩
theorem bn.lz(b:bn):b.jo.jo=b.jo:=by cases b<;>rfl
theorem cf.freeze{m:HM}{w:World}:∀(hs:List Hd) {lk:bJ} {G:Gh},cf G m lk w->
  ∃G',cf G' m (fo lk hs) w/\Gh.le G G'/\(∀b,(∀h∈hs,∀sz,m h≠some (.at_ b sz))->∀o,G' b o=G b o)
 |[],lk,G,hS=>⟨G,hS.congr (fun _ _=>by simp[fo]),Gh.le.refl G,fun _ _ _=>rfl⟩
 |h::hs,lk,G,hS=>by
  obtain⟨G1,h1,h2,h3⟩:=hS.l9 h;obtain⟨G2,k1,k2,k3⟩:=cf.freeze hs h1;refine⟨G2,k1.congr (fun x _=>?_),h2.trans k2,fun b hb o=>?_⟩
  ·unfold fo;by_cases e:x=h
   ·subst e;by_cases e2:x∈hs
    ·cases hx:lk x<;>simp[e2,hx,bn.lz]
    ·simp[e2]
   ·simp[e]
  ·rw[k3 b (fun h' hh=>hb h' (by simp[hh])) o,h3 b (hb h (by simp)) o]
mutual
theorem AV.ko{G:Gh}{m m':HM}{ψ:Hd->Hd}(hψ:∀h loc,m h=some loc->m' (ψ h)=some loc):∀(a:AV) (v:Value),AV.aq G m a v->AV.aq G m' (AV.cg ψ a) v
 |.D _,_,q=>by unfold AV.cg;unfold AV.aq at q|-;exact q
 |.any,_,_=>by unfold AV.cg AV.aq;trivial
 |.yld _,_,q=>by unfold AV.cg;unfold AV.aq at q|-;exact q
 |.gst _,_,_=>by unfold AV.cg AV.aq;trivial
 |.sc,_,q=>by unfold AV.cg;unfold AV.aq at q|-;exact q
 |.ab,_,q=>by unfold AV.cg;unfold AV.aq at q|-;exact q
 |.ptr h off,_,q=>by
  unfold AV.cg;unfold AV.aq at q|-;obtain⟨h0,loc,h1,h2⟩:=q;exact⟨h0,loc,hψ h loc h1,h2⟩
 |.eptr h k ix off,_,q=>by
  unfold AV.cg;unfold AV.aq at q|-;obtain⟨h0,loc,h1,h2⟩:=q;exact⟨h0,loc,hψ h loc h1,h2⟩
 |.rop _,_,q=>by unfold AV.cg;unfold AV.aq at q|-;exact q
 |.fl _,_,q=>by unfold AV.cg;unfold AV.aq at q|-;exact q
 |.sl h k off len,_,q=>by
  unfold AV.cg;unfold AV.aq at q|-;obtain⟨h0,loc,h1,h2⟩:=q;exact⟨h0,loc,hψ h loc h1,h2⟩
 |.slk h k off len cap,_,q=>by
  unfold AV.cg;unfold AV.aq at q|-;obtain⟨h0,loc,h1,h2⟩:=q;exact⟨h0,loc,hψ h loc h1,h2⟩
 |.mref h,_,q=>by
  unfold AV.cg;unfold AV.aq at q|-;obtain⟨h0,loc,h1,h2⟩:=q;exact⟨h0,loc,hψ h loc h1,h2⟩
 |.itr hm h,_,q=>by
  unfold AV.cg;unfold AV.aq at q|-;obtain⟨h0,⟨l,g⟩,loc,h1,h2⟩:=q;exact⟨h0,⟨l,hψ hm l g⟩,loc,hψ h loc h1,h2⟩
 |.nsl h k off len,_,q=>by
  unfold AV.cg;unfold AV.aq at q|-;obtain⟨h0,loc,h1,h2⟩:=q;exact⟨h0,loc,hψ h loc h1,h2⟩
 |.nptr h k ix off,_,q=>by
  unfold AV.cg;unfold AV.aq at q|-;obtain⟨h0,loc,h1,h2⟩:=q;exact⟨h0,loc,hψ h loc h1,h2⟩
 |.agg cs,_,q=>by
  unfold AV.cg;unfold AV.aq at q|-;obtain⟨vs,h1,h2⟩:=q;exact⟨vs,h1,AV.jc hψ cs _ h2⟩
 |.cn cs,_,q=>by
  unfold AV.cg;unfold AV.aq at q|-;obtain⟨vs,h1,h2⟩:=q;exact⟨vs,h1,AV.jc hψ cs _ h2⟩
 |.clo f cs,_,q=>by unfold AV.cg;unfold AV.aq at q|-;obtain⟨vs,h1,h2⟩:=q;exact⟨vs,h1,AV.jc hψ cs _ h2⟩
theorem AV.jc{G:Gh}{m m':HM}{ψ:Hd->Hd}(hψ:∀h loc,m h=some loc->m' (ψ h)=some loc):∀(as:List AV) (vs:List Value),AV.bb G m as vs->AV.bb G m' (AV.dh ψ as) vs
 |[],_,q=>by unfold AV.dh;unfold AV.bb at q|-;exact q
 |a::as,_,q=>by unfold AV.dh;unfold AV.bb at q|-;obtain⟨v,vs',h1,h2,h3⟩:=q;exact⟨v,vs',h1,AV.ko hψ a v h2,AV.jc hψ as vs' h3⟩
end
theorem bg.cg{G:Gh}{m m':HM}{ψ:Hd->Hd}(hψ:∀h loc,m h=some loc->m' (ψ h)=some loc){bl:bn}{b sz:Nat}{w:World}(h:bg G m bl b sz w):bg G m' (bl.cg ψ) b sz w:=by
 match bl,h with
 |.box cs,h=>
  unfold bn.cg;unfold bg at h|-;obtain⟨vs,T,h1,h2,h3,h4⟩:=h;exact⟨vs,T,h1,h2,AV.jc hψ _ _ h3,h4⟩
 |.row true k es,h=>unfold bn.cg;unfold bg at h|-;exact h
 |.row false k es,h=>unfold bn.cg;unfold bg at h|-;exact h
 |.nst _ _,h=>unfold bg at h;exact h.elim
 |.sb _ _ _,h=>unfold bg at h;exact h.elim
 |.mp _ _ _,h=>unfold bg at h;exact h.elim
 |.it,h=>unfold bg at h;exact h.elim
theorem jk.cg(hψ:∀h loc,m h=some loc->m' (ψ h)=some loc){i:Option (Hd×List AV×List AV)}(h:jk G m i b arr clk w):jk G m' (i.map fun p=>(ψ p.1,p.2)) b arr clk w:=fun hi rem e=>by rw[ι]at e;obtain⟨⟨h3,r3⟩,e3,e4⟩:=e;cases e4;obtain⟨loc,h4,h5⟩:=h h3 r3 e3;exact⟨loc,hψ _ _ h4,h5⟩
theorem jk.conv(hφ:∀h h' loc,φ h=some h'->m h=some loc->m' h'=some loc){i:Option (Hd×List AV×List AV)}(h:jk G m i b arr clk w):jk G m' (i.bind fun p=>(φ p.1).map fun h=>(h,p.2)) b arr clk w:=fun hi rem e=>by rw[η]at e;obtain⟨⟨h3,r3⟩,e3,e4⟩:=e;rw[ι]at e4;obtain⟨h6,e5,e6⟩:=e4;cases e6;obtain⟨loc,h4,h5⟩:=h h3 r3 e3;exact⟨loc,hφ _ _ _ e5 h4,h5⟩
theorem c9.cg{G:Gh}{m m':HM}{ψ:Hd->Hd}(hψ:∀h loc,m h=some loc->m' (ψ h)=some loc){bl:bn}{b sz:Nat}{fp:List Nat}{w:World}(h:c9 G m bl b sz fp w):c9 G m' (bl.cg ψ) b sz fp w:=by
 match bl,h with
 |.box cs,h=>unfold c9 at h;exact h.elim
 |.row _ _ _,h=>unfold c9 at h;exact h.elim
 |.nst _ _,h=>unfold bn.cg;unfold c9 at h|-;exact h
 |.sb _ _ _,h=>unfold bn.cg;unfold c9 at h|-;exact h
 |.mp _ _ _,h=>
  unfold bn.cg;unfold c9 at h|-;obtain⟨h0,h0',arr,clk,h1,h2,h3,h4,h5⟩:=h;exact⟨h0,h0',arr,clk,h1,h2,h3,h4,h5.cg hψ⟩
 |.it,h=>unfold bn.cg;unfold c9 at h|-;exact h
theorem c9.conv{G:Gh}{m m':HM}{lk:bJ}{φ:Hd->Option Hd}(hφ:∀h h' loc,φ h=some h'->m h=some loc->m' h'=some loc){bl:bn}{b sz:Nat}{fp:List Nat}{w:World}(h:c9 G m bl b sz fp w):c9 G m' (bl.conv lk φ) b sz fp w:=by
 match bl,h with
 |.box cs,h=>unfold c9 at h;exact h.elim
 |.row _ _ _,h=>unfold c9 at h;exact h.elim
 |.nst _ _,h=>unfold bn.conv;unfold c9 at h|-;exact h
 |.sb _ _ _,h=>unfold bn.conv;unfold c9 at h|-;exact h
 |.mp _ _ _,h=>
  unfold bn.conv;unfold c9 at h|-;obtain⟨h0,h0',arr,clk,h1,h2,h3,h4,h5⟩:=h;exact⟨h0,h0',arr,clk,h1,h2,h3,h4,h5.conv hφ⟩
 |.it,h=>unfold bn.conv;unfold c9 at h|-;exact h
theorem KZ(hS:cf G m lk w){len:Nat}(hm:m h=some loc)(hr:loc≠.dead->Ce loc k off len v)
 {k':Nat} (hl:lk h=some (.row mt k' es)) (hk:k'=k/\off+len<=es.length) (hmt:mt=false):DV.aq G (.L ((es.drop off).take len)) v:=by
 obtain⟨rfl,hlen⟩:=hk;subst hmt;have hnd:loc≠.dead:=fun e=>by subst e;rw[hS.dead h hm]at hl;cases hl
 have hL:((es.drop off).take len).length=len:=by simp;omega
 unfold DV.aq;rcases hr hnd with⟨a,rfl,rfl⟩|⟨b,sz,cap,rfl,rfl,hcap,hsz⟩
 ·refine⟨a,0,by simp,by simp,fun _=>rfl,fun h=>absurd (by simp) h⟩
 ·obtain⟨bl,hl',hb⟩:=hS.fh h b sz hm;rw[hl]at hl';cases hl';unfold bg at hb;obtain⟨vs,T,h1,h2,h3,h4,h5⟩:=hb;refine⟨some ⟨b,off*k',none⟩,cap,by rw[hL],by omega,(fun h=>by cases h),fun _=>⟨b,off*k',k',rfl,?_⟩⟩;have:=DV.en len (DV.ei off h4);simpa using this
mutual
theorem AV.kx{G:Gh}{m mc:HM}{lk lk':bJ}{w:World}{φ:Hd->Option Hd}(hS:cf G m lk' w)(hs:∀h mt k es,lk h=some (.row mt k es)->∃mt',lk' h=some (.row mt' k es))(hφ:∀h h' loc,φ h=some h'->m h=some loc->mc h'=some loc):
  ∀(a:AV) (v:Value),(∀h∈AV.rows a,∀mt k es,φ h=none->(lk h).isSome=true->lk' h=some (.row mt k es)->mt=false)->AV.aq G m a v->AV.aq G mc (AV.conv lk φ a) v
 |.D _,_,_,q=>by unfold AV.conv;unfold AV.aq at q|-;exact q
 |.any,_,_,_=>by unfold AV.conv AV.aq;trivial
 |.yld _,_,_,q=>by unfold AV.conv;unfold AV.aq at q|-;exact q
 |.gst _,_,_,_=>by unfold AV.conv AV.aq;trivial
 |.sc,_,_,q=>by unfold AV.conv;unfold AV.aq at q|-;exact q
 |.ab,_,_,q=>by unfold AV.conv;unfold AV.aq at q|-;exact q
 |.ptr h off,_,_,q=>by
  unfold AV.conv;unfold AV.aq at q;obtain⟨h0,loc,h1,h2⟩:=q;split
  ·unfold AV.aq;exact⟨h0,loc,hφ _ _ _ ‹_› h1,h2⟩
  ·unfold AV.aq;exact h0
 |.eptr h k ix off,_,_,q=>by
  unfold AV.conv;unfold AV.aq at q;obtain⟨h0,loc,h1,h2⟩:=q;split
  ·unfold AV.aq;exact⟨h0,loc,hφ _ _ _ ‹_› h1,h2⟩
  ·unfold AV.aq;exact h0
 |.rop _,_,_,q=>by unfold AV.conv;unfold AV.aq at q|-;exact q
 |.fl _,_,_,q=>by unfold AV.conv;unfold AV.aq at q|-;exact q.1
 |.sl h k off len,v,hr,q=>by
  unfold AV.conv;unfold AV.aq at q;obtain⟨h0,loc,h1,h2⟩:=q;split
  ·unfold AV.aq;exact⟨h0,loc,hφ _ _ _ ‹_› h1,h2⟩
  ·rename_i hn;split
   ·rename_i mt k' es hl;split
    ·rename_i hk;unfold AV.aq;obtain⟨mt',hl'⟩:=hs _ _ _ _ hl;exact KZ hS h1 h2 hl' hk (hr h (by simp[AV.rows]) mt' k' es hn (by rw[hl];rfl) hl')
    ·unfold AV.aq;exact h0
   ·unfold AV.aq;exact h0
 |.slk h k off len cap,v,hr,q=>by
  unfold AV.conv;unfold AV.aq at q;obtain⟨h0,loc,h1,h2⟩:=q;split
  ·unfold AV.aq;exact⟨h0,loc,hφ _ _ _ ‹_› h1,h2⟩
  ·rename_i hn;split
   ·rename_i mt k' es hl;split
    ·rename_i hk;unfold AV.aq;obtain⟨mt',hl'⟩:=hs _ _ _ _ hl;exact KZ hS h1 (fun hd=>Ek (h2 hd)) hl' hk (hr h (by simp[AV.rows]) mt' k' es hn (by rw[hl];rfl) hl')
    ·unfold AV.aq;exact h0
   ·unfold AV.aq;exact h0
 |.mref h,_,_,q=>by
  unfold AV.conv;unfold AV.aq at q;obtain⟨h0,loc,h1,h2⟩:=q;split
  ·unfold AV.aq;exact⟨h0,loc,hφ _ _ _ ‹_› h1,h2⟩
  ·unfold AV.aq;exact h0
 |.itr hm h,_,_,q=>by
  unfold AV.conv;unfold AV.aq at q;obtain⟨h0,⟨l,g⟩,loc,h1,h2⟩:=q;split
  ·rename_i hm' h' e1 e2;unfold AV.aq;exact⟨h0,⟨l,hφ _ _ _ e1 g⟩,loc,hφ _ _ _ e2 h1,h2⟩
  ·unfold AV.aq;exact h0
 |.nsl h _ _ _,_,_,q=>by
  unfold AV.conv;unfold AV.aq at q;obtain⟨h0,loc,h1,h2⟩:=q;split
  ·unfold AV.aq;exact⟨h0,loc,hφ _ _ _ ‹_› h1,h2⟩
  ·unfold AV.aq;exact h0
 |.nptr h _ _ _,_,_,q=>by
  unfold AV.conv;unfold AV.aq at q;obtain⟨h0,loc,h1,h2⟩:=q;split
  ·unfold AV.aq;exact⟨h0,loc,hφ _ _ _ ‹_› h1,h2⟩
  ·unfold AV.aq;exact h0
 |.agg cs,_,hr,q=>by
  unfold AV.conv;unfold AV.aq at q|-;obtain⟨vs,h1,h2⟩:=q;exact⟨vs,h1,AV.ef hS hs hφ cs _ (fun h hh=>hr h (by unfold AV.rows;exact hh)) h2⟩
 |.cn cs,_,hr,q=>by
  unfold AV.conv;unfold AV.aq at q|-;obtain⟨vs,h1,h2⟩:=q;exact⟨vs,h1,AV.ef hS hs hφ cs _ (fun h hh=>hr h (by unfold AV.rows;exact hh)) h2⟩
 |.clo f cs,_,hr,q=>by unfold AV.conv;unfold AV.aq at q|-;obtain⟨vs,h1,h2⟩:=q;exact⟨vs,h1,AV.ef hS hs hφ cs _ (fun h hh=>hr h (by unfold AV.rows;exact hh)) h2⟩
theorem AV.ef{G:Gh}{m mc:HM}{lk lk':bJ}{w:World}{φ:Hd->Option Hd}(hS:cf G m lk' w)(hs:∀h mt k es,lk h=some (.row mt k es)->∃mt',lk' h=some (.row mt' k es))(hφ:∀h h' loc,φ h=some h'->m h=some loc->mc h'=some loc):
  ∀(as:List AV) (vs:List Value),(∀h∈AV.cm as,∀mt k es,φ h=none->(lk h).isSome=true->lk' h=some (.row mt k es)->mt=false)->AV.bb G m as vs->AV.bb G mc (AV.bq lk φ as) vs
 |[],_,_,q=>by unfold AV.bq;unfold AV.bb at q|-;exact q
 |a::as,_,hr,q=>by unfold AV.bq;unfold AV.bb at q|-;obtain⟨v,vs',h1,h2,h3⟩:=q;exact⟨v,vs',h1,AV.kx hS hs hφ a v (fun h hh=>hr h (by simp[AV.cm,hh])) h2,AV.ef hS hs hφ as vs' (fun h hh=>hr h (by simp[AV.cm,hh])) h3⟩
end
def ct(lk lk':bJ):Prop:=∀h bl,lk h=some bl->∃bl',lk' h=some bl'/\(bl'=bl\/bl'=bl.jo)
theorem ct.refl(lk:bJ):ct lk lk:=fun _ bl h=>⟨bl,h,.inl rfl⟩
theorem ct.row{lk lk':bJ}(h:ct lk lk'):∀x mt k es,lk x=some (.row mt k es)->∃mt',lk' x=some (.row mt' k es):=fun x mt k es hx=>by
 obtain⟨bl',h1,rfl|rfl⟩:=h x _ hx
 ·exact⟨_,h1⟩
 ·exact⟨_,h1⟩
theorem ct.box{lk lk':bJ}(h:ct lk lk'):∀x cs,lk x=some (.box cs)->lk' x=some (.box cs):=fun x cs hx=>by obtain⟨bl',h1,rfl|rfl⟩:=h x _ hx<;>exact h1
theorem DV.il{d:DV}(hf:d.flat=true)(h:DV.aq G d v):DV.aq G' d v:=by cases d<;>first|(unfold DV.aq at h|-;exact h)|cases hf
mutual
theorem AV.il{G G':Gh}{m m':HM}:∀(a:AV) (v:Value),AV.flat a=true->AV.aq G m a v->AV.aq G' m' a v
 |.D x,v,hf,h=>by unfold AV.aq at h|-;exact DV.il (by simpa[AV.flat]using hf) h
 |.any,_,_,_=>by unfold AV.aq;trivial
 |.yld _,_,_,h=>by unfold AV.aq at h|-;exact h
 |.gst _,_,_,_=>by unfold AV.aq;trivial
 |.sc,_,_,h=>by unfold AV.aq at h|-;exact h
 |.ab,_,_,h=>by unfold AV.aq at h|-;exact h
 |.ptr _ _,_,hf,_=>by simp[AV.flat]at hf
 |.eptr _ _ _ _,_,hf,_=>by simp[AV.flat]at hf
 |.rop _,_,hf,_=>by simp[AV.flat]at hf
 |.fl _,_,hf,_=>by simp[AV.flat]at hf
 |.sl _ _ _ _,_,hf,_=>by simp[AV.flat]at hf
 |.slk _ _ _ _ _,_,hf,_=>by simp[AV.flat]at hf
 |.mref _,_,hf,_=>by simp[AV.flat]at hf
 |.itr _ _,_,hf,_=>by simp[AV.flat]at hf
 |.nsl _ _ _ _,_,hf,_=>by simp[AV.flat]at hf
 |.nptr _ _ _ _,_,hf,_=>by simp[AV.flat]at hf
 |.agg cs,_,hf,h=>by
  unfold AV.aq at h|-;obtain⟨vs,h1,h2⟩:=h;exact⟨vs,h1,AV.j4 cs _ (by simpa[AV.flat]using hf) h2⟩
 |.cn cs,_,hf,h=>by
  unfold AV.aq at h|-;obtain⟨vs,h1,h2⟩:=h;exact⟨vs,h1,AV.j4 cs _ (by simpa[AV.flat]using hf) h2⟩
 |.clo _ _,_,hf,_=>by simp[AV.flat]at hf
theorem AV.j4{G G':Gh}{m m':HM}:∀(as:List AV) (vs:List Value),AV.dj as=true->AV.bb G m as vs->AV.bb G' m' as vs
 |[],_,_,h=>by unfold AV.bb at h|-;exact h
 |a::as,_,hf,h=>by simp only[AV.dj,μ]at hf;unfold AV.bb at h|-;obtain⟨v,vs',h1,h2,h3⟩:=h;exact⟨v,vs',h1,AV.il a v hf.1 h2,AV.j4 as vs' hf.2 h3⟩
end
theorem AV.kq:∀(a:AV),AV.flat a=true->AV.cg ψ a=a:=by
 intro a;apply AV.rec (motive_1:=fun a=>AV.flat a=true->AV.cg ψ a=a) (motive_2:=fun as=>AV.dj as=true->AV.dh ψ as=as)
 all_goals intros
 all_goals simp_all[AV.flat,AV.cg,AV.dj,AV.dh]
def bj(G:Gh)(m:HM)(lk:bJ)(n:Nat)(a:AV)(nbs:List bn)(fz:List Hd)(w:World)(v:Value)(w':World):Prop:=
 ∃G' m',cf G' m' (ij (fo lk fz) n nbs) w'/\AV.aq G' m' a v/\Fr (fun _=>False) (Own m) G G' w w'/\
  (∀h,(∀j,j<nbs.length->h≠.O (n+j))->m' h=m h)/\(∀j l b,j<nbs.length->m' (.O (n+j))=some l->b∈l.ga->w.heap.size<=b)
theorem iL(lk:bJ)(n:Nat):ij lk n []=lk:=by
 funext h;cases h with
 |B i=>rfl
 |O i=>simp only[ij,aaE,abt];rw[if_neg (by omega)]
theorem eD(lk:bJ):fo lk []=lk:=by funext h;simp[fo]
theorem bj.val(hS:cf G m lk w)(h:AV.aq G m a v):bj G m lk n a [] [] w v w:=
 ⟨G,m,by rw[iL,eD];exact hS,h,Fr.refl _ _ _ _,fun _ _=>rfl,fun j _ _ hj=>by simp at hj⟩
theorem vW(hS:cf G m lk w)(hb:w.heap.size<=b)(o:Nat):G b o=none:=by
 cases h:G b o with
 |none=>rfl
 |some v=>
  have:=hS.gh b o v h;have hlt:=World.block_lt_of_cell? w _ this;exact absurd hlt (by simp;omega)
theorem Fr.alloc{oh og:Nat->Prop}{G:Gh}{w:World}(o:Obj):Fr oh og G G w (w.alloc o):=
 ⟨rfl,.same rfl rfl,rfl,by simp,fun b hb _=>heap_alloc_old w o hb,fun _ _ _ _=>rfl,Gh.le.refl G⟩
theorem bg.lt(hb:bg G m bl b sz w):b<w.heap.size:=by
 cases bl with
 |box cs=>unfold bg at hb;obtain⟨vs,T,h1,_⟩:=hb;exact(aad.1 h1).1
 |row mt k es=>cases mt<;>(unfold bg at hb;obtain⟨vs,T,h1,_⟩:=hb;exact(aad.1 h1).1)
 |_=>unfold bg at hb;exact hb.elim
theorem cf.alloc{G:Gh}{m:HM}{lk:bJ}{w:World}(hS:cf G m lk w)(o:Obj):cf G m lk (w.alloc o):=by
 refine⟨fun h b sz hm=>?_,hS.nil,hS.da,fun b o' v hv=>?_,hS.dead,hS.gl,fun h b sz fp hm=>?_⟩
 rotate_left 2
 ·obtain⟨bl,hl,hb⟩:=hS.di h b sz fp hm;exact⟨bl,hl,hb.mono (Gh.le.refl G) (HM.le.refl m) (fun _ _ _=>rfl) (fun c hc=>heap_alloc_old w o (hb.lt c hc)) (.all fun b hb=>heap_alloc_old w o hb)⟩
 ·obtain⟨bl,hl,hb⟩:=hS.fh h b sz hm;have hlt:b<w.heap.size:=hb.lt;exact⟨bl,hl,hb.mono (Gh.le.refl G) (HM.le.refl m) (fun _=>rfl) (heap_alloc_old w o hlt)⟩
 ·have:=hS.gh b o' v hv;have hlt:=World.block_lt_of_cell? w _ this;rw[World.cell?_alloc_lt w o _ hlt];exact this
theorem cf.lt{G:Gh}{m:HM}{lk:bJ}{w:World}(hS:cf G m lk w){h:Hd}{b sz:Nat}(hm:m h=some (.at_ b sz)):b<w.heap.size:=by obtain⟨bl,hl,hb⟩:=hS.fh h b sz hm;exact hb.lt
theorem cf.vt(hS:cf G m lk w){l:Loc}(hm:m h=some l)(hb:b∈l.ga):b<w.heap.size:=by
 cases l with
 |dead=>cases hb
 |none=>cases hb
 |at_ b' sz=>rw[aai.1 hb];exact hS.lt hm
 |atx b' sz fp=>
  obtain⟨bl,hl,hb'⟩:=hS.di h b' sz fp hm;exact hb'.lt b hb
def aJ(m:HM)(h:Hd)(loc:Loc):HM:=fun x=>if x=h then some loc else m x
theorem CT(hn:m h=none):HM.le m (aJ m h loc):=fun x l hx=>.inl (.inl (by
 unfold aJ;split
 ·rename_i e;subst e;rw[hn]at hx;cases hx
 ·exact hx))
theorem bj.yc(hS:cf G m lk w)(hn:m (.O n)=none)(bl:bn)(ob:Obj)(loc:Loc)(hloc:loc.ga=[w.heap.size])
  (hbl:∀m',HM.le m m'->(∀b sz,loc=.at_ b sz->bg G m' bl b sz (w.alloc ob))/\∀b sz fp,loc=.atx b sz fp->c9 G m' bl b sz fp (w.alloc ob))
  (ha:∀m',HM.le m m'->m' (.O n)=some loc->AV.aq G m' a v):
  bj G m lk n a [bl] [] w v (w.alloc ob):=by
 have hle:=CT (loc:=loc) hn;have hS':=hS.alloc ob;have hld:∀h,h≠.O n->ij (fo lk []) n [bl] h=lk h:=fun h e=>by
  rw[eD];unfold ij;cases h with
  |B i=>rfl
  |O i=>
   have hi:i≠n:=fun e'=>e (by rw[e']);simp only[aaf,aaE];rw[if_neg (by omega)]
 have hlo:ij (fo lk []) n [bl] (.O n)=some bl:=by simp[ij]
 refine⟨G,aJ m (.O n) loc,⟨?_,?_,?_,hS'.gh,?_,hS'.gl,?_⟩,ha _ hle (by simp[aJ]),Fr.alloc _,?_,?_⟩
 ·intro h b sz hm;unfold aJ at hm;split at hm
  ·rename_i e;subst e;cases hm;exact⟨bl,hlo,(hbl _ hle).1 _ _ rfl⟩
  ·rename_i e;obtain⟨bl',hl,hb⟩:=hS'.fh h b sz hm;exact⟨bl',by rw[hld h e];exact hl,hb.mono (Gh.le.refl G) hle (fun _=>rfl) rfl⟩
 ·intro h hm;unfold aJ at hm;split at hm
  ·cases hm;cases hloc
  ·rename_i e;obtain⟨mt,k,hl⟩:=hS.nil h hm;exact⟨mt,k,by rw[hld h e];exact hl⟩
 ·intro h h' l l' b hm hm' hb hb';unfold aJ at hm hm';split at hm<;>split at hm'
  ·rename_i e e';rw[e,e']
  ·rename_i e e';cases hm;rw[hloc,aai]at hb;have:=hS.vt hm' hb';omega
  ·rename_i e e';cases hm';rw[hloc,aai]at hb';have:=hS.vt hm hb;omega
  ·exact hS.da h h' l l' b hm hm' hb hb'
 ·intro h hm;unfold aJ at hm;split at hm
  ·cases hm;cases hloc
  ·rename_i e;rw[hld h e];exact hS.dead _ hm
 ·intro h b sz fp hm;unfold aJ at hm;split at hm
  ·rename_i e;subst e;cases hm;exact⟨bl,hlo,(hbl _ hle).2 _ _ _ rfl⟩
  ·rename_i e;obtain⟨bl',hl,hb⟩:=hS'.di h b sz fp hm;exact⟨bl',by rw[hld h e];exact hl,hb.mono (Gh.le.refl G) hle (fun _ _ _=>rfl) (fun _ _=>rfl) (dz.refl _ _)⟩
 ·intro h hh;unfold aJ;rw[if_neg (by have:=hh 0 (by simp);simpa using this)]
 ·intro j l b hj hm hb;have:j=0:=by simpa using hj
  subst this;simp[aJ]at hm;rw[<-hm,hloc,aai]at hb;omega
theorem bj.new(hS:cf G m lk w)(hn:m (.O n)=none)(bl:bn)(vs:Array Value)(T:TypeId)
  (hbl:∀m',HM.le m m'->bg G m' bl w.heap.size vs.size (w.alloc (.cells vs T)))
  (ha:∀m',HM.le m m'->m' (.O n)=some (.at_ w.heap.size vs.size)->AV.aq G m' a v):
  bj G m lk n a [bl] [] w v (w.alloc (.cells vs T)):=
 bj.yc hS hn bl _ (.at_ w.heap.size vs.size) rfl (fun m' hm=>⟨fun b sz e=>by cases e;exact hbl m' hm,fun _ _ _ e=>by cases e⟩) ha
theorem AV.jg{G:Gh}{m m':HM}{lk:bJ}:∀{ks:List Bool} {as:List AV} {vs:List Value},AV.bb G m' (AV.bq lk (fun _=>none) as) vs->AV.bb G m as vs->AV.bb G m' (AV.ft lk ks as) vs
 |[],_,_,h,_=>h
 |true::ks,[],_,h,_=>h
 |false::ks,[],_,h,_=>h
 |true::ks,a::as,vs,h,h2=>by
  have h:AV.bb G m' (AV.conv lk (fun _=>none) a::AV.bq lk (fun _=>none) as) vs:=h;unfold AV.bb at h h2;obtain⟨v,vs',rfl,q1,q2⟩:=h;obtain⟨v',vs'',e,p1,p2⟩:=h2;cases e;show AV.bb G m' (AV.kp a (AV.conv lk (fun _=>none) a)::AV.ft lk ks as) _;unfold AV.bb;refine⟨v,vs',rfl,?_,AV.jg q2 p2⟩;unfold AV.kp;split
  ·unfold AV.aq at p1|-;exact p1
  ·exact q1
 |false::ks,a::as,vs,h,h2=>by have h:AV.bb G m' (AV.conv lk (fun _=>none) a::AV.bq lk (fun _=>none) as) vs:=h;unfold AV.bb at h h2;obtain⟨v,vs',rfl,q1,q2⟩:=h;obtain⟨v',vs'',e,p1,p2⟩:=h2;cases e;show AV.bb G m' (AV.conv lk (fun _=>none) a::AV.ft lk ks as) _;unfold AV.bb;exact⟨v,vs',rfl,q1,AV.jg q2 p2⟩
theorem NH(hX:∀{vs:Array Value} {w:World} {R R':Value->World->Prop},X vs w R->(∀v w',R v w'->R' v w')->X vs w R')
  (hc:∀(w:World) (G:Gh) (m:HM) (vs:Array Value),cf G m (gH [] []) w->(∀i,m (.O i)=none)->AV.bb G m (AV.ft lk ks args) vs.toList->X vs w fun v w'=>pZ w G m (gH [] nbs) r v w')
 (hl:ct lk lk2) (hS:cf G m lk2 w) (hrep:AV.bb G m args vs.toList) (hn:∀j,j<nbs.length->m (.O (n+j))=none):
  X vs w fun v w'=>
   bj G m lk2 n (AV.cg (bU [] n) r) (nbs.map (bn.cg (bU [] n))) (if AV.flat r=true/\nbs=[]then[]else ja lk (AV.cm args)) w v w':=by
 obtain⟨G1,hS1,hle1,hG1⟩:=hS.freeze (ja lk (AV.cm args));have hrep1:AV.bb G1 (fun _=>none) (AV.ft lk ks args) vs.toList:=by
  refine AV.jg ?_ (AV.bb.mono hle1 (HM.le.refl m) _ _ hrep);refine AV.ef (lk:=lk) hS1 (fun h mt k es hh=>?_) (fun h h' loc hh=>by cases hh) args _ (fun h hh mt k es _ hsome hrow=>?_) (AV.bb.mono hle1 (HM.le.refl m) _ _ hrep)
  ·obtain⟨mt',h2⟩:=hl.row h mt k es hh;unfold fo;split
   ·exact⟨false,by rw[h2];rfl⟩
   ·exact⟨mt',h2⟩
  ·unfold fo at hrow;rw[if_pos (zm hh hsome)]at hrow;cases hx:lk2 h with
   |none=>rw[hx]at hrow;cases hrow
   |some bl=>
    rw[hx]at hrow;cases bl with
    |box cs=>cases hrow
    |row mt' k' es'=>cases hrow;rfl
    |nst _ _=>cases hrow
    |sb _ _ _=>cases hrow
    |mp _ _ _=>cases hrow
    |it=>cases hrow
 have h0:cf G1 (fun _=>none) (gH [] []) w:=⟨(fun _ _ _ h=>by cases h),(fun _ h=>by cases h),(fun _ _ _ _ _ h=>by cases h),hS1.gh,(fun _ h=>by cases h),hS1.gl,(fun _ _ _ _ h=>by cases h)⟩;refine hX (hc w G1 (fun _=>none) vs h0 (fun _=>rfl) hrep1) fun v w' h=>?_;obtain⟨G2,m2,hS2,hr2,hfr,hB,hO,hO3⟩:=h;have hnoOwn:∀b,¬Own (fun _=>none) b:=Own.no;have hBn:∀i,m2 (.B i)=none:=fun i=>by
  rcases hB i with h|⟨h,_⟩|⟨_,_,_,_,h,_⟩
  ·exact h
  ·exact absurd rfl h
  ·cases h
 by_cases hf:AV.flat r=true/\nbs=[]
 ·
  obtain⟨hflat,rfl⟩:=hf;rw[if_pos ⟨hflat,rfl⟩];have hren:AV.cg (bU [] n) r=r:=AV.kq r hflat;rw[hren];refine⟨G,m,?_,AV.il r v hflat hr2,⟨hfr.os,hfr.tape,hfr.output,hfr.size,fun b hb _=>hfr.heap b hb (hnoOwn b),fun _ _ _ _=>rfl,Gh.le.refl G⟩,fun _ _=>rfl,fun j _ _ hj=>by simp at hj⟩;rw[List.map_nil,iL,eD];refine⟨fun h b sz hm=>?_,hS.nil,hS.da,fun b o u hu=>?_,hS.dead,hS.gl,fun h b sz fp hm=>?_⟩
  rotate_left 2
  ·obtain⟨bl,hl',hb⟩:=hS.di h b sz fp hm;exact⟨bl,hl',hb.mono (Gh.le.refl G) (HM.le.refl m) (fun _ _ _=>rfl) (fun c hc=>hfr.heap c (hb.lt c hc) (hnoOwn c)) (.all fun b hb=>hfr.heap b hb (hnoOwn b))⟩
  ·obtain⟨bl,hl',hb⟩:=hS.fh h b sz hm;exact⟨bl,hl',hb.mono (Gh.le.refl G) (HM.le.refl m) (fun _=>rfl) (hfr.heap b (hS.lt hm) (hnoOwn b))⟩
  ·have h1:=hS.gh b o u hu;have hlt:=World.block_lt_of_cell? w _ h1;rw[World.cell?_of_block (w:=w) (hfr.heap b hlt (hnoOwn b))];exact h1
 ·rw[if_neg hf];let m':HM:=fun h=>match h with
   |.B i=>m (.B i)
   |.O i=>if n<=i/\i<n+nbs.length then m2 (.O (i-n))else m (.O i)
  have hm'old:∀h,(∀j,j<nbs.length->h≠.O (n+j))->m' h=m h:=fun h hh=>by
   cases h with
   |B i=>rfl
   |O i=>
    show(if n<=i/\i<n+nbs.length then m2 (.O (i-n))else m (.O i))=_;rw[if_neg (fun hc=>hh (i-n) (by omega) (by rw[show n+(i-n)=i by omega]))]
  have hm'new:∀j,j<nbs.length->m' (.O (n+j))=m2 (.O j):=fun j hj=>by show(if n<=n+j/\n+j<n+nbs.length then m2 (.O (n+j-n))else m (.O (n+j)))=_;rw[if_pos ⟨by omega,by omega⟩,aaP]
  have hle':HM.le m m':=fun h loc hh=>.inl (.inl (by
   rw[hm'old h (fun j hj e=>by subst e;rw[hn j hj]at hh;cases hh)];exact hh))
  have hO2:∀i loc,m2 (.O i)=some loc->i<nbs.length:=fun i loc hi=>by
   cases hx:nbs[i]?with
   |none=>rw[hO3 i hx]at hi;cases hi
   |some bl=>exact(υ.1 hx).1
  have hback:∀h loc,m2 h=some loc->m' (bU [] n h)=some loc:=fun h loc hh=>by
   cases h with
   |B i=>rw[hBn i]at hh;cases hh
   |O i=>show m' (.O (n+i))=_;rw[hm'new i (hO2 i loc hh)];exact hh
  have hsplit:∀h loc,m' h=some loc->(m h=some loc/\(∀j,j<nbs.length->h≠.O (n+j)))\/(∃j,j<nbs.length/\h=.O (n+j)/\m2 (.O j)=some loc):=fun h loc hh=>by
   by_cases hc:∃j,j<nbs.length/\h=.O (n+j)
   ·obtain⟨j,hj,rfl⟩:=hc;rw[hm'new j hj]at hh;exact .inr ⟨j,hj,rfl,hh⟩
   ·have hc':∀j,j<nbs.length->h≠.O (n+j):=fun j hj e=>hc ⟨j,hj,e⟩;rw[hm'old h hc']at hh;exact .inl ⟨hh,hc'⟩
  have hlkOld:∀h,(∀j,j<nbs.length->h≠.O (n+j))->ij (fo lk2 (ja lk (AV.cm args))) n (nbs.map (bn.cg (bU [] n))) h=fo lk2 (ja lk (AV.cm args)) h:=fun h hh=>by
   cases h with
   |B i=>rfl
   |O i=>
    simp only[ij,κ];rw[if_neg (fun hc=>hh (i-n) (by omega) (by rw[show n+(i-n)=i by omega]))]
  have hlkNew:∀j bl,nbs[j]?=some bl->ij (fo lk2 (ja lk (AV.cm args))) n (nbs.map (bn.cg (bU [] n))) (.O (n+j))=some (bl.cg (bU [] n)):=fun j bl hj=>by have hlt:=(υ.1 hj).1;simp only[ij,κ];rw[if_pos ⟨by omega,by omega⟩,aaP,aac,hj];rfl
  have hsz:∀j l b,m2 (.O j)=some l->b∈l.ga->w.heap.size<=b:=fun j l b h hb=>by
   rcases hO (.O j) l b h hb with h|h
   ·exact h
   ·exact absurd h (hnoOwn b)
  refine⟨G2,m',⟨?_,?_,?_,hS2.gh,?_,hS2.gl,?_⟩,AV.ko hback r v hr2,?_,fun h hh=>hm'old h (by simpa using hh),fun j l b hj h hb=>?_⟩
  ·intro h b sz hh;rcases hsplit h _ hh with⟨h1,h2⟩|⟨j,hj,rfl,h1⟩
   ·obtain⟨bl,hl',hb⟩:=hS1.fh h b sz h1;rw[hlkOld h h2];exact⟨bl,hl',hb.mono hfr.le hle' (fun o=>hfr.gh b (hS1.lt h1) (hnoOwn b) o) (hfr.heap b (hS1.lt h1) (hnoOwn b))⟩
   ·obtain⟨bl,hl',hb⟩:=hS2.fh _ b sz h1;exact⟨_,hlkNew j bl hl',hb.cg hback⟩
  ·intro h hh;rcases hsplit h _ hh with⟨h1,h2⟩|⟨j,hj,rfl,h1⟩
   ·obtain⟨mt,k,hl'⟩:=hS1.nil h h1;rw[hlkOld h h2];exact⟨mt,k,hl'⟩
   ·obtain⟨mt,k,hl'⟩:=hS2.nil _ h1;exact⟨mt,k,hlkNew j _ hl'⟩
  ·intro h h' l l' b hh hh' hb hb';rcases hsplit h _ hh with⟨h1,h2⟩|⟨j,hj,rfl,h1⟩<;>rcases hsplit h' _ hh' with⟨h1',h2'⟩|⟨j',hj',rfl,h1'⟩
   ·exact hS.da h h' l l' b h1 h1' hb hb'
   ·have:=hS.vt h1 hb;have:=hsz j' l' b h1' hb';omega
   ·have:=hS.vt h1' hb';have:=hsz j l b h1 hb;omega
   ·have:=hS2.da _ _ l l' b h1 h1' hb hb';cases this;rfl
  ·intro h hh;rcases hsplit h _ hh with⟨h1,h2⟩|⟨j,hj,rfl,h1⟩
   ·rw[hlkOld h h2];exact hS1.dead h h1
   ·have:=hS2.dead _ h1;have hx:nbs[j]?=none:=this;rw[abS]at hx;omega
  ·intro h b sz fp hh;rcases hsplit h _ hh with⟨h1,h2⟩|⟨j,hj,rfl,h1⟩
   ·obtain⟨bl,hl',hb⟩:=hS1.di h b sz fp h1;rw[hlkOld h h2];exact⟨bl,hl',hb.mono hfr.le hle' (fun c hc o=>hfr.gh c (hb.lt c hc) (hnoOwn c) o) (fun c hc=>hfr.heap c (hb.lt c hc) (hnoOwn c)) (.all fun b hb=>hfr.heap b hb (hnoOwn b))⟩
   ·obtain⟨bl,hl',hb⟩:=hS2.di _ b sz fp h1;exact⟨_,hlkNew j bl hl',hb.cg hback⟩
  ·refine⟨hfr.os,hfr.tape,hfr.output,hfr.size,fun b hb _=>hfr.heap b hb (hnoOwn b),fun b hb ho o=>?_,hle1.trans hfr.le⟩;rw[hfr.gh b hb (hnoOwn b) o,hG1 b (fun h hh sz e=>ho (.at_ e)) o]
  ·rw[κ]at hj;rw[hm'new j hj]at h;exact hsz j l b h hb
theorem E1(hc:de P fn (AV.ft lk ks args) [] r [] nbs)
 (hl:ct lk lk2) (hS:cf G m lk2 w) (hrep:AV.bb G m args vs.toList) (hn:∀j,j<nbs.length->m (.O (n+j))=none):
  db P fn vs w fun v w'=>
   bj G m lk2 n (AV.cg (bU [] n) r) (nbs.map (bn.cg (bU [] n))) (if AV.flat r=true/\nbs=[]then[]else ja lk (AV.cm args)) w v w':=
 NH (X:=db P fn) db.mono hc hl hS hrep hn
theorem DV.gw{G G':Gh}{f:Nat->Option Value}{k:Nat}:∀{es:List (List DV)} {o:Nat},(es.all fun e=>e.all DV.flat)=true->DV.rows G f k o es->DV.rows G' f k o es
 |[],_,_,_=>trivial
 |e::es,o,hf,h=>by
  rw[List.all_cons,μ]at hf;have hc:∀(ds:List DV) (o:Nat),ds.all DV.flat=true->DV.cells G f o ds->DV.cells G' f o ds:=fun ds=>by
   induction ds with
   |nil=>intro _ _ _;trivial
   |cons d ds ih=>
    intro o hf h;rw[List.all_cons,μ]at hf;obtain⟨⟨v,h1,h2⟩,h3⟩:=h;exact⟨⟨v,h1,DV.il hf.1 h2⟩,ih _ hf.2 h3⟩
  exact⟨h.1,hc e o hf.1 h.2.1,DV.gw hf.2 h.2.2⟩
mutual
theorem AV.lq{G G':Gh}{m m':HM}{ψ:Hd->Hd}(hψ:∀h loc,m h=some loc->m' (ψ h)=some loc):∀(a:AV) (v:Value),AV.dm a=true->AV.aq G m a v->AV.aq G' m' (AV.cg ψ a) v
 |.D x,v,hf,h=>by
  unfold AV.cg;unfold AV.aq at h|-;exact DV.il (by simpa[AV.dm]using hf) h
 |.any,_,_,_=>by unfold AV.cg AV.aq;trivial
 |.sc,_,_,h=>by unfold AV.cg;unfold AV.aq at h|-;exact h
 |.ab,_,_,h=>by unfold AV.cg;unfold AV.aq at h|-;exact h
 |.sl hd k off len,_,_,h=>by
  unfold AV.cg;unfold AV.aq at h|-;obtain⟨h0,loc,h1,h2⟩:=h;exact⟨h0,loc,hψ _ _ h1,h2⟩
 |.agg cs,v,hf,h=>by
  unfold AV.cg;unfold AV.aq at h|-;obtain⟨vs,h1,h2⟩:=h;exact⟨vs,h1,AV.jr hψ cs _ (by simpa[AV.dm]using hf) h2⟩
 |.cn cs,v,hf,h=>by
  unfold AV.cg;unfold AV.aq at h|-;obtain⟨vs,h1,h2⟩:=h;exact⟨vs,h1,AV.jr hψ cs _ (by simpa[AV.dm]using hf) h2⟩
 |.yld _,_,hf,_=>by simp[AV.dm]at hf
 |.gst _,_,hf,_=>by simp[AV.dm]at hf
 |.rop _,_,hf,_=>by simp[AV.dm]at hf
 |.fl _,_,hf,_=>by simp[AV.dm]at hf
 |.ptr _ _,_,hf,_=>by simp[AV.dm]at hf
 |.eptr _ _ _ _,_,hf,_=>by simp[AV.dm]at hf
 |.slk _ _ _ _ _,_,hf,_=>by simp[AV.dm]at hf
 |.mref _,_,hf,_=>by simp[AV.dm]at hf
 |.itr _ _,_,hf,_=>by simp[AV.dm]at hf
 |.nsl _ _ _ _,_,hf,_=>by simp[AV.dm]at hf
 |.nptr _ _ _ _,_,hf,_=>by simp[AV.dm]at hf
 |.clo _ _,_,hf,_=>by simp[AV.dm]at hf
theorem AV.jr{G G':Gh}{m m':HM}{ψ:Hd->Hd}(hψ:∀h loc,m h=some loc->m' (ψ h)=some loc):∀(as:List AV) (vs:List Value),AV.dq as=true->AV.bb G m as vs->AV.bb G' m' (AV.dh ψ as) vs
 |[],_,_,h=>by unfold AV.dh;unfold AV.bb at h|-;exact h
 |a::as,_,hf,h=>by simp only[AV.dq,μ]at hf;unfold AV.dh;unfold AV.bb at h|-;obtain⟨v,vs',h1,h2,h3⟩:=h;exact⟨v,vs',h1,AV.lq hψ a v hf.1 h2,AV.jr hψ as vs' hf.2 h3⟩
end
theorem Zs(hX:∀{vs:Array Value} {w:World} {R R':Value->World->Prop},X vs w R->(∀v w',R v w'->R' v w')->X vs w R')
  (hc:∀(w:World) (G:Gh) (m:HM) (vs:Array Value),cf G m (gH [] []) w->(∀i,m (.O i)=none)->AV.bb G m (AV.ft lk ks args) vs.toList->X vs w fun v w'=>pZ w G m (gH [] nbs) r v w')
 (hl:ct lk lk2) (hS:cf G m lk2 w) (hrep:AV.bb G m args vs.toList) (hn:∀j,j<nbs.length->m (.O (n+j))=none) (hro:AV.dm r=true) (hnb:nbs.all bn.ku=true):
  X vs w fun v w'=>
   bj G m lk2 n (AV.cg (bU [] n) r) (nbs.map (bn.cg (bU [] n))) [] w v w':=by
 obtain⟨G1,hS1,hle1,hG1⟩:=hS.freeze (ja lk (AV.cm args));have hrep1:AV.bb G1 (fun _=>none) (AV.ft lk ks args) vs.toList:=by
  refine AV.jg ?_ (AV.bb.mono hle1 (HM.le.refl m) _ _ hrep);refine AV.ef (lk:=lk) hS1 (fun h mt k es hh=>?_) (fun h h' loc hh=>by cases hh) args _ (fun h hh mt k es _ hsome hrow=>?_) (AV.bb.mono hle1 (HM.le.refl m) _ _ hrep)
  ·obtain⟨mt',h2⟩:=hl.row h mt k es hh;unfold fo;split
   ·exact⟨false,by rw[h2];rfl⟩
   ·exact⟨mt',h2⟩
  ·unfold fo at hrow;rw[if_pos (zm hh hsome)]at hrow;cases hx:lk2 h with
   |none=>rw[hx]at hrow;cases hrow
   |some bl=>
    rw[hx]at hrow;cases bl with
    |box cs=>cases hrow
    |row mt' k' es'=>cases hrow;rfl
    |nst _ _=>cases hrow
    |sb _ _ _=>cases hrow
    |mp _ _ _=>cases hrow
    |it=>cases hrow
 have h0:cf G1 (fun _=>none) (gH [] []) w:=⟨(fun _ _ _ h=>by cases h),(fun _ h=>by cases h),(fun _ _ _ _ _ h=>by cases h),hS1.gh,(fun _ h=>by cases h),hS1.gl,(fun _ _ _ _ h=>by cases h)⟩;refine hX (hc w G1 (fun _=>none) vs h0 (fun _=>rfl) hrep1) fun v w' h=>?_;obtain⟨G2,m2,hS2,hr2,hfr,hB,hO,hO3⟩:=h;have hnoOwn:∀b,¬Own (fun _=>none) b:=Own.no;have hBn:∀i,m2 (.B i)=none:=fun i=>by
  rcases hB i with h|⟨h,_⟩|⟨_,_,_,_,h,_⟩
  ·exact h
  ·exact absurd rfl h
  ·cases h
 let m':HM:=fun h=>match h with
  |.B i=>m (.B i)
  |.O i=>if n<=i/\i<n+nbs.length then m2 (.O (i-n))else m (.O i)
 have hm'old:∀h,(∀j,j<nbs.length->h≠.O (n+j))->m' h=m h:=fun h hh=>by
  cases h with
  |B i=>rfl
  |O i=>
   show(if n<=i/\i<n+nbs.length then m2 (.O (i-n))else m (.O i))=_;rw[if_neg (fun hc=>hh (i-n) (by omega) (by rw[show n+(i-n)=i by omega]))]
 have hm'new:∀j,j<nbs.length->m' (.O (n+j))=m2 (.O j):=fun j hj=>by show(if n<=n+j/\n+j<n+nbs.length then m2 (.O (n+j-n))else m (.O (n+j)))=_;rw[if_pos ⟨by omega,by omega⟩,aaP]
 have hle':HM.le m m':=fun h loc hh=>.inl (.inl (by
  rw[hm'old h (fun j hj e=>by subst e;rw[hn j hj]at hh;cases hh)];exact hh))
 have hO2:∀i loc,m2 (.O i)=some loc->i<nbs.length:=fun i loc hi=>by
  cases hx:nbs[i]?with
  |none=>rw[hO3 i hx]at hi;cases hi
  |some bl=>exact(υ.1 hx).1
 have hback:∀h loc,m2 h=some loc->m' (bU [] n h)=some loc:=fun h loc hh=>by
  cases h with
  |B i=>rw[hBn i]at hh;cases hh
  |O i=>show m' (.O (n+i))=_;rw[hm'new i (hO2 i loc hh)];exact hh
 have hsplit:∀h loc,m' h=some loc->(m h=some loc/\(∀j,j<nbs.length->h≠.O (n+j)))\/(∃j,j<nbs.length/\h=.O (n+j)/\m2 (.O j)=some loc):=fun h loc hh=>by
  by_cases hc:∃j,j<nbs.length/\h=.O (n+j)
  ·obtain⟨j,hj,rfl⟩:=hc;rw[hm'new j hj]at hh;exact .inr ⟨j,hj,rfl,hh⟩
  ·have hc':∀j,j<nbs.length->h≠.O (n+j):=fun j hj e=>hc ⟨j,hj,e⟩;rw[hm'old h hc']at hh;exact .inl ⟨hh,hc'⟩
 have hlkOld:∀h,(∀j,j<nbs.length->h≠.O (n+j))->ij lk2 n (nbs.map (bn.cg (bU [] n))) h=lk2 h:=fun h hh=>by
  cases h with
  |B i=>rfl
  |O i=>
   simp only[ij,κ];rw[if_neg (fun hc=>hh (i-n) (by omega) (by rw[show n+(i-n)=i by omega]))]
 have hlkNew:∀j bl,nbs[j]?=some bl->ij lk2 n (nbs.map (bn.cg (bU [] n))) (.O (n+j))=some (bl.cg (bU [] n)):=fun j bl hj=>by have hlt:=(υ.1 hj).1;simp only[ij,κ];rw[if_pos ⟨by omega,by omega⟩,aaP,aac,hj];rfl
 have hsz:∀j l b,m2 (.O j)=some l->b∈l.ga->w.heap.size<=b:=fun j l b h hb=>by
  rcases hO (.O j) l b h hb with h|h
  ·exact h
  ·exact absurd h (hnoOwn b)
 have hgh:∀b o u,G b o=some u->w'.cell? ⟨b,o,none⟩=some u:=fun b o u hu=>by have h1:=hS.gh b o u hu;have hlt:=World.block_lt_of_cell? w _ h1;rw[World.cell?_of_block (w:=w) (hfr.heap b hlt (hnoOwn b))];exact h1
 have hGb:∀b,w.heap.size<=b->∀o,G b o=none:=fun b hb o=>by
  cases hx:G b o with
  |none=>rfl
  |some u=>
   have:=World.block_lt_of_cell? w _ (hS.gh b o u hx);exact absurd this (Nat.not_lt.2 hb)
 have hflr:∀j bl,nbs[j]?=some bl->bn.ku bl=true:=fun j bl hj=>aa1.1 hnb bl (aar hj);refine⟨G,m',?_,AV.lq hback r v hro hr2,?_,fun h hh=>hm'old h (by simpa using hh),fun j l b hj h hb=>?_⟩
 ·rw[eD];refine⟨?_,?_,?_,hgh,?_,hS.gl,?_⟩
  ·intro h b sz hh;rcases hsplit h _ hh with⟨h1,h2⟩|⟨j,hj,rfl,h1⟩
   ·obtain⟨bl,hl',hb⟩:=hS.fh h b sz h1;rw[hlkOld h h2];exact⟨bl,hl',hb.mono (Gh.le.refl G) hle' (fun _=>rfl) (hfr.heap b (hS.lt h1) (hnoOwn b))⟩
   ·obtain⟨bl,hl',hb⟩:=hS2.fh _ b sz h1;have hl':nbs[j]?=some bl:=hl';have hfl:=hflr j bl hl';have hbs:=hsz j _ b h1 (aai.2 rfl);refine⟨_,hlkNew j bl hl',?_⟩;cases bl with
    |row mt k es=>
     cases mt with
     |true=>
      obtain⟨vs',T,q1,q2,q3,q4,_⟩:=hb;exact⟨vs',T,q1,q2,q3,DV.gw hfl q4,hGb b hbs⟩
     |false=>cases hfl
    |_=>cases hfl
  ·intro h hh;rcases hsplit h _ hh with⟨h1,h2⟩|⟨j,hj,rfl,h1⟩
   ·obtain⟨mt,k,hl'⟩:=hS.nil h h1;rw[hlkOld h h2];exact⟨mt,k,hl'⟩
   ·obtain⟨mt,k,hl'⟩:=hS2.nil _ h1;exact⟨mt,k,hlkNew j _ hl'⟩
  ·intro h h' l l' b hh hh' hb hb';rcases hsplit h _ hh with⟨h1,h2⟩|⟨j,hj,rfl,h1⟩<;>rcases hsplit h' _ hh' with⟨h1',h2'⟩|⟨j',hj',rfl,h1'⟩
   ·exact hS.da h h' l l' b h1 h1' hb hb'
   ·have:=hS.vt h1 hb;have:=hsz j' l' b h1' hb';omega
   ·have:=hS.vt h1' hb';have:=hsz j l b h1 hb;omega
   ·have:=hS2.da _ _ l l' b h1 h1' hb hb';cases this;rfl
  ·intro h hh;rcases hsplit h _ hh with⟨h1,h2⟩|⟨j,hj,rfl,h1⟩
   ·rw[hlkOld h h2];exact hS.dead h h1
   ·have:=hS2.dead _ h1;have hx:nbs[j]?=none:=this;rw[abS]at hx;omega
  ·intro h b sz fp hh;rcases hsplit h _ hh with⟨h1,h2⟩|⟨j,hj,rfl,h1⟩
   ·obtain⟨bl,hl',hb⟩:=hS.di h b sz fp h1;rw[hlkOld h h2];exact⟨bl,hl',hb.mono (Gh.le.refl G) hle' (fun _ _ _=>rfl) (fun c hc=>hfr.heap c (hb.lt c hc) (hnoOwn c)) (.all fun b hb=>hfr.heap b hb (hnoOwn b))⟩
   ·obtain⟨bl,hl',hb⟩:=hS2.di _ b sz fp h1;have hl':nbs[j]?=some bl:=hl';have hfl:=hflr j bl hl';cases bl with
    |row mt k es=>exact hb.elim
    |_=>cases hfl
 ·exact⟨hfr.os,hfr.tape,hfr.output,hfr.size,fun b hb _=>hfr.heap b hb (hnoOwn b),fun _ _ _ _=>rfl,Gh.le.refl G⟩
 ·rw[κ]at hj;rw[hm'new j hj]at h;exact hsz j l b h hb
theorem Tt{z:Bool}(hz:z=true->AV.dm r=true/\nbs.all bn.ku=true)(hc:de P fn (AV.ft lk ks args) [] r [] nbs)
 (hl:ct lk lk2) (hS:cf G m lk2 w) (hrep:AV.bb G m args vs.toList) (hn:∀j,j<nbs.length->m (.O (n+j))=none):
  db P fn vs w fun v w'=>
   bj G m lk2 n (AV.cg (bU [] n) r) (nbs.map (bn.cg (bU [] n))) (if AV.flat r=true/\nbs=[]then[]else Aa z (ja lk (AV.cm args))) w v w':=by
 unfold Aa;cases z with
 |true=>
  have h:=hz rfl;have:=Zs (X:=db P fn) db.mono hc hl hS hrep hn h.1 h.2;by_cases hc2:AV.flat r=true/\nbs=[]
  ·rw[if_pos hc2];exact this
  ·rw[if_neg hc2];exact this
 |false=>exact E1 hc hl hS hrep hn
theorem JD{pv:Value}(hc:wj P fn (AV.bq lk (fun _=>none) args) pv)
 (hl:ct lk lk2) (hS:cf G m lk2 w) (hrep:AV.bb G m args vs.toList):
  ic P fn pv vs w fun v w'=>bj G m lk2 n .any [] [] w v w':=by have h:=NH (X:=ic P fn pv) ic.mono (ks:=[]) (r:=.any) (nbs:=[]) (n:=n) hc hl hS hrep (fun j hj=>by simp at hj);rwa[if_pos ⟨rfl,rfl⟩]at h
def bH:TypeDesc->Bool
 |.struct _=>true
 |.array _ _=>true
 |_=>false
def El(P:Program)(T k:Nat):Option Field:=
 match P.underlying T with
 |some (.struct fs)=>fs[k]?
 |_=>none
def V9:TypeDesc->Bool
 |.bool=>true
 |.int _=>true
 |.string=>true
 |_=>false
def kA(P:Program):List Field->Nat->Option (List Nat)
 |[],_=>some []
 | f :: fs, j => if f.name ≠ "_" /\ f.offset = j then
   match P.underlying f.type,kA P fs (j+1)with
   |some .bool,some r=>some (0::r)
   |some (.int _),some r=>some (1::r)
   |some .string,some r=>some (2::r)
   |_,_=>none
  else none
def uH:BinOp->Bool
 |.eql=>true
 |.neq=>true
 |_=>false
def dR:BinOp->Bool
 |.neq=>true
 |_=>false
def Nw(P:Program)(T:TypeId):Bool:=match P.underlying T with
 |some (.array _ e)=>match P.underlying e with
  |some d=>V9 d
  |_=>false
 |_=>false
def UN(P:Program)(T:TypeId):Bool:=match P.underlying T with
 |some (.int _)=>true
 |some (.array _ e)=>match P.underlying e with
  |some (.int _)=>true
  |_=>false
 |_=>false
def VD(P:Program)(T:TypeId):Bool:=match P.underlying T with
 |some (.struct fs)=>fs.toList.any (fun f=>Nw P f.type)&&fs.toList.all (fun f=>UN P f.type)
 |_=>false
def Kx(P:Program)(T:TypeId):Bool:=Nw P T||VD P T
def Sh.len:Sh->Nat
 |.s _=>1
 |.a _ m=>m
def iS:List Sh->Nat
 |[]=>0
 |x::r=>x.len+iS r
def qX(P:Program)(f:TypeId->Option (List Sh)):List Field->Nat->Option (List Sh)
 |[],_=>some []
 |x::r,off=>if x.name= "_"\/x.offset≠off then none else match f x.type,P.info? x.type,qX P f r (off+P.cellsOf x.type)with
  |some a,some _,some b=>if iS a=P.cellsOf x.type then some (a++b)else none
  |_,_,_=>none
def zE(P:Program):Nat->TypeId->Option (List Sh)
 |0,_=>none
 |n+1,T=>match P.underlying T with
  |some .bool=>some [.s 0]
  |some (.int _)=>some [.s 1]
  |some .string=>some [.s 2]
  |some (.array m e)=>match P.underlying e,P.info? e with
   |some (.int k),some i=>if i.size=1 then some [.a k m]else none
   |some _,some _=>(zE P n e).bind fun l=>if iS l=P.cellsOf e then some (aae m l).flatten else none
   |_,_=>none
  |some (.struct fs)=>if P.stoodInHeld T=true then none else qX P (zE P n) fs.toList 0
  |_=>none
def zj(P:Program):List Field->Nat->Option (List IntKind)
 |[],_=>some []
 |x::fs,off=>if x.name= "_"\/x.offset≠off then none else match P.underlying x.type,P.info? x.type,zj P fs (off+1)with
  |some (.int k),some i,some l=>if i.size=1 then some (k::l)else none
  |_,_,_=>none
def s9(P:Program)(T:TypeId):Option (List IntKind):=match P.underlying T with
 |some (.array m e)=>match P.underlying e,P.info? e with
  |some (.int k),some i=>if i.size=1 then some (aae m k)else none
  |_,_=>none
 |some (.struct fs)=>if P.stoodInHeld T=true then none else zj P fs.toList 0
 |_=>none
def sq(P:Program)(T:TypeId):KD->Prop
 |.i k=>P.underlying T=some (.int k)
 |.s=>P.underlying T=some .string
 |.a ks=>s9 P T=some ks
def E4(P:Program)(T:TypeId):Option KD:=match P.underlying T with
 |some (.int k)=>some (.i k)
 |some .string=>some .s
 |_=>(s9 P T).map .a
theorem Zy{kd:KD}(h:E4 P T=some kd):sq P T kd:=by
 unfold E4 at h;split at h
 ·cases h;assumption
 ·cases h;assumption
 ·rw[ι]at h;obtain⟨ks,h,rfl⟩:=h;exact h
def ue(P:Program)(T:TypeId):Option (KD×TypeId):=match P.underlying T with
 |some (.map k e)=>(E4 P k).map fun kd=>(kd,e)
 |_=>none
theorem qT{kd:KD}(h:ue P T=some (kd,e)):∃k,P.underlying T=some (.map k e)/\sq P k kd:=by
 unfold ue at h;split at h
 ·rename_i k e' hu;rw[ι]at h;obtain⟨kd',h1,h2⟩:=h;cases h2;exact⟨k,hu,Zy h1⟩
 ·cases h
def XF(P:Program)(T:TypeId):Nat:=match P.underlying T with
 |some (.slice e)=>P.cellsOf e
 |_=>0
def SA(P:Program)(T:TypeId):TypeId:=match P.underlying T with
 |some (.struct fs)=>match fs.toList with
  |[_,f]=>match P.underlying f.type with
   |some (.slice e)=>e
   |_=>0
  |_=>0
 |_=>0
def Hs(z:Value):Bool:=match z.cells.toList with
 |[.pointer none,.slice none 0 0]=>true
 |_=>false
def PD(P:Program)(T:TypeId):Bool:=match P.info? T with
 |some i=>match i.zero with
  |some z=>Hs z&&i.str== "strings.Builder"
  |none=>false
 |none=>false
theorem YM(h:Hs z=true):z.cells=#[.pointer none,.slice none 0 0]:=by
 unfold Hs at h;split at h
 ·rename_i e;exact Array.ext' e
 ·cases h
def aA(P:Program)(o:Oper):Option bu:=
 match o.op with
 |.makeMap T none=>(ue P T).map fun p=>.mkm p.1
 |.lookup T x y ok=>(ue P T).bind fun p=>(P.info? p.2).bind fun i=>i.zero.map fun z=>.mget p.1 (qG z) (XF P p.2) ok x y
 |.mapUpdate T x y z=>if o.dst.isNone=true then(ue P T).map fun p=>.mput p.1 x y z else none
 |.insert T x y z=>if o.dst.isNone=true then(ue P T).map fun p=>.mput p.1 x y z else none
 |.range T x=>(ue P T).map fun p=>.rng p.1 x
 |.next x false=>some (.nxt x)
 |.entry x=>some (.ent x)
 |.move x=>some (.mv x)
 |.assign x=>some (.mv x)
 |.pick c a b=>some (.pick c a b)
 |.alloc T=>(P.info? T).bind fun i=>i.zero.map fun z=>if Kx P T=true then .newR (z.cells.toList.map jJ)else if PD P T=true then .newB (T,SA P T)else .new (z.cells.toList.map jJ)
 |.box T x=>if Kx P T=true then some (.boxR x)else some (.box x)
 |.load T x=>match P.underlying T,P.info? T with
  |some d,some i=>some (.load (if bH d then some i.size else none) x)
  |_,_=>none
 |.store T a x=>if o.dst.isNone=true then(P.info? T).map fun i=>.store i.size a x else none
 |.binOp op T x y _=>match P.underlying T with
  |some (.struct fs)=>if !P.eqGuardType P.depth T&& !P.stoodInHeld T&&uH op then(match kA P fs.toList 0 with|some kds=>some (.eqs (dR op) kds x y)|none=>(zE P 100 T).map fun sh=>.eqg (dR op) sh x y)else none
  |some (.array m e)=>match P.underlying e,P.info? e with
   |some (.int k),some i=>if !P.eqGuardType P.depth T&&uH op&&i.size==1 then some (.eqa (dR op) k m x y)else none
   |_,_=>if !P.eqGuardType P.depth T&&uH op then(zE P 100 T).map fun sh=>.eqg (dR op) sh x y else none
  |some .bool=>if uH op then some (.beq (dR op) x y)else none
  |some (.interface _)=>match y with
   |.const .nilIface=>if uH op then some (.isn (dR op) x)else none
   |_=>none
  |some (.int _)=>some (.bin op x y)
  |some .string=>some (.bin op x y)
  |some (.slice _)=>match y with
   |.const (.slice none 0 0)=>if uH op then some (.isnil (dR op) x)else none
   |_=>none
  |some (.pointer _)=>match y with
   |.const (.pointer none)=>if uH op then some (.isp (dR op) x)else none
   |_=>none
  |_=>none
 |.unOp op _ x=>some (.un op x)
 |.fieldAddr T x k=>(El P T k).bind fun f=>(P.info? f.type).bind fun i=>if i.size=0 then none else some (.faddr f.offset x)
 |.field T x k=>(El P T k).bind fun f=>match P.underlying f.type,P.info? f.type with
  |some d,some i=>some (.field f.offset (if bH d then some i.size else none) x)
  |_,_=>none
 |.indexAddr T x i=>match P.underlying T with
  |some (.slice e)=>(P.info? e).map fun inf=>.iaddr inf.size x i
  |some (.array m e)=>if 1<m then(P.info? e).map fun inf=>.iaddrA m inf.size x i else none
  |_=>none
 |.index T x i=>match P.underlying T with
  |some .string=>some (.ixs x i)
  |some (.array m e)=>match P.underlying e,P.info? e with
   |some d,some inf=>some (.idxA m inf.size (if bH d then some inf.size else none) x i)
   |_,_=>none
  |_=>none
 |.slice T x lo hi mx=>match P.underlying T with
  |some .string=>if mx.isNone then some (.sls x lo hi)else none
  |some (.slice e)=>(P.info? e).map fun inf=>.sll inf.size x lo hi mx
  |some (.array m e)=>if mx.isNone then(P.info? e).bind fun inf=>if inf.size=1 then some (.slsA m x lo hi)else none else none
  |_=>none
 |.sliceToArrayPointer T x=>match P.underlying T with
  |some (.array m _)=>some (.arrP m x)
  |_=>none
 |.nilCheck x=>some (.nilc x)
 |.extract x i=>some (.ext x i)
 |.makeSlice T x y=>match P.underlying T with
  |some (.slice e)=>(P.info? e).bind fun i=>i.zero.bind fun z=>if z.cells.size==i.size then some (.mks i.size i.bytes (z.cells.toList.map iP) x y)else none
  |_=>none
 |.convert src dst x=>match P.underlying src,P.underlying dst with
  |some (.int _),some (.int k)=>some (.cvI k x)
  |some (.slice e),some .string=>match P.underlying e with
   |some (.int .u8)=>some (.cvS x)
   |_=>none
  |some .string,some (.slice e)=>match P.underlying e with
   |some (.int .u8)=>some (.kg x)
   |_=>none
  |_,_=>none
 |.makeInterface T x=>match P.underlying T with
  |some (.struct fs)=>if fs.size=0 then some (.mkI T x)else none
  |_=>none
 |.panic x=>some (.ny x)
 |.typeAssert x _ T ok=>match P.underlying T with
  |some (.struct fs)=>if ok=true/\fs.size=0 then some (.tas T x)else none
  |_=>none
 |.makeFunc (.func f) first caps=>if first.size=0 then some (.mkf f caps.toList)else none
 |.build T ps=>match P.underlying T,P.info? T with
  |some (.struct fs),some i=>if fs.toList.all (fun f=>(P.info? f.type).isSome)then i.zero.bind fun z=>(ps.toList.mapM fun p=>(fs[p.1]?).bind fun f=>(P.info? f.type).map fun fi=>(f.offset,fi.size,p.2)).map fun l=>.build (z.cells.toList.map jJ) l else none
  |some (.array m e),some i=>(P.info? e).bind fun fi=>i.zero.map fun z=>.build (z.cells.toList.map jJ) (ps.toList.map fun p=>(p.1*fi.size,fi.size,p.2))
  |_,_=>none
 |.buildSlice T n ps=>match P.underlying T with
  |some (.slice e)=>(P.info? e).bind fun i=>if(ps.toList.map (·.1))==List.range n&&n*i.size<=16777216&&0<i.size&&i.zero.isSome then some (.bslice i.size (ps.toList.map (·.2)))else none
  |_=>none
 |.call c=>match c.callee with
  |.value f=>some (.call f c.args.toList)
  |.builtin .len=>match c.args.toList,c.argTypes.toList with
   |[x],[t]=>match P.underlying t with
    |some .string=>some (.len true x)
    |some (.slice _)=>some (.len false x)
    |some (.map _ _)=>some (.mlen x)
    |_=>none
   |_,_=>none
  |.builtin .delete=>match c.args.toList,c.argTypes.toList with
   |[x,y],[t,_]=>if o.dst.isNone=true then(ue P t).map fun p=>.mdel p.1 x y else none
   |_,_=>none
  |.builtin .cap=>match c.args.toList,c.argTypes.toList with
   |[x],[t]=>match P.underlying t with
    |some (.slice _)=>some (.capK x)
    |_=>none
   |_,_=>none
  |.builtin .clear=>match c.args.toList,c.argTypes.toList with
   |[x],[t]=>match P.underlying t with
    |some (.slice e)=>(P.info? e).bind fun i=>i.zero.bind fun z=>if z.cells.size==i.size&&(z.cells.toList.map iP).all (fun d=>match d with|.C v=>v.oneCell'|_=>true)then some (.clr i.size (z.cells.toList.map iP) x)else none
    |_=>none
   |_,_=>none
  |.builtin .copy=>match c.args.toList,c.argTypes.toList with
   |[x,y],[t,_]=>match P.underlying t with
    |some (.slice e)=>(P.info? e).map fun i=>.cpy i.size x y
    |_=>none
   |_,_=>none
  |.builtin .min=>match c.args.toList with
   |[x,y]=>some (.mm false x y)
   |_=>none
  |.builtin .max=>match c.args.toList with
   |[x,y]=>some (.mm true x y)
   |_=>none
  |.builtin .append=>match c.args.toList,c.argTypes.toList with
   |[x,y],[t,u]=>match P.underlying t,P.underlying u with
    |some (.slice e),some (.int _)=>(P.info? e).bind fun i=>i.zero.bind fun z=>if 0<i.size&&0<i.bytes&&z.cells.size==i.size then some (.appZ i.size i.bytes (z.cells.toList.map iP) x y)else none
    |some (.slice e),some d=>(P.info? e).bind fun i=>if(match d with|.slice e'=>(P.info? e').any (·.size==i.size)|.string=>i.size==1|_=>false)&&0<i.size&&0<i.bytes&&i.zero.any (fun z=>z.cells.size==i.size)then some (.app i.size i.bytes x y)else none
    |_,_=>none
   |_,_=>none
  |_=>none
 |_=>none
def bu.operands:bu->List Operand
 |.mv x=>[x]
 |.pick c a b=>[c,a,b]
 |.new _=>[]
 |.box x=>[x]
 |.build _ ps=>ps.map (·.2.2)
 |.bslice _ ps=>ps
 |.bsF _ ps=>ps
 |.stop=>[]
 |.load _ x=>[x]
 |.store _ a x=>[a,x]
 |.bin _ x y=>[x,y]
 |.eqs _ _ x y=>[x,y]
 |.beq _ x y=>[x,y]
 |.un _ x=>[x]
 |.faddr _ x=>[x]
 |.field _ _ x=>[x]
 |.iaddr _ x i=>[x,i]
 |.sls x lo hi=>x::(lo.toList++hi.toList)
 |.sll _ x lo hi mx=>x::(lo.toList++hi.toList++mx.toList)
 |.ixs x i=>[x,i]
 |.ext x _=>[x]
 |.call f args=>f::args
 |.len _ x=>[x]
 |.app _ _ x y=>[x,y]
 |.mm _ x y=>[x,y]
 |.mkf _ caps=>caps
 |.isnil _ x=>[x]
 |.isp _ x=>[x]
 |.cvI _ x=>[x]
 |.cvS x=>[x]
 |.appE _ _ x y=>[x,y]
 |.callE f args=>f::args
 |.loadS _ x=>[x]
 |.faddrS _ x=>[x]
 |.nilcS x=>[x]
 |.lenS _ x=>[x]
 |.sllS _ x lo hi mx=>x::(lo.toList++hi.toList++mx.toList)
 |.clr _ _ x=>[x]
 |.cpy _ x y=>[x,y]
 |.mks _ _ _ x y=>[x,y]
 |.capK x=>[x]
 |.appZ _ _ _ x y=>[x,y]
 |.iaddrA _ _ x i=>[x,i]
 |.idxA _ _ _ x i=>[x,i]
 |.slsA _ x lo hi=>x::(lo.toList++hi.toList)
 |.arrP _ x=>[x]
 |.nilc x=>[x]
 |.eqa _ _ _ x y=>[x,y]
 |.eqg _ _ x y=>[x,y]
 |.newR _=>[]
 |.boxR x=>[x]
 |.loadD _ x=>[x]
 |.iaddrD _ x i=>[x,i]
 |.sllD _ x lo hi mx=>x::(lo.toList++hi.toList++mx.toList)
 |.kg x=>[x]
 |.mkI _ x=>[x]
 |.ny x=>[x]
 |.isn _ x=>[x]
 |.tas _ x=>[x]
 |.callP f args=>f::args
 |.mkm _=>[]
 |.newB _=>[]
 |.mkmW _=>[]
 |.mget _ _ _ _ x y=>[x,y]
 |.mtake _ _ _ _ x y=>[x,y]
 |.mput _ x y z=>[x,y,z]
 |.mdel _ x y=>[x,y]
 |.mlen x=>[x]
 |.rng _ x=>[x]
 |.nxt x=>[x]
 |.ent x=>[x]
 |.entT x=>[x]
def bu.ht:bu->Bool
 |.new _=>true
 |.box _=>true
 |.bslice _ _=>true
 |.load _ _=>true
 |.store _ _ _=>true
 |.faddr _ _=>true
 |.iaddr _ _ _=>true
 |.sll _ _ _ _ _=>true
 |.call _ _=>true
 |.len _ _=>true
 |.app _ _ _ _=>true
 |.isnil _ _=>true
 |.isp _ _=>true
 |.cvS _=>true
 |.appE _ _ _ _=>true
 |.callE _ _=>true
 |.clr _ _ _=>true
 |.cpy _ _ _=>true
 |.mks _ _ _ _ _=>true
 |.capK _=>true
 |.appZ _ _ _ _ _=>true
 |.iaddrA _ _ _ _=>true
 |.nilc _=>true
 |.newR _=>true
 |.boxR _=>true
 |.kg _=>true
 |.ny _=>true
 |.callP _ _=>true
 |.mkm _=>true
 |.newB _=>true
 |.mkmW _=>true
 |.mget _ _ _ _ _ _=>true
 |.mtake _ _ _ _ _ _=>true
 |.mput _ _ _ _=>true
 |.mdel _ _ _=>true
 |.mlen _=>true
 |.rng _ _=>true
 |.nxt _=>true
 |.ent _=>true
 |.entT _=>true
 |_=>false
def bp(P:Program)(o:Oper)(ρ:Operand->Value)(w:World)(R:Value->World->Prop):Prop:=
 match(execOp ρ o).run P w with
 |.ok (.value v) w'=>R v w'
 |.ok .skip w'=>R undef w'
 |.ok (.enter f args) w'=>Calls P f args w' fun e w''=>∃v,e=.returned v/\R v w''
 |_=>False
theorem bp.val{o:Oper}(h:(execOp ρ o).run P w=.ok (.value v) w')(hR:R v w'):bp P o ρ w R:=by unfold bp;rw[h];exact hR
theorem bp.mono{P:Program}{o:Oper}{ρ:Operand->Value}{w:World}{R R':Value->World->Prop}(h:bp P o ρ w R)(hr:∀v w',R v w'->R' v w'):bp P o ρ w R':=by
 unfold bp at*;split at h
 ·exact hr _ _ h
 ·exact hr _ _ h
 ·exact h.mono fun e w'' ⟨v,he,h⟩=>⟨v,he,hr _ _ h⟩
 ·exact h.elim
def ni:Option bn->Option (Nat×Nat)
 |some (.row _ k es)=>some (k,es.length)
 |_=>none
theorem Jq{b:Option bn}(h:ni b=some (k,n)):∃mt es,b=some (.row mt k es)/\es.length=n:=by
 unfold ni at h;split at h
 ·cases h;exact⟨_,_,rfl,rfl⟩
 ·cases h
def CM:bu->Bool
 |.loadS _ _=>true
 |.faddrS _ _=>true
 |.nilcS _=>true
 |.lenS _ _=>true
 |.sllS _ _ _ _ _=>true
 |_=>false
def dv(ld:Bool)(b b':Option bn):Prop:=if ld=true then b'.map bn.kf=b.map bn.kf else ni b'=ni b
theorem Ob(b:Option bn):ni (b.map bn.kf)=ni b:=by
 cases b with
 |none=>rfl
 |some b=>cases b<;>rfl
theorem dv.refl(ld:Bool)(b:Option bn):dv ld b b:=by unfold dv;split<;>rfl
theorem dv.trans{ld:Bool}{b b' b'':Option bn}(h:dv ld b b')(h':dv ld b' b''):dv ld b b'':=by
 unfold dv at*;split
 ·rename_i e;rw[if_pos e]at h h';exact h'.trans h
 ·rename_i e;rw[if_neg e]at h h';exact h'.trans h
theorem dv.symm{ld:Bool}{b b':Option bn}(h:dv ld b b'):dv ld b' b:=by
 unfold dv at*;split
 ·rename_i e;rw[if_pos e]at h;exact h.symm
 ·rename_i e;rw[if_neg e]at h;exact h.symm
theorem dv.Ii{ld':Bool}{b:Option bn}(h:dv ld b b')(hl:ld'=true->ld=true):dv ld' b b':=by
 unfold dv at*;split
 ·rename_i e;rwa[if_pos (hl e)]at h
 ·split at h
  ·rw[<-Ob b',h,Ob]
  ·exact h
def kz(ro:bu)(ev:Operand->AV)(lk lk2:bJ):Prop:=
 match ro.mw with
 |some x=>∀h,(ev x).mu=some h->dv (CM ro) (lk h) (lk2 h)
 |none=>ro.ht=true->ct lk lk2
theorem kz.refl(ro:bu)(ev:Operand->AV)(lk:bJ):kz ro ev lk lk:=by
 unfold kz;split
 ·exact fun _ _=>dv.refl _ _
 ·exact fun _=>ct.refl _
def PS(P:Program)(o:Oper)(ro:bu)(lk:bJ)(n:Nat)(ev:Operand->AV)(K:AV->List bn->List Hd->Prop):Prop:=
 ∃a nbs fz,K a nbs fz/\(ro.ht=false->nbs=[]/\fz=[])/\(∀h∈fz,(lk h).isSome=true)/\∀(G:Gh) (m:HM) (w:World) (ρ:Operand->Value) (_:∀v,ρ (.const v)=v) (lk2:bJ),kz ro ev lk lk2->cf G m lk2 w->(∀x∈ro.operands,AV.aq G m (ev x) (ρ x))->
  (∀j,j<nbs.length->m (.O (n+j))=none)->bp P o ρ w (bj G m lk2 n a nbs fz w)
section
variable{P:Program}{o:Oper}{lk:bJ}{n:Nat}{ev:Operand->AV}{K:AV->List bn->List Hd->Prop}
theorem M0(ho:o.op=.move x\/o.op=.assign x)(h:aY P lk n ev (.mv x) K):PS P o (.mv x) lk n ev K:=by refine⟨_,_,_,h,by first|exact fun _=>⟨rfl,rfl⟩|(intro hh;cases hh),(by intro h hh;first|(cases hh;done)|exact(ξ.1 hh).2|(split at hh<;>first|exact(ξ.1 hh).2|cases hh)),fun G m w ρ _ lk2 _ hS hev _=>?_⟩;have hx:=hev x (by simp[bu.operands]);refine bp.val (v:=ρ x) (w':=w) ?_ (bj.val hS hx);rcases ho with ho|ho<;>simp[execOp,ho]
theorem W8{c a b:Operand}(ho:o.op=.pick c a b)(h:aY P lk n ev (.pick c a b) K):PS P o (.pick c a b) lk n ev K:=by
 obtain⟨x,hx,hK⟩:=h;refine⟨_,_,_,hK,by first|exact fun _=>⟨rfl,rfl⟩|(intro hh;cases hh),(by intro h hh;first|(cases hh;done)|exact(ξ.1 hh).2|(split at hh<;>first|exact(ξ.1 hh).2|cases hh)),fun G m w ρ _ lk2 _ hS hev _=>?_⟩;have hc:=hev c (by simp[bu.operands]);have ha:=hev a (by simp[bu.operands]);have hb:=hev b (by simp[bu.operands]);rw[hx]at hc;unfold AV.aq DV.aq at hc;refine bp.val (v:=if x then ρ a else ρ b) (w':=w) ?_ (bj.val hS ?_)
 ·simp[execOp,ho,hc,asBool]
 ·cases x<;>simpa
theorem lN(hi:P.info? T=some i)(hz:i.zero=some z)(w:World):(zeroValue T).run P w=.ok z w:=by simp[zeroValue,typeInfo,hi,hz]
theorem cO(hi:P.info? T=some i)(w:World):(sizeOf T).run P w=.ok i.size w:=by simp[sizeOf,typeInfo,hi]
theorem N8{lk:bJ}(hS:cf G m lk w)(T:TypeId)(h:AV.bb G m cs vs.toList):
  ∀m',HM.le m m'->bg G m' (.box cs) w.heap.size vs.size (w.alloc (.cells vs T)):=fun m' hm=>by unfold bg;exact⟨vs,T,heap_alloc_new w _,rfl,AV.bb.mono (Gh.le.refl G) hm _ _ h,fun o=>vW hS (me _) o⟩
theorem MH{n:Nat}(h:m' (.O n)=some (.at_ b sz)):AV.aq G m' (.ptr (.O n) 0) (.pointer (some ⟨b,0,none⟩)):=by unfold AV.aq;exact⟨rfl,_,h,fun _=>⟨b,sz,rfl,rfl⟩⟩
theorem G7{G:Gh}{f:Nat->Option Value}:∀{ds:List DV} {o:Nat},DV.cells G f o ds->DV.rows G f 1 o (ds.map fun d=>[d])
 |[],o,_=>by simp[DV.rows]
 |d::ds,o,h=>by unfold DV.cells at h;simp only[aaM];unfold DV.rows;refine⟨rfl,?_,G7 h.2⟩;unfold DV.cells;exact⟨h.1,by unfold DV.cells;trivial⟩
theorem F8{lk:bJ}(hS:cf G m lk w)(T:TypeId)(h:AV.bb G m cs vs.toList)(hd:AV.data cs=some ds):
  ∀m',bg G m' (.row true 1 (ds.map fun d=>[d])) w.heap.size vs.size (w.alloc (.cells vs T)):=fun m'=>by
 have hc:=AV.jd h hd (fun o=>vs[o]?) 0 (fun j _=>by simp);unfold bg;refine⟨vs,T,heap_alloc_new w _,rfl,?_,G7 hc,fun o=>vW hS (me _) o⟩;have:=AV.cd h;have hl:ds.length=cs.length:=by
  clear hc h this
  induction cs generalizing ds with
  |nil=>unfold AV.data at hd;cases hd;rfl
  |cons y ys ih=>
   cases y<;>unfold AV.data at hd<;>first|cases hd|skip
   simp only[ι]at hd;obtain⟨ds',hds',rfl⟩:=hd;simp[ih hds']
 simp at this|-;omega
theorem Gc{n:Nat}(h:m' (.O n)=some (.at_ b sz)):AV.aq G m' (.eptr (.O n) 1 0 0) (.pointer (some ⟨b,0,none⟩)):=by unfold AV.aq;exact⟨rfl,_,h,fun _=>⟨b,sz,rfl,rfl⟩⟩
theorem bOp{ro:bu}(ho:o.op=.alloc T)(hr:aA P o=some ro)(h:aY P lk n ev ro K):PS P o ro lk n ev K:=by
 simp only[aA,ho,η,ι]at hr;obtain⟨i,hi,z,hz,hr⟩:=hr;split at hr
 ·subst hr;obtain⟨ds,hd,h⟩:=h;refine⟨_,_,_,h,(by intro hh;cases hh),(by intro h hh;cases hh),fun G m w ρ _ lk2 _ hS hev hn=>?_⟩;refine bp.val (v:=.pointer (some ⟨w.heap.size,0,none⟩)) (w':=w.alloc (.cells z.cells T)) ?_ (bj.new hS (by simpa using hn 0 (by simp)) _ _ _ (fun m' _=>F8 hS T (AV.gg _) hd m') fun m' _ hm'=>Gc hm');simp[execOp,ho,Instr.alloc,lN hi hz,newVar,newRow]
 split at hr
 ·rename_i hsb;subst hr;unfold PD at hsb;rw[hi]at hsb;simp only[hz,μ]at hsb;have hzc:=YM hsb.1;refine⟨_,_,_,h,(by intro hh;cases hh),(by intro h hh;cases hh),fun G m w ρ _ lk2 _ hS hev hn=>?_⟩;refine bp.val (v:=.pointer (some ⟨w.heap.size,0,none⟩)) (w':=w.alloc (.cells z.cells T)) ?_ (bj.yc hS (by simpa using hn 0 (by simp)) _ _ (.atx w.heap.size 2 []) rfl (fun m' _=>⟨fun _ _ e=>(by cases e),fun b sz fp e=>?_⟩) fun m' _ hm'=>?_)
  ·simp[execOp,ho,Instr.alloc,lN hi hz,newVar,newRow]
  ·cases e;refine⟨(by simp),rfl,.slice none 0 0,?_,.inl ⟨rfl,rfl,rfl⟩,fun o=>vW hS (me _) o⟩;rw[hzc];exact heap_alloc_new w _
  ·unfold AV.aq;exact⟨rfl,_,hm',fun _=>⟨_,_,_,rfl,rfl⟩⟩
 ·subst hr;refine⟨_,_,_,h,(by intro hh;cases hh),(by intro h hh;cases hh),fun G m w ρ _ lk2 _ hS hev hn=>?_⟩;refine bp.val (v:=.pointer (some ⟨w.heap.size,0,none⟩)) (w':=w.alloc (.cells z.cells T)) ?_ (bj.new hS (by simpa using hn 0 (by simp)) _ _ _ (N8 hS T (AV.gg _)) fun m' _ hm'=>MH hm');simp[execOp,ho,Instr.alloc,lN hi hz,newVar,newRow]
theorem Y9(ho:o.op=.box T x)(h:aY P lk n ev (.boxR x) K):PS P o (.boxR x) lk n ev K:=by obtain⟨cs,ds,hcs,hd,hK⟩:=h;refine⟨_,_,_,hK,(by intro hh;cases hh),(by intro h hh;cases hh),fun G m w ρ _ lk2 _ hS hev hn=>?_⟩;have hx:=hev x (by simp[bu.operands]);refine bp.val (v:=.pointer (some ⟨w.heap.size,0,none⟩)) (w':=w.alloc (.cells (ρ x).cells T)) ?_ (bj.new hS (by simpa using hn 0 (by simp)) _ _ _ (fun m' _=>F8 hS T (AV.fq hcs hx).1 hd m') fun m' _ hm'=>Gc hm');simp[execOp,ho,Instr.box,newVar,newRow]
theorem Wz(ho:o.op=.box T x)(h:aY P lk n ev (.box x) K):PS P o (.box x) lk n ev K:=by obtain⟨cs,hcs,hK⟩:=h;refine⟨_,_,_,hK,by first|exact fun _=>⟨rfl,rfl⟩|(intro hh;cases hh),(by intro h hh;first|(cases hh;done)|exact(ξ.1 hh).2|(split at hh<;>first|exact(ξ.1 hh).2|cases hh)),fun G m w ρ _ lk2 _ hS hev hn=>?_⟩;have hx:=hev x (by simp[bu.operands]);refine bp.val (v:=.pointer (some ⟨w.heap.size,0,none⟩)) (w':=w.alloc (.cells (ρ x).cells T)) ?_ (bj.new hS (by simpa using hn 0 (by simp)) _ _ _ (N8 hS T (AV.fq hcs hx).1) fun m' _ hm'=>MH hm');simp[execOp,ho,Instr.box,newVar,newRow]
theorem fI(hd:P.underlying T=some d)(w:World):(isAgg T).run P w=.ok (bH d) w:=by simp only[isAgg,Sem.run_bind,run_underlying hd,Result.andThen_ok];cases d<;>rfl
theorem xL(hd:P.underlying T=some d)(hi:P.info? T=some i)(ha:bH d=true){vs:List Value}
  (hlen:vs.length=i.size) (hc:∀j v,vs[j]?=some v->w.cell? ⟨b,off+j,none⟩=some v):(loadVar T ⟨b,off,none⟩).run P w=.ok (.agg vs.toArray) w:=by simp only[loadVar,Sem.run_bind,fI hd,Result.andThen_ok,ha,if_true,cO hi];rw[<-hlen,run_loadCells_list w ⟨b,off,none⟩ vs (fun j v hj=>by rw[Addr.add_lit];exact hc j v hj)];simp
theorem xG(hd:P.underlying T=some d)(ha:bH d=false)
  (hc:w.cell? ⟨b,off,none⟩=some v):(loadVar T ⟨b,off,none⟩).run P w=.ok v w:=by simp[loadVar,fI hd,ha,hc]
theorem wQ{G:Gh}{f:Nat->Option Value}:∀{ds:List DV} {o:Nat},DV.cells G f o ds->∃vs:List Value,vs.length=ds.length/\∀j,j<vs.length->f (o+j)=vs[j]?
 |[],_,_=>⟨[],rfl,fun j hj=>by simp at hj⟩
 |d::ds,o,q=>by
  unfold DV.cells at q;obtain⟨⟨v,hv,_⟩,q2⟩:=q;obtain⟨vs,h1,h2⟩:=wQ q2;refine⟨v::vs,by simp[h1],fun j hj=>?_⟩
  match j with
  |0=>simpa using hv
  |j+1=>
   have:=h2 j (by simpa using hj);simpa[show o+1+j=o+(j+1) by omega]using this
theorem wO(hd:P.underlying T=some d)(hi:P.info? T=some i)
  (hc:DV.cells G f off ds) (hf:∀o v,f o=some v->w.cell? ⟨b,o,none⟩=some v)
  (h:match(if bH d then some i.size else none)with
   |none=>∃x,ds[0]?=some x/\a=.D x
   |some n=>n<=ds.length/\a=.agg ((ds.take n).map .D)):
  ∃v,(loadVar T ⟨b,off,none⟩).run P w=.ok v w/\AV.aq G m a v:=by
 cases ha:bH d with
 |true=>
  rw[ha]at h;obtain⟨hle,rfl⟩:=h;have hc':=DV.jn i.size hc;obtain⟨vs,h1,h2⟩:=wQ hc';have hlen:vs.length=i.size:=by rw[h1];simp;omega
  refine⟨.agg vs.toArray,xL hd hi ha hlen (fun j v hj=>?_),?_⟩
  ·refine hf _ _ ?_;rw[h2 j ((υ.1 hj).1)];exact hj
  ·unfold AV.aq;refine⟨_,rfl,?_⟩;exact AV.j2 hc' (fun j hj=>h2 j (by rw[h1];exact hj)) h1
 |false=>
  rw[ha]at h;obtain⟨x,hx,rfl⟩:=h;obtain⟨v,hv,hr⟩:=DV.lh hc hx;exact⟨v,xG hd ha (hf _ _ (by simpa using hv)),by unfold AV.aq;exact hr⟩
theorem Mc(hd:P.underlying T=some d)(hi:P.info? T=some i){T':TypeId}
  (hb:w.heap[b]?=some (.cells vs T' fr)) (hc:AV.bb G m cs vs.toList)
  (h:match(if bH d then some i.size else none)with
   |none=>∃x,cs[off]?=some x/\a=x
   |some n=>off+n<=cs.length/\a=.agg ((cs.drop off).take n)):
  ∃v,(loadVar T ⟨b,off,none⟩).run P w=.ok v w/\AV.aq G m a v:=by
 cases ha:bH d with
 |true=>
  rw[ha]at h;obtain⟨hle,rfl⟩:=h;have hlen:=AV.cd hc;have h1:=AV.eg i.size (AV.gv off hc);have h2:((vs.toList.drop off).take i.size).length=i.size:=by simp at hlen|-;omega
  refine⟨.agg ((vs.toList.drop off).take i.size).toArray,xL hd hi ha h2 (fun j v hj=>?_),by unfold AV.aq;exact⟨_,rfl,by simpa using h1⟩⟩;rw[qS hb];have hj2:=(υ.1 hj).1;rw[h2]at hj2;rw[List.getElem?_take_of_lt hj2,List.getElem?_drop,aaj]at hj;exact hj
 |false=>
  rw[ha]at h;obtain⟨x,hx,rfl⟩:=h;obtain⟨v,hv,hr⟩:=AV.gf hc hx;exact⟨v,xG hd ha (by rw[qS hb];simpa using hv),hr⟩
theorem bp.load{T:TypeId}{x:Operand}{ρ:Operand->Value}{w:World}{R:Value->World->Prop}{a:Addr}{v:Value}(ho:o.op=.load T x)(hx:ρ x=.pointer (some a))(h:(loadVar T a).run P w=.ok v w)(hR:R v w):
  bp P o ρ w R:=bp.val (v:=v) (w':=w) (by simp[execOp,ho,hx,Instr.loadAt,Instr.sureAddr,h]) hR
theorem qR(h:bg G m (.row mt k es) b sz w)(hgh:∀b o v,G b o=some v->w.cell? ⟨b,o,none⟩=some v):
  ∃f:Nat->Option Value,DV.rows G f k 0 es/\(∀o v,f o=some v->w.cell? ⟨b,o,none⟩=some v)/\es.length*k<=sz:=by
 cases mt with
 |true=>
  unfold bg at h;obtain⟨vs,T,h1,h2,h3,h4,h5⟩:=h;exact⟨fun o=>vs[o]?,h4,fun o v hv=>by rw[qS h1];exact hv,h3⟩
 |false=>
  unfold bg at h;obtain⟨vs,T,h1,h2,h3,h4,h5⟩:=h;exact⟨G b,h4,fun o v hv=>hgh b o v hv,h3⟩
theorem gw{G:Gh}{f:Nat->Option Value}{k:Nat}:∀{es:List (List DV)} {o:Nat},DV.rows G f k o es->DV.cells G f o es.flatten
 |[],o,_=>by simp[DV.cells]
 |e::es,o,h=>by unfold DV.rows at h;rw[acx];exact DV.fy h.2.1 (by rw[h.1];exact gw h.2.2)
theorem FI{G:Gh}{f:Nat->Option Value}{k:Nat}:∀{es:List (List DV)} {o:Nat},DV.rows G f k o es->es.flatten.length=es.length*k
 |[],o,_=>by simp
 |e::es,o,h=>by unfold DV.rows at h;rw[acx,List.length_append,h.1,FI h.2.2,aaf,aaW,Nat.one_mul,Nat.add_comm]
theorem rY{G:Gh}{f:Nat->Option Value}:∀{es:List (List DV)} {o:Nat} (n:Nat),DV.rows G f 1 o es->(es.take n).flatten=es.flatten.take n
 |[],o,n,_=>by simp
 |e::es,o,0,_=>by simp
 |e::es,o,n+1,h=>by unfold DV.rows at h;obtain⟨h1,_,h3⟩:=h;simp only[ab4,acx];rw[rY n h3,List.take_append,h1,List.take_of_length_le (l:=e) (by omega),Nat.add_sub_cancel]
theorem Fs{ro:bu}(ho:o.op=.load T x)(hr:aA P o=some ro)(h:aY P lk n ev ro K):PS P o ro lk n ev K:=by
 simp only[aA,ho]at hr;split at hr
 case h_2=>cases hr
 rename_i d i hd hi;cases hr;have h':rO lk (if bH d then some i.size else none) (fun a=>K a [] []) (ev x):=h;clear h;generalize hx:ev x=ax at h';unfold rO at h';have h:=h';clear h';split at h
 ·
  rename_i hdl off;obtain⟨cs,hl,h⟩:=h;have hout:∃a,K a [] []/\(match(if bH d then some i.size else none)with
   |none=>∃x,cs[off]?=some x/\a=x
   |some n=>off+n<=cs.length/\a=.agg ((cs.drop off).take n)):=by
   split at h
   ·rename_i e;(try rw[e]);obtain⟨a,h1,h2⟩:=h;exact⟨a,h2,a,h1,rfl⟩
   ·rename_i n' e;(try rw[e]);exact⟨_,h.2,h.1,rfl⟩
  obtain⟨a,hK,hm⟩:=hout;refine⟨_,_,_,hK,by first|exact fun _=>⟨rfl,rfl⟩|(intro hh;cases hh),(by intro h hh;first|(cases hh;done)|exact(ξ.1 hh).2|(split at hh<;>first|exact(ξ.1 hh).2|cases hh)),fun G m w ρ _ lk2 hls hS hev _=>?_⟩;have hp:=hev x (by simp[bu.operands]);rw[hx]at hp;unfold AV.aq at hp;obtain⟨_,loc,hloc,hp⟩:=hp;have hl2:=(hls rfl).box _ _ hl;have hnd:loc≠.dead:=fun e=>by subst e;rw[hS.dead _ hloc]at hl2;cases hl2
  obtain⟨b,sz,rfl,hp'⟩:=hp hnd;obtain⟨bl,hl3,hb⟩:=hS.fh _ _ _ hloc;rw[hl2]at hl3;cases hl3;unfold bg at hb;obtain⟨vs,T',h1,h2,h3,h4⟩:=hb;obtain⟨v,hv,hrep⟩:=Mc hd hi h1 h3 hm;exact bp.load ho hp' hv (bj.val hS hrep)
 ·
  rename_i hdl k ix off;obtain⟨mt,es,e,hl,he,h⟩:=h;by_cases hflat:bH d=true/\k=1
  ·obtain⟨ha,rfl⟩:=hflat;simp only[ha,if_true]at h;obtain⟨rfl,hle,hK⟩:=h;simp only[ha,if_true];refine⟨_,_,_,hK,(by intro hh;cases hh),(by intro h hh;cases hh),fun G m w ρ _ lk2 hls hS hev _=>?_⟩;have hp:=hev x (by simp[bu.operands]);rw[hx]at hp;unfold AV.aq at hp;obtain⟨_,loc,hloc,hp⟩:=hp;obtain⟨mt',hl2⟩:=(hls rfl).row _ _ _ _ hl;have hnd:loc≠.dead:=fun e=>by subst e;rw[hS.dead _ hloc]at hl2;cases hl2
   obtain⟨b,sz,rfl,hp'⟩:=hp hnd;obtain⟨bl,hl3,hb⟩:=hS.fh _ _ _ hloc;rw[hl2]at hl3;cases hl3;obtain⟨f,hrow,hf,_⟩:=qR hb hS.gh;have hrow2:=DV.ei ix hrow;rw[Nat.zero_add]at hrow2;have hcell:=gw hrow2;have hfl:=FI hrow2;rw[List.length_drop,aaN]at hfl;obtain⟨v,hv,hrep⟩:=wO (m:=m) hd hi (b:=b) hcell hf (a:=.agg ((((es.drop ix).take i.size).flatten).map .D)) (by
    rw[ha];exact⟨by rw[hfl];omega,by rw[rY i.size hrow2]⟩)
   exact bp.load ho hp' hv (bj.val hS hrep)
  have h:match(if bH d then some i.size else none)with
    |none=>∃x,e[off]?=some x/\K (.D x) [] []
    |some n=>off+n<=e.length/\K (.agg (((e.drop off).take n).map .D)) [] []:=by
   cases ha:bH d with
   |false=>rw[ha]at h;exact h
   |true=>
    simp only[ha,if_true]at h|-;rw[if_neg (fun q=>hflat ⟨ha,q⟩)]at h;exact h
  have hout:∃a,K a [] []/\(match(if bH d then some i.size else none)with
   |none=>∃x,(e.drop off)[0]?=some x/\a=.D x
   |some n=>n<=(e.drop off).length/\a=.agg (((e.drop off).take n).map .D)):=by
   cases ha:bH d with
   |false=>rw[ha]at h;obtain⟨x,h1,h2⟩:=h;exact⟨_,h2,x,by simpa using h1,rfl⟩
   |true=>rw[ha]at h;exact⟨_,h.2,by have:=h.1;simp;omega,rfl⟩
  obtain⟨a,hK,hm⟩:=hout;refine⟨_,_,_,hK,by first|exact fun _=>⟨rfl,rfl⟩|(intro hh;cases hh),(by intro h hh;first|(cases hh;done)|exact(ξ.1 hh).2|(split at hh<;>first|exact(ξ.1 hh).2|cases hh)),fun G m w ρ _ lk2 hls hS hev _=>?_⟩;have hp:=hev x (by simp[bu.operands]);rw[hx]at hp;unfold AV.aq at hp;obtain⟨_,loc,hloc,hp⟩:=hp;obtain⟨mt',hl2⟩:=(hls rfl).row _ _ _ _ hl;have hnd:loc≠.dead:=fun e=>by subst e;rw[hS.dead _ hloc]at hl2;cases hl2
  obtain⟨b,sz,rfl,hp'⟩:=hp hnd;obtain⟨bl,hl3,hb⟩:=hS.fh _ _ _ hloc;rw[hl2]at hl3;cases hl3;obtain⟨f,hrow,hf,_⟩:=qR hb hS.gh;have hcell:=DV.gj off (DV.im hrow he).2;obtain⟨v,hv,hrep⟩:=wO (m:=m) hd hi (b:=b) hcell hf hm;rw[Nat.zero_add]at hv;exact bp.load ho hp' hv (bj.val hS hrep)
 ·
  rename_i ds;have hout:∃a,K a [] []/\(match(if bH d then some i.size else none)with
   |none=>∃x,ds[0]?=some x/\a=.D x
   |some n=>n<=ds.length/\a=.agg ((ds.take n).map .D)):=by
   split at h
   ·rename_i e';(try rw[e']);obtain⟨a,h1,h2⟩:=h;exact⟨_,h2,a,h1,rfl⟩
   ·rename_i n' e';(try rw[e']);exact⟨_,h.2,h.1,rfl⟩
  obtain⟨a,hK,hm⟩:=hout;refine⟨_,_,_,hK,by first|exact fun _=>⟨rfl,rfl⟩|(intro hh;cases hh),(by intro h hh;first|(cases hh;done)|exact(ξ.1 hh).2|(split at hh<;>first|exact(ξ.1 hh).2|cases hh)),fun G m w ρ _ lk2 hls hS hev _=>?_⟩;have hp:=hev x (by simp[bu.operands]);rw[hx]at hp;unfold AV.aq at hp;obtain⟨b,o',hp,hc⟩:=hp;obtain⟨v,hv,hrep⟩:=wO (m:=m) hd hi (b:=b) hc (fun o v hv=>hS.gh b o v hv) hm;exact bp.load ho hp hv (bj.val hS hrep)
 ·exact h.elim
theorem W9{lk:bJ}{K:AV->Prop}(hd:a.mu=some h)(q:rO lk ag K a):rO (fun y=>if y=h then(lk y).map bn.kf else none) ag K a:=by
 cases a<;>first|(cases hd;done)|skip
 case ptr h' off=>
  cases hd;obtain⟨cs,h1,h2⟩:=q;exact⟨cs,by simp only[if_true,h1];rfl,h2⟩
 case eptr h' k ix off=>
  cases hd;obtain⟨mt,es,e,h1,h2,h3⟩:=q;exact⟨true,es,e,by simp only[if_true,h1];rfl,h2,h3⟩
 case sl h' k off len=>exact q
theorem QM(ho:o.op=.load T x)(hr:aA P o=some (.load ag x))(h:aY P lk n ev (.loadS ag x) K):PS P o (.loadS ag x) lk n ev K:=by
 obtain⟨hs,h'⟩:=h;obtain⟨hdl,hhd⟩:=aa5.1 hs;have hp:aY P (fun y=>if y=hdl then(lk y).map bn.kf else none) n ev (.load ag x) (fun a nbs fz=>nbs=[]/\fz=[]/\K a nbs fz):=by show rO _ ag (fun a=>([]:List bn)=[]/\([]:List Hd)=[]/\K a [] []) (ev x);simp only[true_and];exact W9 hhd h'
 obtain⟨a,nbs,fz,⟨rfl,rfl,hK⟩,_,_,hD⟩:=Fs ho hr hp;refine⟨a,[],[],hK,fun _=>⟨rfl,rfl⟩,(by intro h hh;cases hh),fun G m w ρ hρ lk2 hls hS hev hn=>hD G m w ρ hρ lk2 (fun _=>?_) hS hev hn⟩;have he:(lk2 hdl).map bn.kf=(lk hdl).map bn.kf:=hls hdl hhd;intro y b hb;have hy:y=hdl:=by
  by_cases e:y=hdl
  ·exact e
  ·simp only[if_neg e]at hb;cases hb
 subst hy;simp only[if_true]at hb;exact yN (he.trans hb)
end
section
variable{P:Program}{o:Oper}{lk:bJ}{n:Nat}{ev:Operand->AV}{K:AV->List bn->List Hd->Prop}
def Out(P:Program)(s:Sem Value)(K':AV->Prop):Prop:=∃a v,K' a/\(∀w,s.run P w=.ok v w)/\∀G m,AV.aq G m a v
theorem Out.int{s:Sem Value}{K':AV->Prop}{k:IntKind}{r:Int}(h:K' (.D (.I k r)))(hr:∀w,s.run P w=.ok (.int k r) w):Out P s K':=
 ⟨_,_,h,hr,fun G m=>by simp[AV.aq,DV.aq]⟩
theorem Out.bool{s:Sem Value}{K':AV->Prop}{r:Bool}(h:K' (.D (.B r)))(hr:∀w,s.run P w=.ok (.bool r) w):Out P s K':=
 ⟨_,_,h,hr,fun G m=>by simp[AV.aq,DV.aq]⟩
theorem Out.str{r:List UInt8}(h:K' (.D (.S r)))(hr:∀w,s.run P w=.ok (.string ⟨r.toArray⟩) w):Out P s K':=
 ⟨_,_,h,hr,fun G m=>by simp[AV.aq,DV.aq]⟩
theorem Q8(op:BinOp)(T:TypeId)(x y:Operand)(k:IntKind)(p q:Int)(h:Cy op k p q K'):
  Out P (do eqGuard op T x y (.int k p) (.int k q);binOp op T (.int k p) (.int k q)) K':=by
 unfold Cy at h;rw[eqGuard_at_int];split at h
 case h_1=>exact Out.int h (fun w=>by simp[binOp_add,Op.intArith])
 case h_2=>exact Out.int h (fun w=>by simp[binOp_sub,Op.intArith])
 case h_3=>exact Out.int h (fun w=>by simp[binOp_mul,Op.intArith])
 case h_4=>exact Out.int h.2 (fun w=>by simp[binOp_quo,Op.intDiv,h.1])
 case h_5=>exact Out.int h.2 (fun w=>by simp[binOp_rem,Op.intDiv,h.1])
 case h_6=>exact Out.int h (fun w=>by simp[binOp_and,intBits_and])
 case h_7=>exact Out.int h (fun w=>by simp[binOp_or,intBits_or])
 case h_8=>exact Out.int h (fun w=>by simp[binOp_xor,intBits_xor])
 case h_9=>exact Out.int h (fun w=>by simp[binOp_andNot,intBits_andNot])
 case h_10=>exact Out.bool h (fun w=>by simp[binOp_eql])
 case h_11=>exact Out.bool h (fun w=>by simp[binOp_neq])
 case h_12=>exact Out.bool h (fun w=>by simp[binOp_lss])
 case h_13=>exact Out.bool h (fun w=>by simp[binOp_leq])
 case h_14=>exact Out.bool h (fun w=>by simp[binOp_gtr])
 case h_15=>exact Out.bool h (fun w=>by simp[binOp_geq])
 case h_16=>exact h.elim
theorem Vs(op:BinOp)(T:TypeId)(x y:Operand)(p q:List UInt8)(h:D5 op p q K'):
  Out P (do eqGuard op T x y (.string ⟨p.toArray⟩) (.string ⟨q.toArray⟩);binOp op T (.string ⟨p.toArray⟩) (.string ⟨q.toArray⟩)) K':=by
 unfold D5 at h;rw[eqGuard_at_string];have e1:(⟨p.toArray⟩:ByteArray).toList=p:=by rw[ByteArray.toList_eq]
 have e2:(⟨q.toArray⟩:ByteArray).toList=q:=by rw[ByteArray.toList_eq]
 have hb:∀op,binOp op T (.string ⟨p.toArray⟩) (.string ⟨q.toArray⟩)=Op.stringOp op ⟨p.toArray⟩ ⟨q.toArray⟩:=fun op=>by cases op<;>rfl
 rw[hb];have e3:(⟨p.toArray⟩:ByteArray).size=p.length:=by simp[ByteArray.size]
 have e4:(⟨q.toArray⟩:ByteArray).size=q.length:=by simp[ByteArray.size]
 have e5:(⟨p.toArray⟩:ByteArray)++⟨q.toArray⟩=⟨(p++q).toArray⟩:=by apply ByteArray.ext;simp[ByteArray.data_append]
 split at h
 case h_1=>
  refine Out.str h.2 (fun w=>?_);simp only[Op.stringOp,e3,e4,IntKind.max_i64,Sem.run_bind,Sem.run_pure,Result.andThen_ok];rw[if_neg (by have:=h.1;omega),e5];rfl
 case h_8=>exact h.elim
 all_goals exact Out.bool h (fun w=>by simp only[Op.stringOp,e1,e2,Sem.run_bind,Sem.run_pure,Result.andThen_ok])
theorem PS.out{ro:bu}{s:(Operand->Value)->Sem Value}{u:Sem Value}(hx:∀(ρ:Operand->Value),execOp ρ o=(do pure (.value (<-s ρ))))(hout:Out P u (fun a=>K a [] []))
  (hs:∀(G:Gh) (m:HM) (ρ:Operand->Value),(∀x∈ro.operands,AV.aq G m (ev x) (ρ x))->s ρ=u):PS P o ro lk n ev K:=by obtain⟨a,v,hK,hrun,hrep⟩:=hout;refine⟨_,_,_,hK,by first|exact fun _=>⟨rfl,rfl⟩|(intro hh;cases hh),(by intro h hh;first|(cases hh;done)|exact(ξ.1 hh).2|(split at hh<;>first|exact(ξ.1 hh).2|cases hh)),fun G m w ρ _ lk2 _ hS hev _=>bp.val (v:=v) (w':=w) ?_ (bj.val hS (hrep G m))⟩;rw[hx,hs G m ρ hev];simp[hrun]
theorem fj{ro:bu}(hev:∀x∈ro.operands,AV.aq G m (ev x) (ρ x)){z:Operand}(hz:ev z=a)(hm:z∈ro.operands):AV.aq G m a (ρ z):=hz▸hev z hm
theorem mU{k:IntKind}{p:Int}(h:AV.aq G m (.D (.I k p)) v):v=.int k p:=by unfold AV.aq DV.aq at h;exact h
theorem tx{p:Bool}(h:AV.aq G m (.D (.B p)) v):v=.bool p:=by unfold AV.aq DV.aq at h;exact h
theorem z6{p:List UInt8}(h:AV.aq G m (.D (.S p)) v):v=.string ⟨p.toArray⟩:=by unfold AV.aq DV.aq at h;exact h
theorem NR{op:BinOp}{yT:TypeId}(ho:o.op=.binOp op T x y yT)(h:aY P lk n ev (.bin op x y) K):PS P o (.bin op x y) lk n ev K:=by
 have h':As op (fun a=>K a [] []) (ev x) (ev y):=h;clear h;have hexec:∀(ρ:Operand->Value),execOp ρ o=(do pure (.value (<-((do eqGuard op T x y (ρ x) (ρ y);binOp op T (ρ x) (ρ y)):Sem Value)))):=fun ρ=>by simp only[execOp,ho]
 generalize hx:ev x=ax at h';generalize hy:ev y=ay at h';unfold As at h';split at h'
 ·rename_i k p k' q;have hs:∀(G:Gh) (m:HM) (ρ:Operand->Value),(∀z∈(bu.bin op x y).operands,AV.aq G m (ev z) (ρ z))->ρ x=.int k p/\ρ y=.int k' q:=fun G m ρ hev=>
   ⟨mU (fj hev hx (by simp[bu.operands])),mU (fj hev hy (by simp[bu.operands]))⟩
  split at h'
  ·refine PS.out hexec (u:=do eqGuard .shl T x y (.int k p) (.int k' q);binOp .shl T (.int k p) (.int k' q)) (Out.int h'.2.2 (fun w=>?_)) (fun G m ρ hev=>by rw[(hs G m ρ hev).1,(hs G m ρ hev).2]);rw[eqGuard_at_int,binOp_shl,shift_shl k k' p q h'.1 h'.2.1];simp
  ·refine PS.out hexec (u:=do eqGuard .shr T x y (.int k p) (.int k' q);binOp .shr T (.int k p) (.int k' q)) (Out.int h'.2.2 (fun w=>?_)) (fun G m ρ hev=>by rw[(hs G m ρ hev).1,(hs G m ρ hev).2]);rw[eqGuard_at_int,binOp_shr,shift_shr k k' p q h'.1 h'.2.1];simp
  ·obtain⟨rfl,h'⟩:=h';exact PS.out hexec (Q8 op T x y k p q h') (fun G m ρ hev=>by rw[(hs G m ρ hev).1,(hs G m ρ hev).2])
 ·rename_i p q;exact PS.out hexec (Vs op T x y p q h') (fun G m ρ hev=>by
   rw[z6 (fj hev hx (by simp[bu.operands])),z6 (fj hev hy (by simp[bu.operands]))])
 ·exact h'.elim
theorem WM{op:BinOp}{yT:TypeId}{ro:bu}(ho:o.op=.binOp op T x y yT)(hd:P.underlying T=some .bool)(hr:aA P o=some ro)(h:aY P lk n ev ro K):PS P o ro lk n ev K:=by
 simp only[aA,ho,hd]at hr;have hops:op=.eql\/op=.neq:=by cases op<;>simp[uH]at hr|-
 have hro:ro=.beq (dR op) x y:=by rcases hops with rfl|rfl<;>simpa[uH]using hr.symm
 subst hro;obtain⟨p,q,hx,hy,h⟩:=h;have hexec:∀(ρ:Operand->Value),execOp ρ o=(do pure (.value (<-((do eqGuard op T x y (ρ x) (ρ y);binOp op T (ρ x) (ρ y)):Sem Value)))):=fun ρ=>by simp only[execOp,ho]
 refine PS.out hexec (u:=do eqGuard op T x y (.bool p) (.bool q);binOp op T (.bool p) (.bool q)) (Out.bool h (fun w=>?_)) (fun G m ρ hev=>by
  rw[tx (fj hev hx (by simp[bu.operands])),tx (fj hev hy (by simp[bu.operands]))])
 rcases hops with rfl|rfl<;>simp[dR,eqGuard_at_bool,binOp,Op.equal,Op.maxDepth,run_equalIn_bool' w 9999 T p q hd]
theorem Yz{op:UnOp}(ho:o.op=.unOp op T x)(h:aY P lk n ev (.un op x) K):PS P o (.un op x) lk n ev K:=by
 have h':AN op (fun a=>K a [] []) (ev x):=h;clear h;have hexec:∀(ρ:Operand->Value),execOp ρ o=(do pure (.value (<-Op.unary op (ρ x)))):=fun ρ=>by simp only[execOp,ho]
 generalize hx:ev x=ax at h';unfold AN at h';split at h'
 ·rename_i p;obtain⟨rfl,h'⟩:=h';exact PS.out hexec (u:=Op.unary .not (.bool p)) (Out.bool h' (fun w=>by simp[Op.unary])) (fun G m ρ hev=>by rw[tx (fj hev hx (by simp[bu.operands]))])
 ·rename_i k p;split at h'
  ·exact PS.out hexec (u:=Op.unary .neg (.int k p)) (Out.int h' (fun w=>by simp[Op.unary,Op.intArith])) (fun G m ρ hev=>by rw[mU (fj hev hx (by simp[bu.operands]))])
  ·exact PS.out hexec (u:=Op.unary .xor (.int k p)) (Out.int h' (fun w=>by simp[Op.unary,intBits_xor])) (fun G m ρ hev=>by rw[mU (fj hev hx (by simp[bu.operands]))])
  ·exact h'.elim
 ·exact h'.elim
end
section
variable{P:Program}{o:Oper}{lk:bJ}{n:Nat}{ev:Operand->AV}{K:AV->List bn->List Hd->Prop}
theorem Dc(hS:cf G m lk2 w)(hls:ct lk lk2)(hm:m h=some loc)(hl:(lk h).isSome=true):loc≠.dead:=fun e=>by subst e;obtain⟨bl,hb⟩:=aa5.1 hl;obtain⟨bl',h1,_⟩:=hls h bl hb;rw[hS.dead h hm]at h1;cases h1
theorem yH(hS:cf G m lk2 w)(hls:ct lk lk2)(hr:AV.aq G m (.ptr h off) v)(hl:AV.live lk (.ptr h off)=true):
  ∃b sz,m h=some (.at_ b sz)/\v=.pointer (some ⟨b,off,none⟩):=by unfold AV.aq at hr;obtain⟨_,loc,h1,h2⟩:=hr;obtain⟨b,sz,rfl,hv⟩:=h2 (Dc hS hls h1 hl);exact⟨b,sz,h1,hv⟩
theorem EI(hS:cf G m lk2 w)(hls:ct lk lk2){ix:Nat}(hr:AV.aq G m (.eptr h k ix off) v)(hl:AV.live lk (.eptr h k ix off)=true):
  ∃b sz,m h=some (.at_ b sz)/\v=.pointer (some ⟨b,ix*k+off,none⟩):=by unfold AV.aq at hr;obtain⟨_,loc,h1,h2⟩:=hr;obtain⟨b,sz,rfl,hv⟩:=h2 (Dc hS hls h1 hl);exact⟨b,sz,h1,hv⟩
theorem Cr(hS:cf G m lk2 w)(hls:ct lk lk2){len:Nat}(hr:AV.aq G m (.sl h k off len) v)(hl:AV.live lk (.sl h k off len)=true):
  ∃loc,m h=some loc/\Ce loc k off len v:=by unfold AV.aq at hr;obtain⟨_,loc,h1,h2⟩:=hr;exact⟨loc,h1,h2 (Dc hS hls h1 hl)⟩
theorem yM(hS:cf G m lk2 w)(hls:ct lk lk2){len cap:Nat}(hr:AV.aq G m (.slk h k off len cap) v)(hl:AV.live lk (.slk h k off len cap)=true):
  ∃loc,m h=some loc/\HU loc k off len cap v:=by unfold AV.aq at hr;obtain⟨_,loc,h1,h2⟩:=hr;exact⟨loc,h1,h2 (Dc hS hls h1 hl)⟩
theorem ET{ix o d:Nat}(hloc:m h=some (.at_ b sz)):AV.aq G m (AV.ia h k ix o d) (.pointer (some ⟨b,ix*k+o+d,none⟩)):=by
 unfold AV.ia;split
 ·rename_i e;subst e;unfold AV.aq;exact⟨rfl,_,hloc,fun _=>⟨b,sz,rfl,by rw[aaN,aaN,abt]⟩⟩
 ·unfold AV.aq;exact⟨rfl,_,hloc,fun _=>⟨b,sz,rfl,by rw[Nat.add_assoc]⟩⟩
theorem ML{T:Nat}{ro:bu}(ho:o.op=.fieldAddr T x k)(hr:aA P o=some ro)(h:aY P lk n ev ro K):PS P o ro lk n ev K:=by
 simp only[aA,ho,η]at hr;obtain⟨f,hf,i,hi,hr⟩:=hr;split at hr
 case isTrue=>cases hr
 rename_i hsz;cases hr;have hfs:∃fs,P.underlying T=some (.struct fs)/\fs[k]?=some f:=by
  unfold El at hf;split at hf
  ·exact⟨_,‹_›,hf⟩
  ·cases hf
 obtain⟨fs,hT,hk⟩:=hfs;have run:∀(a:Addr) (w:World),(Instr.fieldAt T (.pointer (some a)) k).run P w=.ok (.pointer (some (a.add f.offset))) w:=fun a w=>by simp[Instr.fieldAt,run_underlying hT,hk,Instr.sureAddr,fieldPlace,cO hi,hsz]
 have hexec:∀(ρ:Operand->Value) (a:Addr) (w:World),ρ x=.pointer (some a)->(execOp ρ o).run P w=.ok (.value (.pointer (some (a.add f.offset)))) w:=fun ρ a w hx=>by simp[execOp,ho,hx,run]
 obtain⟨hlive,h'⟩:=h;generalize hx:ev x=ax at h' hlive;split at h'
 ·rename_i hd off;refine⟨_,_,_,h',by first|exact fun _=>⟨rfl,rfl⟩|(intro hh;cases hh),(by intro h hh;first|(cases hh;done)|exact(ξ.1 hh).2|(split at hh<;>first|exact(ξ.1 hh).2|cases hh)),fun G m w ρ _ lk2 hls hS hev _=>?_⟩;obtain⟨b,sz,hloc,hp⟩:=yH hS (hls rfl) (fj hev hx (by simp[bu.operands])) hlive;refine bp.val (hexec ρ _ w hp) (bj.val hS ?_);unfold AV.aq;exact⟨rfl,_,hloc,fun _=>⟨b,sz,rfl,by rw[Addr.add_lit]⟩⟩
 ·rename_i hd k' ix off;refine⟨_,_,_,h',by first|exact fun _=>⟨rfl,rfl⟩|(intro hh;cases hh),(by intro h hh;first|(cases hh;done)|exact(ξ.1 hh).2|(split at hh<;>first|exact(ξ.1 hh).2|cases hh)),fun G m w ρ _ lk2 hls hS hev _=>?_⟩;obtain⟨b,sz,hloc,hp⟩:=EI hS (hls rfl) (fj hev hx (by simp[bu.operands])) hlive;refine bp.val (hexec ρ _ w hp) (bj.val hS ?_);rw[Addr.add_lit];exact ET hloc
 ·rename_i ds;refine⟨_,_,_,h',by first|exact fun _=>⟨rfl,rfl⟩|(intro hh;cases hh),(by intro h hh;first|(cases hh;done)|exact(ξ.1 hh).2|(split at hh<;>first|exact(ξ.1 hh).2|cases hh)),fun G m w ρ _ lk2 _ hS hev _=>?_⟩;have hp:=fj hev hx (by simp[bu.operands]);unfold AV.aq at hp;obtain⟨b,o',hp,hc⟩:=hp;refine bp.val (hexec ρ _ w hp) (bj.val hS ?_);unfold AV.aq;exact⟨b,o'+f.offset,by rw[Addr.add_lit],DV.gj _ hc⟩
 ·exact h'.elim
theorem JU(hq:∀lk' K',aY P lk' n ev (.faddr off x) K'->PS P o (.faddr off x) lk' n ev K')(h:aY P lk n ev (.faddrS off x) K):PS P o (.faddrS off x) lk n ev K:=by
 obtain⟨hs,hv,h'⟩:=h;obtain⟨hdl,hhd⟩:=aa5.1 hs;have hp:aY P (fun y=>if y=hdl then(lk y).map bn.kf else none) n ev (.faddr off x) (fun a nbs fz=>nbs=[]/\fz=[]/\K a nbs fz):=by
  show AV.live _ (ev x)=true/\_;generalize hx:ev x=v at hv hhd h';cases v<;>first|(cases hhd;done)|skip
  case ptr hh o=>cases hhd;exact⟨by simpa[AV.live]using hv,rfl,rfl,h'⟩
  case eptr hh k2 ix o=>cases hhd;exact⟨by simpa[AV.live]using hv,rfl,rfl,h'⟩
  case sl hh k2 ix o=>exact h'.elim
 obtain⟨a,nbs,fz,⟨rfl,rfl,hK⟩,_,_,hD⟩:=hq _ _ hp;refine⟨a,[],[],hK,fun _=>⟨rfl,rfl⟩,(by intro h hh;cases hh),fun G m w ρ hρ lk2 hls hS hev hn=>hD G m w ρ hρ lk2 (fun _=>?_) hS hev hn⟩;have he:(lk2 hdl).map bn.kf=(lk hdl).map bn.kf:=hls hdl hhd;intro y b hb;have hy:y=hdl:=by
  by_cases e:y=hdl
  ·exact e
  ·simp only[if_neg e]at hb;cases hb
 subst hy;simp only[if_true]at hb;exact yN (he.trans hb)
theorem WB{T:Nat}(ho:o.op=.fieldAddr T x k)(hr:aA P o=some (.faddr off x))(h:aY P lk n ev (.faddrS off x) K):PS P o (.faddrS off x) lk n ev K:=
 JU (fun _ _ h=>ML ho hr h) h
theorem VM{T:Nat}{ro:bu}(ho:o.op=.field T x k)(hr:aA P o=some ro)(h:aY P lk n ev ro K):PS P o ro lk n ev K:=by
 simp only[aA,ho,η]at hr;obtain⟨f,hf,hr⟩:=hr;split at hr
 case h_2=>cases hr
 rename_i d i hd hi;cases hr;have hfs:∃fs,P.underlying T=some (.struct fs)/\fs[k]?=some f:=by
  unfold El at hf;split at hf
  ·exact⟨_,‹_›,hf⟩
  ·cases hf
 obtain⟨fs,hT,hk⟩:=hfs;obtain⟨cs,hx,h⟩:=h;have hexec:∀(ρ:Operand->Value) (vs:Array Value) (w:World),ρ x=.agg vs->(execOp ρ o).run P w=((part f.type vs f.offset).run P w).andThen fun v w=>.ok (.value v) w:=fun ρ vs w hx=>by simp[execOp,ho,hx,Instr.field,run_underlying hT,hk,asAgg]
 have hrepx:∀(G:Gh) (m:HM) (ρ:Operand->Value),(∀z∈(bu.field f.offset (if bH d then some i.size else none) x).operands,AV.aq G m (ev z) (ρ z))->∃vs:Array Value,ρ x=.agg vs/\AV.bb G m cs vs.toList:=fun G m ρ hev=>by have:=fj hev hx (by simp[bu.operands]);unfold AV.aq at this;exact this
 cases ha:bH d with
 |true=>
  rw[ha]at h;obtain⟨hle,hK⟩:=h;refine⟨_,_,_,hK,by first|exact fun _=>⟨rfl,rfl⟩|(intro hh;cases hh),(by intro h hh;first|(cases hh;done)|exact(ξ.1 hh).2|(split at hh<;>first|exact(ξ.1 hh).2|cases hh)),fun G m w ρ _ lk2 hls hS hev _=>?_⟩;obtain⟨vs,hv,hrep⟩:=hrepx G m ρ hev;have h1:=AV.eg i.size (AV.gv f.offset hrep);refine bp.val (v:=.agg (vs.extract f.offset (f.offset+i.size))) (w':=w) ?_ (bj.val hS ?_)
  ·rw[hexec ρ vs w hv];simp[part,fI hd,ha,cO hi]
  ·unfold AV.aq;refine⟨_,rfl,?_⟩;rw[Array.toList_extract,abT,aaP];exact h1
 |false=>
  rw[ha]at h;obtain⟨a,hcs,hK⟩:=h;refine⟨_,_,_,hK,by first|exact fun _=>⟨rfl,rfl⟩|(intro hh;cases hh),(by intro h hh;first|(cases hh;done)|exact(ξ.1 hh).2|(split at hh<;>first|exact(ξ.1 hh).2|cases hh)),fun G m w ρ _ lk2 hls hS hev _=>?_⟩;obtain⟨vs,hv,hrep⟩:=hrepx G m ρ hev;obtain⟨v,hv',hr⟩:=AV.gf hrep hcs;refine bp.val (v:=v) (w':=w) ?_ (bj.val hS hr);rw[hexec ρ vs w hv];rw[aaj]at hv';simp[part,fI hd,ha,hv']
theorem XT(ho:o.op=.extract x k)(h:aY P lk n ev (.ext x k) K):PS P o (.ext x k) lk n ev K:=by obtain⟨cs,a,hx,hk,hK⟩:=h;refine⟨_,_,_,hK,by first|exact fun _=>⟨rfl,rfl⟩|(intro hh;cases hh),(by intro h hh;first|(cases hh;done)|exact(ξ.1 hh).2|(split at hh<;>first|exact(ξ.1 hh).2|cases hh)),fun G m w ρ _ lk2 hls hS hev _=>?_⟩;have:=fj hev hx (by simp[bu.operands]);unfold AV.aq at this;obtain⟨vs,hv,hrep⟩:=this;obtain⟨v,hv',hr⟩:=AV.gf hrep hk;rw[aaj]at hv';refine bp.val (v:=v) (w':=w) ?_ (bj.val hS hr);simp[execOp,ho,hv,Instr.extract,hv']
theorem SI{f:Nat}{first caps:Array Operand}{ro:bu}(ho:o.op=.makeFunc (.func f) first caps)(hr:aA P o=some ro)(h:aY P lk n ev ro K):PS P o ro lk n ev K:=by
 simp only[aA,ho]at hr;split at hr
 case isFalse=>cases hr
 rename_i hf;cases hr;refine⟨_,_,_,h,by first|exact fun _=>⟨rfl,rfl⟩|(intro hh;cases hh),(by intro h hh;first|(cases hh;done)|exact(ξ.1 hh).2|(split at hh<;>first|exact(ξ.1 hh).2|cases hh)),fun G m w ρ _ lk2 hls hS hev _=>?_⟩;refine bp.val (v:=.func (.func f) #[] (caps.map ρ)) (w':=w) ?_ (bj.val hS ?_)
 ·have:first=#[]:=by simpa using hf
  subst this;simp[execOp,ho,Instr.makeFunc]
 ·unfold AV.aq;refine⟨_,rfl,?_⟩;rw[abm];exact AV.gn (fun y hy=>hev y (by simpa[bu.operands]using hy))
theorem M9{mx:Bool}(ho:o.op=.call c)(hc:c.callee=.builtin (if mx=true then .max else .min))(ha:c.args.toList=[x,y])(h:aY P lk n ev (.mm mx x y) K):
  PS P o (.mm mx x y) lk n ev K:=by
 obtain⟨k,p,q,hx,hy,hK⟩:=h;refine⟨_,_,_,hK,by first|exact fun _=>⟨rfl,rfl⟩|(intro hh;cases hh),(by intro h hh;first|(cases hh;done)|exact(ξ.1 hh).2|(split at hh<;>first|exact(ξ.1 hh).2|cases hh)),fun G m w ρ _ lk2 hls hS hev _=>?_⟩;have e1:=mU (fj hev hx (by simp[bu.operands]));have e2:=mU (fj hev hy (by simp[bu.operands]));have ha':c.args=#[x,y]:=by rw[<-aaL (xs:=c.args),ha]
 refine bp.val (v:=.int k (if mx=true then max p q else min p q)) (w':=w) ?_ (bj.val hS (by unfold AV.aq DV.aq;rfl));cases mx
 ·simp only[execOp,ho,resolve,hc,ha',invoke,builtin,abu,if_false];rw[show min p q=if q<p then q else p by simp only[Int.min_def];split<;>split<;>omega];simp[Builtin.min_,Builtin.min2,e1,e2]
 ·simp only[execOp,ho,resolve,hc,ha',invoke,builtin,if_true];rw[show max p q=if q>p then q else p by simp only[Int.max_def];split<;>split<;>omega];simp[Builtin.max_,Builtin.max2,e1,e2]
theorem NU(t:List UInt8):(⟨t.toArray⟩:ByteArray).size=t.length:=by simp[ByteArray.size]
theorem um(h:AV.aq G m (.D (.L es)) v):∃a cap,v=.slice a es.length cap/\es.length<=cap/\(a=none->cap=0)/\
   (es≠[]->∃b o k,a=some ⟨b,o,none⟩/\DV.rows G (G b) k o es):=by unfold AV.aq DV.aq at h;exact h
theorem Va(hS:cf G m lk2 w)(hls:ct lk lk2){str:Bool}(hr:AV.aq G m a v)(hl:AV.live lk a=true)(hk:a.k6 str=some k):
  (str=true/\∃s:ByteArray,v=.string s/\s.size=k)\/(str=false/\∃p cap,v=.slice p k cap):=by
 unfold AV.k6 at hk;split at hk
 ·cases hk;obtain⟨p,cap,h1,_⟩:=um hr;exact .inr ⟨rfl,p,cap,h1⟩
 ·cases hk;unfold AV.aq at hr;obtain⟨_,p,h1⟩:=hr;exact .inr ⟨rfl,p,_,h1⟩
 ·cases hk;obtain⟨loc,_,h2⟩:=Cr hS hls hr hl;rcases h2 with⟨p,h3,rfl⟩|⟨b,sz,cap,_,h3,_⟩
  ·exact .inr ⟨rfl,p,_,h3⟩
  ·exact .inr ⟨rfl,_,_,h3⟩
 ·cases hk;obtain⟨loc,_,h2⟩:=yM hS hls hr hl;obtain⟨b,sz,_,h3,_⟩:=h2;exact .inr ⟨rfl,_,_,h3⟩
 ·cases hk;exact .inl ⟨rfl,_,z6 hr,NU _⟩
 ·cases hk
theorem Mw{str:Bool}{t:TypeId}(ho:o.op=.call c)(hc:c.callee=.builtin .len)(ha:c.args.toList=[x])(ht:c.argTypes.toList=[t])
  (hd:if str=true then P.underlying t=some .string else∃e,P.underlying t=some (.slice e)) (h:aY P lk n ev (.len str x) K):PS P o (.len str x) lk n ev K:=by
 obtain⟨hl,k,hk,hK⟩:=h;refine⟨_,_,_,hK,by first|exact fun _=>⟨rfl,rfl⟩|(intro hh;cases hh),(by intro h hh;first|(cases hh;done)|exact(ξ.1 hh).2|(split at hh<;>first|exact(ξ.1 hh).2|cases hh)),fun G m w ρ _ lk2 hls hS hev _=>?_⟩;have hr:=hev x (by simp[bu.operands]);have ha':c.args=#[x]:=by rw[<-aaL (xs:=c.args),ha]
 have ht':c.argTypes=#[t]:=by rw[<-aaL (xs:=c.argTypes),ht]
 refine bp.val (v:=.int .i64 k) (w':=w) ?_ (bj.val hS (by unfold AV.aq DV.aq;rfl));simp only[execOp,ho,resolve,hc,ha',ht',invoke,builtin];rcases Va hS (hls rfl) hr hl hk with⟨rfl,s,h1,h2⟩|⟨rfl,p,cap,h1⟩
 ·simp only[if_true]at hd;simp[Builtin.len_,run_underlying hd,h1,h2,goInt]
 ·obtain⟨e,hd⟩:∃e,P.underlying t=some (.slice e):=by simpa using hd
  simp[Builtin.len_,run_underlying hd,h1,goInt]
theorem LG{i:Operand}{ro:bu}(ho:o.op=.indexAddr T x i)(hT:P.underlying T=some (.slice e))(hr:aA P o=some ro)(h:aY P lk n ev ro K):PS P o ro lk n ev K:=by
 simp only[aA,ho,hT]at hr;simp only[ι]at hr;obtain⟨inf,hi,rfl⟩:=hr;obtain⟨hl,kd,j,hj,h0,h'⟩:=h;have run:∀(a:Addr) (len cap:Nat) (w:World),j<len->(Instr.indexAt T (.slice (some a) len cap) (.int kd j)).run P w=.ok (.pointer (some (a.add (j.toNat*inf.size)))) w:=fun a len cap w hlt=>by simp[Instr.indexAt,run_underlying hT,asIntOf,h0,hlt,cO hi]
 have hexec:∀(ρ:Operand->Value) (a:Addr) (len cap:Nat) (w:World),ρ x=.slice (some a) len cap->ρ i=.int kd j->j<len->(execOp ρ o).run P w=.ok (.value (.pointer (some (a.add (j.toNat*inf.size))))) w:=fun ρ a len cap w hx hi' hlt=>by simp[execOp,ho,hx,hi',run a len cap w hlt]
 have hlist:∀(es:List (List DV)) (e:List DV),es[j.toNat]?=some e->e.length=inf.size->∀(G:Gh) (m:HM) (w:World) (ρ:Operand->Value) (lk2:bJ),cf G m lk2 w->AV.aq G m (.D (.L es)) (ρ x)->ρ i=.int kd j->
   bp P o ρ w (bj G m lk2 n (.rop e) [] [] w):=fun es e' he hlen G m w ρ lk2 hS hr hi'=>by obtain⟨p,cap,hv,hcap,_,hne⟩:=um hr;have hlt:=(υ.1 he).1;obtain⟨b,off,k,rfl,hrows⟩:=hne (fun e=>by subst e;simp at hlt);obtain⟨hk,hc⟩:=DV.im hrows he;refine bp.val (hexec ρ _ _ _ w hv hi' (by omega)) (bj.val hS ?_);unfold AV.aq;refine⟨b,off+j.toNat*inf.size,by rw[Addr.add_lit],?_⟩;rw[<-hlen,hk];exact hc
 generalize hx:ev x=ax at h' hl;split at h'
 ·obtain⟨e',he,hlen,hK⟩:=h';refine⟨_,_,_,hK,by first|exact fun _=>⟨rfl,rfl⟩|(intro hh;cases hh),(by intro h hh;first|(cases hh;done)|exact(ξ.1 hh).2|(split at hh<;>first|exact(ξ.1 hh).2|cases hh)),fun G m w ρ _ lk2 hls hS hev _=>?_⟩;exact hlist _ e' he hlen G m w ρ lk2 hS (fj hev hx (by simp[bu.operands])) (mU (fj hev hj (by simp[bu.operands])))
 ·obtain⟨e',he,hlen,hK⟩:=h';refine⟨_,_,_,hK,by first|exact fun _=>⟨rfl,rfl⟩|(intro hh;cases hh),(by intro h hh;first|(cases hh;done)|exact(ξ.1 hh).2|(split at hh<;>first|exact(ξ.1 hh).2|cases hh)),fun G m w ρ _ lk2 hls hS hev _=>?_⟩;have:=fj hev hx (by simp[bu.operands]);refine hlist _ e' he hlen G m w ρ lk2 hS ?_ (mU (fj hev hj (by simp[bu.operands])));unfold AV.aq at this|-;exact this.1
 ·rename_i hd k' off len;obtain⟨rfl,hlt,hK⟩:=h';refine⟨_,_,_,hK,by first|exact fun _=>⟨rfl,rfl⟩|(intro hh;cases hh),(by intro h hh;first|(cases hh;done)|exact(ξ.1 hh).2|(split at hh<;>first|exact(ξ.1 hh).2|cases hh)),fun G m w ρ _ lk2 hls hS hev _=>?_⟩;obtain⟨loc,hloc,hs⟩:=Cr hS (hls rfl) (fj hev hx (by simp[bu.operands])) hl;rcases hs with⟨p,_,rfl⟩|⟨b,sz,cap,rfl,hv,hcap,hsz⟩
  ·omega
  ·refine bp.val (hexec ρ _ _ _ w hv (mU (fj hev hj (by simp[bu.operands]))) hlt) (bj.val hS ?_);unfold AV.aq;refine⟨rfl,_,hloc,fun _=>⟨b,sz,rfl,?_⟩⟩;rw[Addr.add_lit,<-aaW,abt]
 ·exact h'.elim
theorem Uk{i:Operand}(ho:o.op=.index T x i)(hT:P.underlying T=some .string)(h:aY P lk n ev (.ixs x i) K):PS P o (.ixs x i) lk n ev K:=by
 obtain⟨t,kd,j,c,hx,hi,h0,hc,hK⟩:=h;refine⟨_,_,_,hK,by first|exact fun _=>⟨rfl,rfl⟩|(intro hh;cases hh),(by intro h hh;first|(cases hh;done)|exact(ξ.1 hh).2|(split at hh<;>first|exact(ξ.1 hh).2|cases hh)),fun G m w ρ _ lk2 hls hS hev _=>?_⟩;have e1:=z6 (fj hev hx (by simp[bu.operands]));have e2:=mU (fj hev hi (by simp[bu.operands]));have hlt:=(υ.1 hc).1;have hget:(⟨t.toArray⟩:ByteArray)[j.toNat]?=some c:=by rw[getElem?_pos _ _ (by simp[ByteArray.size];exact hlt)];have:=(υ.1 hc).2;rw[<-this];rfl
 refine bp.val (v:=.int .u8 c.toNat) (w':=w) ?_ (bj.val hS (by unfold AV.aq DV.aq;rfl));simp[execOp,ho,Instr.index,e1,e2,asIntOf,run_underlying hT,h0,hget]
end
def Bd(v:Option Value)(r dflt:Nat):Prop:=(v=none/\r=dflt)\/∃k,v=some (.int k r)
theorem Hq{isSlice:Bool}{len cap:Nat}{lo hi mx:Option Value}{l h m:Nat}(hm:Bd mx m cap)(hh:Bd hi h len)(hl:Bd lo l 0)(h1:l<=h)(h2:h<=m)(h3:m<=cap)
  (hs:mx.isSome=true->hi.isSome=true) (w:World):(Instr.sliceBounds isSlice len cap lo hi mx).run P w=.ok (l,h,m) w:=by
 have b1:∀(k:IntKind) (y:Nat) (r:Nat) (code:BoundsCode) (w:World),r<=y->(Instr.sliceBound (.int k r) y code).run P w=.ok r w:=fun k y r code w hr=>by rw[run_sliceBound w k r y code (by omega) (by omega)];simp
 rcases hm with⟨rfl,rfl⟩|⟨km,rfl⟩<;>rcases hh with⟨rfl,rfl⟩|⟨kh,rfl⟩<;>rcases hl with⟨rfl,rfl⟩|⟨kl,rfl⟩
 all_goals first
  |(simp at hs;done)
  |simp[Instr.sliceBounds,b1,h1,h2,h3]
section
variable{P:Program}{o:Oper}{lk:bJ}{n:Nat}{ev:Operand->AV}{K:AV->List bn->List Hd->Prop}
theorem dV{x:Option Operand}{dflt:Nat}{K':Nat->Prop}(h:gJ ev x dflt K'):
  ∃r,K' r/\∀(G:Gh) (m:HM) (ρ:Operand->Value),(∀z∈x.toList,AV.aq G m (ev z) (ρ z))->Bd (x.map ρ) r dflt:=by
 unfold gJ at h;split at h
 ·exact⟨_,h,fun _ _ _ _=>.inl ⟨rfl,rfl⟩⟩
 ·obtain⟨k,i,hx,h0,hK⟩:=h;refine⟨_,hK,fun G m ρ hev=>.inr ⟨k,?_⟩⟩;have:=mU (hx▸hev _ (by simp));simp only[aaZ,this,Int.toNat_of_nonneg h0]
theorem Qt(ho:o.op=.slice T x lo hi none)(hT:P.underlying T=some .string)(h:aY P lk n ev (.sls x lo hi) K):PS P o (.sls x lo hi) lk n ev K:=by
 obtain⟨t,hx,h⟩:=h;obtain⟨hh,h,bh⟩:=dV h;obtain⟨ll,h,bl⟩:=dV h;obtain⟨h1,h2,hK⟩:=h;refine⟨_,_,_,hK,by first|exact fun _=>⟨rfl,rfl⟩|(intro hh;cases hh),(by intro h hh;first|(cases hh;done)|exact(ξ.1 hh).2|(split at hh<;>first|exact(ξ.1 hh).2|cases hh)),fun G m w ρ _ lk2 hls hS hev _=>?_⟩;have e1:=z6 (fj hev hx (by simp[bu.operands]));have b1:=bh G m ρ (fun z hz=>hev z (by simp[bu.operands]at hz|-;exact .inr (.inr hz)));have b2:=bl G m ρ (fun z hz=>hev z (by simp[bu.operands]at hz|-;exact .inr (.inl hz)));refine bp.val (v:=.string ⟨((t.drop ll).take (hh-ll)).toArray⟩) (w':=w) ?_ (bj.val hS (by unfold AV.aq DV.aq;rfl));have hb:=Hq (P:=P) (isSlice:=false) (len:=t.length) (cap:=t.length) (mx:=none) (m:=t.length) (.inl ⟨rfl,rfl⟩) b1 b2 h1 h2 (me _) (fun h=>by cases h) w;have hext:(⟨t.toArray⟩:ByteArray).extract ll hh=⟨((t.drop ll).take (hh-ll)).toArray⟩:=by apply ByteArray.ext;rw[ByteArray.data_extract];simp[abT]
 simp only[execOp,ho,Option.map_none,Instr.sliceAt,Instr.slice,e1,NU,Sem.run_bind,run_underlying hT,Result.andThen_ok,adu,abu,if_false];rw[hb];simp[hext]
theorem Ki{mx:Option Operand}{ro:bu}(ho:o.op=.slice T x lo hi mx)(hT:P.underlying T=some (.slice e))(hr:aA P o=some ro)(h:aY P lk n ev ro K):PS P o ro lk n ev K:=by
  simp only[aA,ho,hT,ι]at hr;obtain⟨inf,hi',rfl⟩:=hr;obtain⟨hl,h⟩:=h;have run:∀(a:Option Addr) (len cap l h m:Nat) (w:World) (vlo vhi vmx:Option Value),Bd vmx m cap->Bd vhi h len->Bd vlo l 0->l<=h->h<=m->m<=cap->(vmx.isSome=true->vhi.isSome=true)->
      (Instr.sliceAt T (.slice a len cap) vlo vhi vmx).run P w=.ok (.slice (if m=l then a else a.map (·.add (l*inf.size))) (h-l) (m-l)) w:=fun a len cap l h m w vlo vhi vmx b1 b2 b3 h1 h2 h3 hs=>by simp only[Instr.sliceAt,Instr.slice,Sem.run_bind,run_underlying hT,Result.andThen_ok,Hq b1 b2 b3 h1 h2 h3 hs w,cO hi',Sem.run_pure]
  have hexec:∀(ρ:Operand->Value) (a:Option Addr) (len cap l h m:Nat) (w:World),ρ x=.slice a len cap->Bd (mx.map ρ) m cap->Bd (hi.map ρ) h len->Bd (lo.map ρ) l 0->l<=h->h<=m->m<=cap->(mx.isSome=true->hi.isSome=true)->
      (execOp ρ o).run P w=.ok (.value (.slice (if m=l then a else a.map (·.add (l*inf.size))) (h-l) (m-l))) w:=fun ρ a len cap l h m w hx b1 b2 b3 h1 h2 h3 hs=>by simp only[execOp,ho,hx,Sem.run_bind,run a len cap l h m w _ _ _ b1 b2 b3 h1 h2 h3 (by cases mx<;>cases hi<;>simp at hs|-),Result.andThen_ok,Sem.run_pure]
  have hrep:∀(G:Gh) (m:HM) (es:List (List DV)) (a:Option Addr) (cap l h mm:Nat),es.length<=cap->(a=none->cap=0)->(es≠[]->∃b o k,a=some ⟨b,o,none⟩/\DV.rows G (G b) k o es)->l<=h->h<=es.length->h<=mm->mm<=cap->
      (∀e∈es,e.length=inf.size)->DV.aq G (.L ((es.drop l).take (h-l))) (.slice (if mm=l then a else a.map (·.add (l*inf.size))) (h-l) (mm-l)):=fun G m es a cap l h mm hcap hnil hne h1 h2 h3 h4 hk=>by
    have hL:((es.drop l).take (h-l)).length=h-l:=by simp;omega
    unfold DV.aq;refine⟨_,mm-l,by rw[hL],by rw[hL];omega,fun e=>?_,fun hne'=>?_⟩
    · split at e
      · omega
      · cases a with
        |none=>have:=hnil rfl;omega
        |some a=>cases e
    · have hlt:l<h:=by
        rcases Nat.lt_or_ge l h with hh|hh
        · exact hh
        · exfalso;apply hne';rw[show h-l=0 by omega];simp
      have hes:es≠[]:=fun e=>by subst e;simp at h2;omega
      obtain⟨b,off,k,rfl,hrows⟩:=hne hes;rw[if_neg (by omega)];have hk':k=inf.size:=by obtain⟨e0,he0⟩:∃e0,e0∈es:=List.exists_mem_of_ne_nil es hes;rw[<-hk e0 he0];exact(DV.jv hrows e0 he0).symm
      subst hk';exact⟨b,off+l*inf.size,inf.size,by rw[aaZ,Addr.add_lit],DV.en _ (DV.ei l hrows)⟩
  have hevs:∀(G:Gh) (m:HM) (ρ:Operand->Value),(∀z∈(bu.sll inf.size x lo hi mx).operands,AV.aq G m (ev z) (ρ z))->(∀z∈lo.toList,AV.aq G m (ev z) (ρ z))/\(∀z∈hi.toList,AV.aq G m (ev z) (ρ z))/\(∀z∈mx.toList,AV.aq G m (ev z) (ρ z)):=fun G m ρ hev=>
    ⟨fun z hz=>hev z (by simp only[bu.operands,ω,aau];exact .inr (.inl (.inl hz))),fun z hz=>hev z (by simp only[bu.operands,ω,aau];exact .inr (.inl (.inr hz))),
     fun z hz=>hev z (by simp only[bu.operands,ω,aau];exact .inr (.inr hz))⟩
  generalize hx:ev x=ax at h hl;unfold mI at h;split at h
  · rename_i es;obtain⟨hu,h⟩:=h;obtain⟨mm,h,bm⟩:=dV h;obtain⟨hh,h,bh⟩:=dV h;obtain⟨ll,h,bl⟩:=dV h;obtain⟨h1,h2,h3,hK⟩:=h;refine⟨_,_,_,hK,by first|exact fun _=>⟨rfl,rfl⟩|(intro hh;cases hh),(by intro h hh;first|(cases hh;done)|exact(ξ.1 hh).2|(split at hh<;>first|exact(ξ.1 hh).2|cases hh)),fun G m w ρ _ lk2 hls hS hev _=>?_⟩;obtain⟨v1,v2,v3⟩:=hevs G m ρ hev;obtain⟨a,cap,hv,hcap,hnil,hne⟩:=um (fj hev hx (by simp[bu.operands]));cases mx with
    | none =>
      have:=hrep G m es a cap ll hh cap hcap hnil hne h1 h2 (by omega) (me _) hu;refine bp.val (hexec ρ a es.length cap ll hh cap w hv (.inl ⟨rfl,rfl⟩) (bh G m ρ v2) (bl G m ρ v1) h1 (by omega) (me _) (by simp)) (bj.val hS ?_);simp only[adu,abu,if_false];unfold AV.aq;exact this
    | some mx =>
      obtain⟨h4,rfl⟩:=h3 rfl;have:=hrep G m es a cap ll hh hh hcap hnil hne h1 h2 (me _) (by omega) hu;have bm':=bm G m ρ v3;have bm'':Bd (Option.map ρ (some mx)) hh cap:=by
        rcases bm' with⟨h,_⟩|h
        · cases h
        · exact .inr h
      refine bp.val (hexec ρ a es.length cap ll hh hh w hv bm'' (bh G m ρ v2) (bl G m ρ v1) h1 (me _) (by omega) (fun _=>h4)) (bj.val hS ?_);simp only[Option.isSome_some,if_true];unfold AV.aq;refine⟨this,(if hh=ll then a else a.map (·.add (ll*inf.size))),?_⟩;rw[show((es.drop ll).take (hh-ll)).length=hh-ll by simp;omega]
  · rename_i es;obtain⟨hu,h⟩:=h;obtain⟨mm,h,bm⟩:=dV h;obtain⟨hh,h,bh⟩:=dV h;obtain⟨ll,h,bl⟩:=dV h;obtain⟨h1,h2,h3,h4,hK⟩:=h;refine⟨_,_,_,hK,by first|exact fun _=>⟨rfl,rfl⟩|(intro hh;cases hh),(by intro h hh;first|(cases hh;done)|exact(ξ.1 hh).2|(split at hh<;>first|exact(ξ.1 hh).2|cases hh)),fun G m w ρ _ lk2 hls hS hev _=>?_⟩;obtain⟨v1,v2,v3⟩:=hevs G m ρ hev;have hfl:=fj hev hx (by simp[bu.operands]);unfold AV.aq at hfl;obtain⟨hfl,a',hv'⟩:=hfl;obtain⟨a,cap,hv,hcap,hnil,hne⟩:=um (m:=m) (by unfold AV.aq;exact hfl);have hcap':cap=es.length:=by rw[hv]at hv';cases hv';rfl
    subst hcap';have:=hrep G m es a es.length ll hh mm (me _) hnil hne h1 (by omega) h2 h3 hu;refine bp.val (hexec ρ a es.length es.length ll hh mm w hv (bm G m ρ v3) (bh G m ρ v2) (bl G m ρ v1) h1 h2 h3 h4) (bj.val hS ?_);split
    · rename_i e;unfold AV.aq;refine⟨this,(if mm=ll then a else a.map (·.add (ll*inf.size))),?_⟩;rw[show((es.drop ll).take (hh-ll)).length=hh-ll by simp;omega,e]
    · unfold AV.aq;exact this
  · rename_i hd k' off len;obtain⟨rfl,rfl,h⟩:=h;obtain⟨hh,h,bh⟩:=dV h;obtain⟨ll,h,bl⟩:=dV h;obtain⟨h1,h2,hK⟩:=h;refine⟨_,_,_,hK,by first|exact fun _=>⟨rfl,rfl⟩|(intro hh;cases hh),(by intro h hh;first|(cases hh;done)|exact(ξ.1 hh).2|(split at hh<;>first|exact(ξ.1 hh).2|cases hh)),fun G m w ρ _ lk2 hls hS hev _=>?_⟩;obtain⟨v1,v2,v3⟩:=hevs G m ρ hev;obtain⟨loc,hloc,hs⟩:=Cr hS (hls rfl) (fj hev hx (by simp[bu.operands])) hl;rcases hs with⟨p,hv,rfl⟩|⟨b,sz,cap,rfl,hv,hcap,hsz⟩
    · refine bp.val (hexec ρ p 0 0 ll hh 0 w hv (.inl ⟨rfl,rfl⟩) (bh G m ρ v2) (bl G m ρ v1) h1 h2 (me _) (by simp)) (bj.val hS ?_);unfold AV.aq;have z1:hh-ll=0:=by omega
      have z2:0-ll=0:=by omega
      refine⟨rfl,loc,hloc,fun _=>.inl ⟨(if 0=ll then p else p.map (·.add (ll*inf.size))),by rw[z1,z2],z1⟩⟩
    · refine bp.val (hexec ρ _ len cap ll hh cap w hv (.inl ⟨rfl,rfl⟩) (bh G m ρ v2) (bl G m ρ v1) h1 (by omega) (me _) (by simp)) (bj.val hS ?_);unfold AV.aq;refine⟨rfl,_,hloc,fun _=>?_⟩;by_cases e:cap=ll
      · have z1:hh-ll=0:=by omega
        have z2:cap-ll=0:=by omega
        exact .inl ⟨(if cap=ll then some ⟨b,off*inf.size,none⟩else(some ⟨b,off*inf.size,none⟩:Option Addr).map (·.add (ll*inf.size))),by rw[z1,z2],z1⟩
      · refine .inr ⟨b,sz,cap-ll,rfl,?_,by omega,?_⟩
        · rw[if_neg e,aaZ,Addr.add_lit,<-aaW]
        · rw[show off+ll+(cap-ll)=off+cap by omega];exact hsz
  · rename_i hd k' off len cap;obtain⟨rfl,rfl,h⟩:=h;obtain⟨hh,h,bh⟩:=dV h;obtain⟨ll,h,bl⟩:=dV h;obtain⟨h1,h2,h3,hK⟩:=h;refine⟨_,_,_,hK,by first|exact fun _=>⟨rfl,rfl⟩|(intro hh;cases hh),(by intro h hh;first|(cases hh;done)|exact(ξ.1 hh).2|(split at hh<;>first|exact(ξ.1 hh).2|cases hh)),fun G m w ρ _ lk2 hls hS hev _=>?_⟩;obtain⟨v1,v2,v3⟩:=hevs G m ρ hev;obtain⟨loc,hloc,hs⟩:=yM hS (hls rfl) (fj hev hx (by simp[bu.operands])) hl;obtain⟨b,sz,rfl,hv,hcap,hsz⟩:=hs;refine bp.val (hexec ρ _ len cap ll hh cap w hv (.inl ⟨rfl,rfl⟩) (bh G m ρ v2) (bl G m ρ v1) h1 h2 (me _) (by simp)) (bj.val hS ?_);unfold AV.aq;refine⟨rfl,_,hloc,fun _=>⟨b,sz,rfl,?_,by omega,?_⟩⟩
    · rw[if_neg (by omega),aaZ,Addr.add_lit,<-aaW]
    · rw[show off+ll+(cap-ll)=off+cap by omega];exact hsz
  · exact h.elim
theorem C4{P:Program}{o:Oper}{f:Operand}(ho:o.op=.call c)(hc:c.callee=.value f)(hv:ρ f=.func (.func fn) #[] vs)(h:db P fn (c.args.map ρ++vs) w R):bp P o ρ w R:=by
 rcases h with⟨⟨fd,h1,h2,h3⟩,h⟩|⟨v,w',h1,h⟩
 ·have hnone:fd.body.isNone=false:=by rw[Option.isNone_eq_false_iff];exact h2
  have hrun:(execOp ρ o).run P w=.ok (.enter fn (c.args.map ρ++vs)) w:=by simp only[execOp,ho,resolve,hc,hv,Deferred.ofValue,Sem.run_bind,Sem.run_pure,Result.andThen_ok,invoke,callFunc,run_program,h1,h3,hnone,abu,if_false];simp
  unfold bp;rw[hrun];exact h
 ·refine bp.val (v:=v) (w':=w') ?_ h;simp only[execOp,ho,resolve,hc,hv,Deferred.ofValue,Sem.run_bind,Sem.run_pure,Result.andThen_ok,invoke];simpa using h1
theorem Ry{f:Operand}(ho:o.op=.call c)(hc:c.callee=.value f)(h:aY P lk n ev (.call f c.args.toList) K):
  PS P o (.call f c.args.toList) lk n ev K:=by
 obtain⟨fn,caps,ks,z,r,nbs,hf,hz,hcall,hK⟩:=h;refine⟨_,_,_,hK,by first|exact fun _=>⟨rfl,rfl⟩|(intro hh;cases hh),(by
  intro h hh;split at hh
  ·cases hh
  ·cases z with
   |true=>cases hh
   |false=>exact(ξ.1 hh).2),fun G m w ρ _ lk2 hls hS hev hn=>?_⟩
 have hrf:=fj hev hf (by simp[bu.operands]);unfold AV.aq at hrf;obtain⟨vs,hv,hcaps⟩:=hrf;have hargs:AV.bb G m (c.args.toList.map ev) (c.args.toList.map ρ):=AV.gn (fun x hx=>hev x (by simp only[bu.operands,ω];exact .inr hx));have hrep:AV.bb G m (c.args.toList.map ev++caps) (c.args.map ρ++vs).toList:=by rw[Array.toList_append,abm];exact AV.cw hargs hcaps
 exact C4 ho hc hv (Tt hz hcall (hls rfl) hS hrep (fun j hj=>hn j (by simpa using hj)))
end
theorem cf.drew{G:Gh}{m:HM}{lk:bJ}{w:World}(hS:cf G m lk w):cf G m lk w.drew:=
 ⟨fun h b sz hm=>let⟨bl,hl,hb⟩:=hS.fh h b sz hm;⟨bl,hl,hb.mono (Gh.le.refl G) (HM.le.refl m) (fun _=>rfl) rfl⟩,hS.nil,hS.da,hS.gh,hS.dead,hS.gl,fun h b sz fp hm=>let⟨bl,hl,hb⟩:=hS.di h b sz fp hm;⟨bl,hl,hb.mono (Gh.le.refl G) (HM.le.refl m) (fun _ _ _=>rfl) (fun _ _=>rfl) (dz.refl _ _)⟩⟩
theorem bj.oz(h:bj G m lk n a nbs fz w.drew v w'):bj G m lk n a nbs fz w v w':=by obtain⟨G',m',h1,h2,h3,h4,h5⟩:=h;exact⟨G',m',h1,h2,⟨h3.os,⟨h3.tape.1,aaG (Nat.le_succ _) h3.tape.2⟩,h3.output,h3.size,h3.heap,h3.gh,h3.le⟩,h4,h5⟩
theorem bj.oo(hS:cf G m lk w)
  (h:∀G1,Gh.le G G1->cf G1 m (fo lk fz) w->bj G1 m (fo lk fz) n a nbs [] w v w'):bj G m lk n a nbs fz w v w':=by obtain⟨G1,hS1,hle,hG1⟩:=hS.freeze fz;obtain⟨G',m',h1,h2,h3,h4,h5⟩:=h G1 hle hS1;rw[eD]at h1;refine⟨G',m',h1,h2,⟨h3.os,h3.tape,h3.output,h3.size,h3.heap,fun b hb ho o=>?_,hle.trans h3.le⟩,h4,h5⟩;rw[h3.gh b hb ho o,hG1 b (fun h _ sz e=>ho (.at_ e)) o]
def xq:List Value->List (Nat×List Value)->List Value
 |cs,[]=>cs
 |cs,(o,xs)::r=>xq (cs.take o++xs++cs.drop (o+xs.length)) r
theorem Mn(off:Nat):∀(l:List Value) (s:Nat) (cells:Array Value),off+s+l.length<=cells.size->
  ((l.zipIdx s).foldl (fun(cs:Array Value) (p:Value×Nat)=>cs.setIfInBounds (off+p.2) p.1) cells).toList=cells.toList.take (off+s)++l++cells.toList.drop (off+s+l.length)
 |[],s,cells,h=>by simp
 |x::l,s,cells,h=>by
  simp only[List.zipIdx_cons,List.foldl_cons];rw[Mn off l (s+1) _ (by simp at h|-;omega)];have hlt:off+s<cells.toList.length:=by simp at h|-;omega
  rw[Array.toList_setIfInBounds];have e1:(cells.toList.set (off+s) x).take (off+(s+1))=cells.toList.take (off+s)++[x]:=by rw[show off+(s+1)=off+s+1 by omega,List.take_succ_eq_append_getElem (by simp;simpa using hlt)];simp[List.take_set_of_le]
  have e2:(cells.toList.set (off+s) x).drop (off+(s+1)+l.length)=cells.toList.drop (off+s+(x::l).length):=by rw[List.drop_set_of_lt (by omega)];congr 1;simp;omega
  rw[e1,e2];simp
theorem yP(place:Nat->Option (Nat×Nat)):∀(ps:List (Nat×Value)) (cells:Array Value) (qs:List (Nat×List Value)),
  ps.length=qs.length->(∀(j i:Nat) (v:Value),ps[j]?=some (i,v)->∃o,qs[j]?=some (o,v.cells.toList)/\place i=some (o,v.cells.size)/\o+v.cells.size<=cells.size)->
  ∃out,Instr.fill place cells ps=some out/\out.toList=xq cells.toList qs
 |[],cells,qs,hl,_=>by
  have:qs=[]:=by simpa using hl.symm
  subst this;exact⟨cells,rfl,rfl⟩
 |(i,v)::ps,cells,qs,hl,h=>by
  match qs,hl with
  |q::qs,hl=>
   obtain⟨o,h1,h2,h3⟩:=h 0 i v rfl;simp at h1;subst h1;simp only[Instr.fill,h2,ne_eq,not_true_eq_false,decide_false,Bool.false_or];rw[if_neg (by simp;omega)];let cells2:Array Value:=v.cells.zipIdx.foldl (fun cs (c,j)=>cs.setIfInBounds (o+j) c) cells;have hc2:cells2.toList=cells.toList.take o++v.cells.toList++cells.toList.drop (o+v.cells.toList.length):=by have:=Mn o v.cells.toList 0 cells (by simpa using h3);simp only[abt]at this;rw[<-this];show(v.cells.zipIdx.foldl (fun(cs:Array Value) (p:Value×Nat)=>cs.setIfInBounds (o+p.2) p.1) cells).toList=_;rw[<-Array.foldl_toList,Array.toList_zipIdx]
   have hsz:cells2.size=cells.size:=by have:=congrArg List.length hc2;simp at this;omega
   obtain⟨out,h4,h5⟩:=yP place ps cells2 qs (by simpa using hl) (fun j i' v' hj=>by
    obtain⟨o',g1,g2,g3⟩:=h (j+1) i' v' (by simpa using hj);exact⟨o',by simpa using g1,g2,by rw[hsz];exact g3⟩)
   refine⟨out,h4,?_⟩;rw[h5,hc2];rfl
theorem Gq{G:Gh}{m:HM}:∀(qs:List (Nat×List AV)) (rs:List (Nat×List Value)) (cs:List AV) (vs:List Value),AV.bb G m cs vs->qs.length=rs.length->
  (∀(j o:Nat) (xs:List AV),qs[j]?=some (o,xs)->∃us,rs[j]?=some (o,us)/\AV.bb G m xs us)->AV.bb G m (zD cs qs) (xq vs rs)
 |[],rs,cs,vs,h,hl,_=>by
  have:rs=[]:=by simpa using hl.symm
  subst this;exact h
 |(o,xs)::qs,rs,cs,vs,h,hl,hq=>by
  match rs,hl with
  |r::rs,hl=>
   obtain⟨us,h1,h2⟩:=hq 0 o xs rfl;simp at h1;subst h1;unfold zD xq;refine Gq qs rs _ _ ?_ (by simpa using hl) (fun j o' xs' hj=>by simpa using hq (j+1) o' xs' (by simpa using hj));rw[show xs.length=us.length from AV.cd h2];exact AV.cw (AV.cw (AV.eg o h) h2) (AV.gv _ h)
theorem JG{α β:Type}(f:α->Option β):∀{l:List α} {r:List β},l.mapM f=some r->r.length=l.length/\∀(j:Nat) (a:α),l[j]?=some a->∃b,r[j]?=some b/\f a=some b
 |[],r,h=>by
  simp at h;subst h;exact⟨rfl,fun j a h=>by simp at h⟩
 |x::l,r,h=>by
  rw[List.mapM_cons]at h;simp only[Option.bind_eq_bind,η,Option.pure_def,Option.some.injEq]at h;obtain⟨b,hb,bs,hbs,rfl⟩:=h;obtain⟨h1,h2⟩:=JG f hbs;refine⟨by simp[h1],fun j a hj=>?_⟩
  match j with
  |0=>simp at hj;subst hj;exact⟨b,rfl,hb⟩
  |j+1=>simpa using h2 j a (by simpa using hj)
section
variable{P:Program}{o:Oper}{lk:bJ}{n:Nat}{ev:Operand->AV}{K:AV->List bn->List Hd->Prop}
theorem E0{zs:List AV}{K':AV->Prop}:∀{ps:List (Nat×Nat×Operand)} {acc:List (Nat×List AV)},y9 ev zs ps acc K'->
  ∃qs:List (Nat×List AV),K' (.agg (zD zs (acc.reverse++qs)))/\qs.length=ps.length/\
   ∀(j o sz:Nat) (x:Operand),ps[j]?=some (o,sz,x)->∃cs,qs[j]?=some (o,cs)/\(ev x).cells?=some cs/\cs.length=sz/\o+sz<=zs.length
 |[],acc,h=>⟨[],by simpa[y9]using h,rfl,fun j o sz x hj=>by simp at hj⟩
 |(o,sz,x)::r,acc,h=>by
  unfold y9 at h;obtain⟨cs,h1,h2,h3,h4⟩:=h;obtain⟨qs,g1,g2,g3⟩:=E0 h4;refine⟨(o,cs)::qs,by simpa using g1,by simp[g2],fun j o' sz' x' hj=>?_⟩
  match j with
  |0=>
   simp at hj;obtain⟨rfl,rfl,rfl⟩:=hj;exact⟨cs,rfl,h1,h2,h3⟩
  |j+1=>simpa using g3 j o' sz' x' (by simpa using hj)
theorem ZX{fs:List Field}(h:∀f∈fs,(P.info? f.type).isSome=true)(w:World):
  (fs.mapM (fun(f:Field)=>(do pure (f.offset,<-sizeOf f.type):Sem (Nat×Nat)))).run P w=.ok (fs.map fun f=>(f.offset,P.cellsOf f.type)) w:=by
 induction fs with
 |nil=>simp
 |cons f fs ih=>
  obtain⟨i,hi⟩:=aa5.1 (h f (by simp));rw[List.mapM_cons];simp only[Sem.run_bind,cO hi,Result.andThen_ok,Sem.run_pure,ih (fun g hg=>h g (by simp[hg])),aaM];congr 2;simp[Program.cellsOf,hi]
theorem Yf{ro:bu}{fs:Array Field}(ho:o.op=.build T ps)(hT:P.underlying T=some (.struct fs))(hi:P.info? T=some i)(hr:aA P o=some ro)(h:aY P lk n ev ro K):PS P o ro lk n ev K:=by
 simp only[aA,ho,hT,hi]at hr;split at hr
 case isFalse=>cases hr
 rename_i hall;simp only[η,ι]at hr;obtain⟨z,hz,l,hl,rfl⟩:=hr;obtain⟨hlen,hget⟩:=JG _ hl;obtain⟨qs,hK,hql,hq⟩:=E0 h;refine⟨_,_,_,hK,by first|exact fun _=>⟨rfl,rfl⟩|(intro hh;cases hh),(by intro h hh;first|(cases hh;done)|exact(ξ.1 hh).2|(split at hh<;>first|exact(ξ.1 hh).2|cases hh)),fun G m w ρ _ lk2 hls hS hev _=>?_⟩;have hps:(List.map (fun(p:Nat×Operand)=>(p.1,ρ p.2)) ps.toList)=(ps.map fun(i,x)=>(i,ρ x)).toList:=by rw[abm]
 have hcell:∀(j i:Nat) (v:Value),(ps.map fun(i,x)=>(i,ρ x)).toList[j]?=some (i,v)->∃f fi x o' cs,ps.toList[j]?=some (i,x)/\v=ρ x/\fs[i]?=some f/\P.info? f.type=some fi/\o'=f.offset/\qs[j]?=some (o',cs)/\AV.bb G m cs v.cells.toList/\cs.length=fi.size/\o'+fi.size<=z.cells.size:=fun j i v hj=>by
  rw[<-hps,aac]at hj;cases hx:ps.toList[j]?with
  |none=>rw[hx]at hj;cases hj
  |some p=>
   obtain⟨i',x⟩:=p;rw[hx]at hj;simp only[aaZ,Option.some.injEq,Prod.mk.injEq]at hj;obtain⟨rfl,rfl⟩:=hj;obtain⟨b,hb,hfb⟩:=hget j (i',x) hx;simp only[η,ι]at hfb;obtain⟨f,hf,fi,hfi,rfl⟩:=hfb;obtain⟨cs,g1,g2,g3,g4⟩:=hq j _ _ _ hb;have hxr:=hev x (by simp only[bu.operands,List.mem_map];exact⟨_,aar hb,rfl⟩);exact⟨f,fi,x,_,cs,rfl,rfl,hf,hfi,rfl,g1,(AV.fq g2 hxr).1,g3,by simpa using g4⟩
 let rs:List (Nat×List Value):=(ps.map fun(i,x)=>(i,ρ x)).toList.zip qs|>.map fun p=>(p.2.1,p.1.2.cells.toList);have hrs:∀(j i:Nat) (v:Value) (o':Nat) (cs:List AV),(ps.map fun(i,x)=>(i,ρ x)).toList[j]?=some (i,v)->qs[j]?=some (o',cs)->rs[j]?=some (o',v.cells.toList):=fun j i v o' cs h1 h2=>by show(((ps.map fun(i,x)=>(i,ρ x)).toList.zip qs).map _)[j]?=_;rw[aac,(List.getElem?_zip_eq_some (z:=((i,v),(o',cs)))).2 ⟨h1,h2⟩];rfl
 have hlps:(ps.map fun(i,x)=>(i,ρ x)).toList.length=qs.length:=by rw[hql,hlen];simp
 have hrsl:rs.length=qs.length:=by show(((ps.map fun(i,x)=>(i,ρ x)).toList.zip qs).map _).length=_;rw[κ,List.length_zip,hlps];simp
 obtain⟨out,ho1,ho2⟩:=yP (fun i=>(fs.toList.map fun f=>(f.offset,P.cellsOf f.type)).toArray[i]?) (ps.map fun(i,x)=>(i,ρ x)).toList z.cells rs (by rw[hlps,hrsl]) (fun j i v hj=>by
  obtain⟨f,fi,x,o',cs,g1,g2,g3,g4,g5,g6,g7,g8,g9⟩:=hcell j i v hj;have hsz:v.cells.size=fi.size:=by rw[<-g8,AV.cd g7];simp
  refine⟨o',hrs j i v o' cs hj g6,?_,by rw[hsz];exact g9⟩;rw[hsz,g5];simp[g3,Program.cellsOf,g4])
 refine bp.val (v:=.agg out) (w':=w) ?_ (bj.val hS ?_)
 ·have hplaces:(fs.mapM (fun(f:Field)=>(do pure (f.offset,<-sizeOf f.type):Sem (Nat×Nat)))).run P w=.ok (fs.toList.map fun f=>(f.offset,P.cellsOf f.type)).toArray w:=by rw[Array.mapM_eq_mapM_toList];simp only[Sem.run_map,ZX (P:=P) (fs:=fs.toList) (fun f hf=>by have:=aa1.1 hall f hf;exact this) w,Result.andThen_ok]
  simp only[execOp,ho,Instr.build,Sem.run_bind,lN hi hz,run_underlying hT,Result.andThen_ok,hplaces,ho1,Sem.run_pure]
 ·unfold AV.aq;refine⟨out,rfl,?_⟩;rw[ho2];refine Gq _ _ _ _ ?_ (by simp[hrsl]) (fun j o' xs hj=>?_)
  ·exact AV.gg _
  ·simp only[List.reverse_nil,aa8]at hj;have hjl:=(υ.1 hj).1;rw[<-hlps]at hjl;obtain⟨⟨i,v⟩,hpv⟩:∃p,(ps.map fun(i,x)=>(i,ρ x)).toList[j]?=some p:=⟨_,ν hjl⟩;obtain⟨f,fi,x,o2,cs,g1,g2,g3,g4,g5,g6,g7,g8,g9⟩:=hcell j i v hpv;rw[g6]at hj;cases hj;exact⟨_,hrs j i v o' xs hpv g6,g7⟩
theorem Qx{m:Nat}{fi:TypeInfo}(ho:o.op=.build T ps)(hT:P.underlying T=some (.array m e))(hi:P.info? T=some i)(hz:i.zero=some z)(hfi:P.info? e=some fi)
  (h:aY P lk n ev (.build (z.cells.toList.map jJ) (ps.toList.map fun p=>(p.1*fi.size,fi.size,p.2))) K):PS P o (.build (z.cells.toList.map jJ) (ps.toList.map fun p=>(p.1*fi.size,fi.size,p.2))) lk n ev K:=by
 obtain⟨qs,hK,hql,hq⟩:=E0 h;refine⟨_,_,_,hK,by first|exact fun _=>⟨rfl,rfl⟩|(intro hh;cases hh),(by intro h hh;first|(cases hh;done)|exact(ξ.1 hh).2|(split at hh<;>first|exact(ξ.1 hh).2|cases hh)),fun G m w ρ _ lk2 hls hS hev _=>?_⟩;have hps:(List.map (fun(p:Nat×Operand)=>(p.1,ρ p.2)) ps.toList)=(ps.map fun(i,x)=>(i,ρ x)).toList:=by rw[abm]
 have hcell:∀(j i:Nat) (v:Value),(ps.map fun(i,x)=>(i,ρ x)).toList[j]?=some (i,v)->∃x o' cs,ps.toList[j]?=some (i,x)/\v=ρ x/\o'=i*fi.size/\qs[j]?=some (o',cs)/\AV.bb G m cs v.cells.toList/\cs.length=fi.size/\o'+fi.size<=z.cells.size:=fun j i v hj=>by
  rw[<-hps,aac]at hj;cases hx:ps.toList[j]?with
  |none=>rw[hx]at hj;cases hj
  |some p=>
   obtain⟨i',x⟩:=p;rw[hx]at hj;simp only[aaZ,Option.some.injEq,Prod.mk.injEq]at hj;obtain⟨rfl,rfl⟩:=hj;have hb:(ps.toList.map fun p=>(p.1*fi.size,fi.size,p.2))[j]?=some (i'*fi.size,fi.size,x):=by rw[aac,hx];rfl
   obtain⟨cs,g1,g2,g3,g4⟩:=hq j _ _ _ hb;have hxr:=hev x (List.mem_map.2 ⟨_,aar hb,rfl⟩);exact⟨x,_,cs,rfl,rfl,rfl,g1,(AV.fq g2 hxr).1,g3,by simpa using g4⟩
 let rs:List (Nat×List Value):=(ps.map fun(i,x)=>(i,ρ x)).toList.zip qs|>.map fun p=>(p.2.1,p.1.2.cells.toList);have hrs:∀(j i:Nat) (v:Value) (o':Nat) (cs:List AV),(ps.map fun(i,x)=>(i,ρ x)).toList[j]?=some (i,v)->qs[j]?=some (o',cs)->rs[j]?=some (o',v.cells.toList):=fun j i v o' cs h1 h2=>by show(((ps.map fun(i,x)=>(i,ρ x)).toList.zip qs).map _)[j]?=_;rw[aac,(List.getElem?_zip_eq_some (z:=((i,v),(o',cs)))).2 ⟨h1,h2⟩];rfl
 have hlps:(ps.map fun(i,x)=>(i,ρ x)).toList.length=qs.length:=by rw[hql];simp
 have hrsl:rs.length=qs.length:=by show(((ps.map fun(i,x)=>(i,ρ x)).toList.zip qs).map _).length=_;rw[κ,List.length_zip,hlps];simp
 obtain⟨out,ho1,ho2⟩:=yP (fun i=>some (i*fi.size,fi.size)) (ps.map fun(i,x)=>(i,ρ x)).toList z.cells rs (by rw[hlps,hrsl]) (fun j i v hj=>by
  obtain⟨x,o',cs,g1,g2,g5,g6,g7,g8,g9⟩:=hcell j i v hj;have hsz:v.cells.size=fi.size:=by rw[<-g8,AV.cd g7];simp
  refine⟨o',hrs j i v o' cs hj g6,?_,by rw[hsz];exact g9⟩;rw[hsz,g5])
 refine bp.val (v:=.agg out) (w':=w) ?_ (bj.val hS ?_)
 ·simp only[execOp,ho,Instr.build,Sem.run_bind,lN hi hz,run_underlying hT,cO hfi,Result.andThen_ok,ho1,Sem.run_pure]
 ·unfold AV.aq;refine⟨out,rfl,?_⟩;rw[ho2];refine Gq _ _ _ _ ?_ (by simp[hrsl]) (fun j o' xs hj=>?_)
  ·exact AV.gg _
  ·simp only[List.reverse_nil,aa8]at hj;have hjl:=(υ.1 hj).1;rw[<-hlps]at hjl;obtain⟨⟨i,v⟩,hpv⟩:∃p,(ps.map fun(i,x)=>(i,ρ x)).toList[j]?=some p:=⟨_,ν hjl⟩;obtain⟨x,o2,cs,g1,g2,g5,g6,g7,g8,g9⟩:=hcell j i v hpv;rw[g6]at hj;cases hj;exact⟨_,hrs j i v o' xs hpv g6,g7⟩
end
end Go.Eng

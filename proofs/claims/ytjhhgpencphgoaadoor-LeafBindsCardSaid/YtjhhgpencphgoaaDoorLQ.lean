/- Texts of this claim. -/
import Derived.Test.YtjhhgpencphgoaaDoorLP
import Derived.Test.YtjhhgpencphgoaaDoorLA
import Derived.Laws.Bits64
import Derived.Lib.EndianBits
import Derived.Lib.Varint
import Derived.Lib.BitFns
import Derived.Test.YtjhhgpencphgoaaDoorYB
open BitVec renaming ofInt->js
open Bool renaming and_eq_true->μ,false_or->ia,not_false->gj,not_true->za4
open Classical renaming byContradiction->za5
open Go.IntKind renaming bits->fu,max->ji,wrap->θ
open Int renaming ofNat_tmod->gx,tmod->za6,toNat_natCast->za7
open List renaming append_assoc->a9,append_nil->bj,drop_append_of_le_length->za8,drop_eq_nil_of_le->ef,drop_of_length_le->dg,drop_zero->da,flatMap_cons->gu,getD_eq_getElem?_getD->bk,getElem?_eq_getElem->ν,getElem?_map->τ,getElem_mem->ee,getElem_of_mem->jq,length_append->κ,length_cons->bg,length_drop->υ,length_eq_one_iff->za9,length_eq_zero_iff->dn,length_map->ι,length_nil->zb0,length_replicate->ib,length_singleton->cn,length_take->bz,map_append->cd,mem_append->dj,mem_append_left->bu,mem_append_right->bp,mem_cons->cq,mem_cons_of_mem->dw,mem_cons_self->c9,mem_map->db,mem_of_mem_drop->ik,mem_of_mem_take->zb1,mem_singleton->bo,nil_append->zb2,not_mem_nil->fm,replicate->br,replicate_succ->iv,replicate_zero->iu,take_append_drop->fo,take_append_of_le_length->ey,take_of_length_le->bn,take_succ_eq_append_getElem->gq
open Nat renaming eq_zero_or_pos->ez,le_refl->π,pow_le_pow_right->fw,pow_succ->zb3,sub_zero->gy,zero_le->eo
open Option renaming map_some->c7
set_option linter.all false
set_option maxRecDepth 8000
set_option synthInstance.maxSize 100000
set_option synthInstance.maxHeartbeats 400000
namespace Go.Proofs.Tryd
open Go.Eng Go.RowKit Go.Lib
variable{N i m k:Nat}{n g y:Int}{β α:Type}{s:Str}{l:List Str}{p:List (Arr 16)}{x a t:Arr 16}{f:Fo}
theorem aHo(k:IntKind)(x y:Int):bits .or k x y=bits .or k y x:=by show k.wrap ((js k.bits x|||js k.bits y).toNat:Int)=k.wrap ((js k.bits y|||js k.bits x).toNat:Int);rw[BitVec.or_comm]
theorem set_set{n:Nat}(x:Arr n)(i:Nat)(a b:Int):(x.set i a).set i b=x.set i b:=Arr.ext (by rw[Arr.l_set,Arr.l_set,Arr.l_set,List.set_set])
theorem aD7{n:Nat}(x:Arr n)(i:Nat)(a:Int)(h:i<n):(x.set i a).l.getD i 0=a:=by rw[Arr.l_set,bk,List.getElem?_set_self (by rw[x.len];exact h)];rfl
theorem aJ9{n:Nat}(x:Arr n)(i j:Nat)(a:Int)(h:i≠j):(x.set i a).l.getD j 0=x.l.getD j 0:=by rw[Arr.l_set,bk,List.getElem?_set_ne h,bk]
theorem aNz{n:Nat}(x:Arr n){j:Int}{f:Int->Option β}(h0:0<=j)(h:j<n):gd? (0<=j) (gd? (j<((n:Nat):Int)) (gn? x.l j.toNat f))=f (x.l.getD j.toNat 0):=by
 have h':j.toNat<x.l.length:=by rw[x.len];omega
 rw[aC h0,aC h,aYe (ν h'),bk,ν h'];rfl
def Byt(l:List Int):Prop:=∀x∈l,0<=x/\x<256
def ror(x n:Int):Int:=bits .or .u32 (x/2^n.toNat) (θ .u32 (x*2^(32-n).toNat))
theorem lN(N:Nat)(x n:Int)(h:bits .and .u64 (θ .u64 (-n)) 31=32-n)(h0:0<=n)(h1:n<=32)(hw:θ .u64 (32-(32-n))=n):aF N x (-n)=some (ror x n):=by have e:(fu .u32:Int)=32:=rfl;unfold aF ror;rw[h,hw,aC (by omega),aC (by omega),aC h0,aC (by omega),aHo]
theorem bG1(N:Nat)(x:Int):aF N x (-6)=some (ror x 6):=lN N x 6 (by decide+kernel) (by decide) (by decide) (by decide+kernel)
theorem bEv(N:Nat)(x:Int):aF N x (-11)=some (ror x 11):=lN N x 11 (by decide+kernel) (by decide) (by decide) (by decide+kernel)
theorem bFg(N:Nat)(x:Int):aF N x (-25)=some (ror x 25):=lN N x 25 (by decide+kernel) (by decide) (by decide) (by decide+kernel)
theorem bGp(N:Nat)(x:Int):aF N x (-2)=some (ror x 2):=lN N x 2 (by decide+kernel) (by decide) (by decide) (by decide+kernel)
theorem bEw(N:Nat)(x:Int):aF N x (-13)=some (ror x 13):=lN N x 13 (by decide+kernel) (by decide) (by decide) (by decide+kernel)
theorem bD6(N:Nat)(x:Int):aF N x (-22)=some (ror x 22):=lN N x 22 (by decide+kernel) (by decide) (by decide) (by decide+kernel)
theorem bGi(N:Nat)(x:Int):aF N x (-7)=some (ror x 7):=lN N x 7 (by decide+kernel) (by decide) (by decide) (by decide+kernel)
theorem bEf(N:Nat)(x:Int):aF N x (-18)=some (ror x 18):=lN N x 18 (by decide+kernel) (by decide) (by decide) (by decide+kernel)
theorem bDq(N:Nat)(x:Int):aF N x (-17)=some (ror x 17):=lN N x 17 (by decide+kernel) (by decide) (by decide) (by decide+kernel)
theorem bEq(N:Nat)(x:Int):aF N x (-19)=some (ror x 19):=lN N x 19 (by decide+kernel) (by decide) (by decide) (by decide+kernel)
theorem bE3(N:Nat)(x:Int):iZ N x 6 11 25=some (bits .xor .u32 (bits .xor .u32 (ror x 6) (ror x 11)) (ror x 25)):=by unfold iZ;rw[bG1,bEv,bFg];rfl
theorem bFx(N:Nat)(x:Int):iZ N x 2 13 22=some (bits .xor .u32 (bits .xor .u32 (ror x 2) (ror x 13)) (ror x 22)):=by unfold iZ;rw[bGp,bEw,bD6];rfl
theorem aTu(N m:Nat):dT N (m+1)=dZ N (dT N m):=rfl
theorem aJt(N:Nat)(p:List Int)(a2:Arr 64):∀(k t m:Nat) (w:Arr 64),t+k=64->16<=t->k<m->∃r,dT N m p (t:Int) a2 w=some r
 |k,t,0,w,_,_,h=>by omega
 |0,t,m+1,w,h,h1,_=>by
  rw[aTu];unfold dZ;rw[aK (decide_eq_false (by omega))];exact⟨_,rfl⟩
 |k+1,t,m+1,w,h,h1,hm=>by
  rw[aTu];unfold dZ;rw[aJ (decide_eq_true (by omega)),aK (decide_eq_false (by omega))];have n1:((t:Int)+1)=((t+1:Nat):Int):=by omega
  have g1:∀{n:Nat} {α:Type} {a:Option α},64=n->gd? ((t:Int)<((n:Nat):Int)) a=a:=fun e=>aC (by omega);have g2:∀{α:Type} {a:Option α},gd? (0<=(t:Int)) a=a:=aC (by omega);have g3:∀{α:Type} {a:Option α},gd? ((t:Int).toNat<64) a=a:=aC (by omega);rw[bF (by omega) (by omega),aNz w (by omega) (by omega),bF (by omega) (by omega),aNz w (by omega) (by omega),bGi,aB,bEf,aB,bDq,aB,bEq,aB,bF (by omega) (by omega),aNz w (by omega) (by omega),bF (by omega) (by omega),aNz w (by omega) (by omega),g2,g1 rfl,g3,aB];dsimp only;rw[bF (n:=(t:Int)+1) (by omega) (by omega),n1];exact aJt N p a2 k (t+1) m _ (by omega) (by omega) (by omega)
theorem bGb{p:List Int}(h:i+4<=p.length):∃a b c d r,p.drop i=a::b::c::d::r:=by
 match hp:p.drop i with
 |[]=>have:=congrArg List.length hp;simp at this;omega
 |[_]=>have:=congrArg List.length hp;simp at this;omega
 |[_,_]=>have:=congrArg List.length hp;simp at this;omega
 |[_,_,_]=>have:=congrArg List.length hp;simp at this;omega
 |a::b::c::d::r=>exact⟨a,b,c,d,r,rfl⟩
theorem aZk(m:Nat):cK (m+1)=gC (cK m):=rfl
theorem aJm(p l:List Int)(t j m n:Nat)(x:Int)(a2 w:Arr 64)(ht:t<64)(hn:l.length=n)(hx:l[j]?=some x)(hj:j<100):
  cK (m+1) p (t:Int) (t:Int) l (n:Int) (j:Int) a2 w=cK m p (t:Int) (t:Int) l (n:Int) ((j+1:Nat):Int) a2 (w.set t (bits .or .u32 (θ .u32 (w.l.getD t 0*2^8)) (θ .u32 x))):=by have hlt:j<l.length:=(List.getElem?_eq_some_iff.1 hx).1;rw[aZk];unfold gC;rw[aJ (decide_eq_true (by omega)),gM hx,aNz w (by omega) (by omega),aC (by omega),aC (by omega),aC (by omega),bF (by omega) (by omega),za7,show((j:Int)+1)=((j+1:Nat):Int) by omega]
theorem aWa(p:List Int)(t m:Nat)(a2 w:Arr 64)(a b c d:Int)(ht:t<16)(h0:w.l.getD t 0=0):
  cK (m+5) p (t:Int) (t:Int) [a,b,c,d] ((4:Nat):Int) 0 a2 w=some (p,(t:Int),a2,w.set t (bits .or .u32 (θ .u32 (bits .or .u32 (θ .u32 (bits .or .u32 (θ .u32 (bits .or .u32 (θ .u32 (0*2^8)) (θ .u32 a)*2^8)) (θ .u32 b)*2^8)) (θ .u32 c)*2^8)) (θ .u32 d))):=by
 have t64:t<64:=by omega
 refine(aJm p [a,b,c,d] t 0 (m+4) 4 a a2 w t64 rfl rfl (by omega)).trans ?_;rw[aJm p [a,b,c,d] t 1 (m+3) 4 b a2 _ t64 rfl rfl (by omega),aJm p [a,b,c,d] t 2 (m+2) 4 c a2 _ t64 rfl rfl (by omega),aJm p [a,b,c,d] t 3 (m+1) 4 d a2 _ t64 rfl rfl (by omega),aZk];unfold gC;rw[aK (decide_eq_false (by omega)),aD7 _ _ _ t64,aD7 _ _ _ t64,aD7 _ _ _ t64,set_set,set_set,set_set,h0]
theorem aJ2(N:Nat)(p:List Int)(hp:p.length=64)(hN:70<=N)(a2:Arr 64):∀(k t m:Nat) (w:Arr 64),t+k=16->64<m+t->(∀j,t<=j->w.l.getD j 0=0)->∃r,dT N m p (t:Int) a2 w=some r
 |k,t,0,w,_,h,_=>by omega
 |0,t,m+1,w,h,h2,_=>by
  obtain rfl:t=16:=by omega
  exact aJt N p a2 48 16 (m+1) w (by omega) (by omega) (by omega)
 |k+1,t,m+1,w,h,h2,hz=>by
  obtain⟨a,b,c,d,r,hr⟩:=bGb (p:=p) (i:=4*t) (by omega);obtain⟨n,rfl⟩:∃n,N=n+5:=⟨N-5,by omega⟩;have hq:(p.drop (4*(t:Int)).toNat).take (((4*(t:Int))+4).toNat-(4*(t:Int)).toNat)=[a,b,c,d]:=by rw[show(4*(t:Int)).toNat=4*t by omega,show((4*(t:Int))+4).toNat-4*t=4 by omega,hr];rfl
  have hw:=aWa p t n a2 w a b c d (by omega) (hz t (π _));rw[aTu];unfold dZ;rw[aJ (decide_eq_true (by omega)),aJ (decide_eq_true (by omega)),hq,bF (n:=4*(t:Int)) (by omega) (by omega),bF (n:=4*(t:Int)) (by omega) (by omega),bF (by omega) (by omega),aC (by omega),aC (by omega),aC (by omega),aC (by omega)];show∃r,(bd? (cK (n+5) p (t:Int) (t:Int) [a,b,c,d] ((4:Nat):Int) 0 a2 w) _)=some r;rw[hw,aB];dsimp only;rw[bF (n:=(t:Int)+1) (by omega) (by omega),show((t:Int)+1)=((t+1:Nat):Int) by omega];exact aJ2 (n+5) p hp hN a2 k (t+1) m _ (by omega) (by omega) fun j hj=>by rw[aJ9 _ _ _ _ (by omega)];exact hz j (by omega)
theorem aVm(j n:Nat):(br n (0:Int)).getD j 0=0:=by rw[bk,List.getElem?_replicate];split<;>rfl
theorem aLs(p:List Int)(hp:p.length=64)(hN:70<=N):∃r,iR N p=some r:=by unfold iR;exact aJ2 N p hp hN _ 16 0 N _ (by omega) (by omega) fun j _=>aVm j 64
def j8(a b:Arr 4):Arr 8:=⟨a.l++b.l,by rw[κ,a.len,b.len]⟩
theorem aX1(x:Arr 4):∃a b c d,x=⟨[a,b,c,d],rfl⟩:=by
 obtain⟨l,h⟩:=x
 match l,h with
 |[a,b,c,d],h=>exact⟨a,b,c,d,rfl⟩
theorem bG4(x:Arr 8):∃a b c d e f g h,x=⟨[a,b,c,d,e,f,g,h],rfl⟩:=by
 obtain⟨l,h⟩:=x
 match l,h with
 |[a,b,c,d,e,f,g,h],_=>exact⟨a,b,c,d,e,f,g,h,rfl⟩
theorem gn0{a:α}{l:List α}{f:α->Option β}:gn? (a::l) 0 f=f a:=rfl
theorem gn1{a b:α}{l:List α}{f:α->Option β}:gn? (a::b::l) 1 f=f b:=rfl
theorem gn2{a b c:α}{l:List α}{f:α->Option β}:gn? (a::b::c::l) 2 f=f c:=rfl
theorem gn3{a b c d:α}{l:List α}{f:α->Option β}:gn? (a::b::c::d::l) 3 f=f d:=rfl
theorem bGf{t:Nat}{f:Int->Option β}(h:t<64):bS gl3 (t:Int) f=f (gl3.getD t 0):=by have hl:t<gl3.length:=h;rw[gM (ν hl),bk,ν hl];rfl
theorem hM:(ite ((IntKind.signed IntKind.u32)=true) (-1) (ji IntKind.u32):Int)=4294967295:=by decide
theorem aZ7(N m:Nat):dY N (m+1)=gF N (dY N m):=rfl
theorem aWb(N:Nat)(pf)(z s:Arr 8)(w:Arr 64):∀(k t m:Nat) (x y:Arr 4),t+k=64->k<m->
  ∃x' y',dY N m (Arr.mk gl3 pf) (t:Int) s z w x y=gD N 0 s z x' y'
 |k,t,0,x,y,_,h=>by omega
 |0,t,m+1,x,y,h,_=>by
  rw[aZ7];unfold gF;rw[aK (decide_eq_false (by omega))];exact⟨x,y,rfl⟩
 |k+1,t,m+1,x,y,h,hm=>by
  obtain⟨v0,v1,v2,v3,rfl⟩:=aX1 x;obtain⟨e0,e1,e2,e3,rfl⟩:=aX1 y;have ht:t<64:=by omega
  have n1:((t:Int)+1)=((t+1:Nat):Int):=by omega
  rw[aZ7];unfold gF;rw[aJ (decide_eq_true (by omega))];simp(disch:=omega)only[gn0,gn1,gn2,gn3,bGf ht,aNz w,bE3,bFx,aB,bF,aH,n1,hM];exact aWb N pf z s w k (t+1) m _ _ (by omega) (by omega)
def bEr(s:Arr 8)(v:Arr 8):Arr 8:=⟨List.zipWith (fun a b=>θ .u32 (a+b)) s.l v.l,by rw[List.length_zipWith,s.len,v.len];rfl⟩
theorem bF4(n:Nat)(x y:Arr 4)(s z:Arr 8):gD (n+5) 0 s z x y=some (bEr s (j8 x y)):=by obtain⟨v0,v1,v2,v3,rfl⟩:=aX1 x;obtain⟨e0,e1,e2,e3,rfl⟩:=aX1 y;obtain⟨a,b,c,d,e,f,g,h,rfl⟩:=bG4 s;rfl
theorem aWl(N:Nat)(hN:70<=N)(s:Arr 8)(b:List Int)(hb:b.length=64):∃r,dE N s b=some r:=by obtain⟨w,h1⟩:=aLs b hb hN;obtain⟨n,rfl⟩:∃n,N=n+9:=⟨N-9,by omega⟩;obtain⟨x',y',hh⟩:=aWb (n+9) (XS.ev._proof_1 gl3) (Arr.zero 8) s w 64 0 (n+9) (s.part 0 4) (s.part 4 4) (by omega) (by omega);have hh:dY (n+9) (n+9) (Arr.mk gl3 (XS.ev._proof_1 gl3)) 0 s (Arr.zero 8) w (s.part 0 4) (s.part 4 4)=gD (n+9) 0 s (Arr.zero 8) x' y':=hh;refine⟨bEr s (j8 x' y'),?_⟩;unfold dE;rw[h1,aB,aC rfl,aC rfl,aC rfl,hh];exact bF4 (n+4) x' y' s _
def aVf(N:Nat)(s:Arr 8)(b:List Int):Arr 8:=(dE N s b).getD (Arr.zero 8)
theorem bCl(N:Nat)(hN:70<=N)(s:Arr 8)(b:List Int)(hb:b.length=64)(hB:Byt b):dE N s b=some (aVf N s b):=by obtain⟨r,h⟩:=aWl N hN s b hb;unfold aVf;rw[h];rfl
def wA(N:Nat):Nat->Arr 8->List Int->Arr 8
 |0,s,_=>s
 |k+1,s,l=>wA N k (aVf N s (l.take 64)) (l.drop 64)
theorem aC9(N:Nat):∀(k:Nat) (s:Arr 8) (l:List Int),wA N (k+1) s l=aVf N (wA N k s l) ((l.drop (64*k)).take 64)
 |0,s,l=>rfl
 |k+1,s,l=>by rw[wA,aC9 N k,wA,List.drop_drop,show 64+64*k=64*(k+1) by omega]
theorem aA8(N:Nat):∀(k:Nat) (s:Arr 8) (l m:List Int),64*k<=l.length->wA N k s (l++m)=wA N k s l
 |0,s,l,m,_=>rfl
 |k+1,s,l,m,h=>by rw[wA,wA,ey (by omega),za8 (by omega)];exact aA8 N k _ _ _ (by rw[υ];omega)
theorem aJw{l:List Int}(h:Byt l)(n:Nat):Byt (l.take n):=fun x hx=>h x (zb1 hx)
theorem aLy{l:List Int}(h:Byt l)(n:Nat):Byt (l.drop n):=fun x hx=>h x (ik hx)
theorem aWp{l m:List Int}(h:Byt l)(h':Byt m):Byt (l++m):=fun x hx=>(dj.1 hx).elim (h x) (h' x)
theorem bEl(m:Nat):dF (m+1)=eJ (dF m):=rfl
theorem aR5(n:Int):0<=θ .u8 n/\θ .u8 n<256:=by have:θ .u8 n=n%256:=rfl;omega
theorem aYg{n:Nat}(x:Arr n)(i:Nat)(a:Int)(h:Byt x.l)(ha:0<=a/\a<256):Byt (x.set i a).l:=fun y hy=>by
 rw[Arr.l_set]at hy;rcases List.mem_or_eq_of_mem_set hy with hy|rfl
 ·exact h y hy
 ·exact ha
theorem aS2(n:Nat):Byt (Arr.zero n).l:=fun x hx=>by have:(Arr.zero n).l=br n 0:=rfl;rw[this]at hx;have:=List.eq_of_mem_replicate hx;omega
theorem bEi(st:Arr 8×(Arr 64×Int))(a:Arr 32):∀(k t m:Nat) (r:Arr 32),t+k=32->k<m->Byt r.l->∃v,dF m (t:Int) st a r=some v/\Byt v.l
 |k,t,0,r,_,h,_=>by omega
 |0,t,m+1,r,h,_,hB=>by
  rw[bEl];unfold eJ;rw[aK (decide_eq_false (by omega))];exact⟨_,rfl,hB⟩
 |k+1,t,m+1,r,h,hm,hB=>by
  have e1:Int.tdiv (t:Int) 4=((t/4:Nat):Int):=by rw[show(4:Int)=((4:Nat):Int)from rfl,<-Int.ofNat_tdiv]
  have e2:za6 (t:Int) 4=((t%4:Nat):Int):=by rw[show(4:Int)=((4:Nat):Int)from rfl,<-gx]
  have e3:(fu .u32:Int)=32:=rfl;rw[bEl];unfold eJ;rw[e1,e2,aJ (decide_eq_true (by omega)),bF (n:=((t/4:Nat):Int)) (by omega) (by omega)];rw[aNz st.1 (j:=((t/4:Nat):Int)) (by omega) (by omega)];rw[bF (n:=8*((t%4:Nat):Int)) (by omega) (by omega),bF (n:=24-8*((t%4:Nat):Int)) (by omega) (by omega),aC (by omega),aC (by omega),aC (by omega),aC (by omega),aC (by omega),bF (n:=(t:Int)+1) (by omega) (by omega),show((t:Int)+1)=((t+1:Nat):Int) by omega];exact bEi st a k (t+1) m _ (by omega) (by omega) (aYg _ _ _ hB (aR5 _))
theorem aVv(t:Str):Byt (aD t):=by intro x hx;obtain⟨c,_,rfl⟩:=db.1 hx;have:=c.toNat_lt;omega
theorem wV{l:List Int}(h:Byt l):aD (aU l)=l:=by
 induction l with
 |nil=>rfl
 |cons x l ih=>
  have hx:=h x (by simp);have:aD (aU (x::l))=((UInt8.ofNat x.toNat).toNat:Int)::aD (aU l):=rfl;rw[this,ih fun y hy=>h y (by simp[hy])];congr 1;rw[UInt8.toNat_ofNat'];omega
theorem nY{l:List Int}:(aU l).length=l.length:=ι _
theorem qF(t:Str)(n:Nat):(aD t).take n=aD (t.take n):=(List.map_take).symm
theorem aSq(t u:Str):aD (t++u)=aD t++aD u:=cd
theorem bB5{x:Int}(h:0<=x)(h':x<18446744073709551616):θ .u64 x=x:=Go.u64_wrap_id x h h'
abbrev St:=Arr 8×(Arr 64×Int)
theorem bE4(N m:Nat):bT N (m+1)=iH N (bT N m):=rfl
theorem aS3(N m:Nat)(a1:Str)(s:Arr 8)(b:Arr 64)(n:Nat)(z:St)(h:a1≠[])(hn:n<1099511627776)(ha:a1.length<1099511627776):
  bT N (m+1) a1 (s,(b,(n:Int))) z=if n%64+min a1.length (64-n%64)=64 then bd? (dE N s (b.put (n%64) ((aD a1).take (min a1.length (64-n%64)))).l) (fun v=>bT N m (a1.drop (min a1.length (64-n%64))) (v,(b.put (n%64) ((aD a1).take (min a1.length (64-n%64))),((n+min a1.length (64-n%64):Nat):Int))) z)else bT N m (a1.drop (min a1.length (64-n%64))) (s,(b.put (n%64) ((aD a1).take (min a1.length (64-n%64))),((n+min a1.length (64-n%64):Nat):Int))) z:=by
 have e:θ .i64 (za6 (n:Int) 64)=((n%64:Nat):Int):=by rw[show(64:Int)=((64:Nat):Int)from rfl,<-gx,xN (by omega) (by omega)]
 have hb:(!(a1==([]:Str)))=true:=by cases a1 with
  |nil=>exact absurd rfl h
  |cons x y=>rfl
 rw[bE4];unfold iH;rw[hb,aM];dsimp only;rw[e,za7,bW];generalize hA:n%64=A;have hA':A<64:=by omega
 generalize hC:min a1.length (64-A)=C;have hC':C<=a1.length:=by omega
 have hC2:A+C<=64:=by omega
 have hd:(a1.drop C).take (a1.length-C)=a1.drop C:=bn (by rw[υ];exact π _);rw[za7,bB5 (x:=(C:Int)) (by omega) (by omega),bB5 (x:=(n:Int)+(C:Int)) (by omega) (by omega),hd,show((n:Int)+(C:Int))=((n+C:Nat):Int) by omega];rw[aC (by omega),aC (by omega),aC (by omega),aC (by omega),aC (by omega),aC (by omega),bF (by omega) (by omega)];by_cases hq:A+C=64
 ·rw[if_pos hq,kS (by omega),aM,aC (by omega)];have hc:xK (b.put A ((aD a1).take C)).l 0 (64-0) 64=(b.put A ((aD a1).take C)).l:=by have:=(b.put A ((aD a1).take C)).len;unfold xK;simp[this]
  rw[hc]
 ·rw[if_neg hq,jD (by omega),aO]
def h0:Arr 8:=Arr.from [1779033703,3144134277,1013904242,2773480762,1359893119,2600822924,528734635,1541459225] 8
structure Rep (N:Nat) (st:St) (msg:List Int):Prop where
 n:st.2.2=(msg.length:Int)
 state:st.1=wA N (msg.length/64) h0 msg
 tail:st.2.1.l.take (msg.length%64)=msg.drop (64*(msg.length/64))
 byt:Byt msg
theorem aHj(N:Nat)(hN:70<=N)(z:St):∀(m:Nat) (a1:Str) (st:St) (msg:List Int),Rep N st msg->(a1.length=0/\1<=m)\/(msg.length%64+a1.length)/64+2<=m->msg.length+a1.length<1099511627776->∃st',bT N m a1 st z=some st'/\Rep N st' (msg++aD a1)
 |0,a1,st,msg,_,h,_=>by omega
 |m+1,[],st,msg,hR,_,_=>by
  refine⟨st,?_,?_⟩
  ·rw[bE4];rfl
  ·show Rep N st (msg++[]);rw[bj];exact hR
 |m+1,x::a,st,msg,hR,h,hl=>by
  have h:(msg.length%64+(x::a).length)/64+2<=m+1:=h.elim (fun h=>by simp at h) id;generalize hxa:x::a=a1 at h hl|-;have hne:a1≠[]:=by rw[<-hxa];exact List.cons_ne_nil _ _
  have hpos:0<a1.length:=by rw[<-hxa];exact Nat.succ_pos _
  clear hxa;have hst0:st=(st.1,(st.2.1,((msg.length:Nat):Int))):=by rw[<-hR.n]
  rw[hst0,aS3 N m a1 st.1 st.2.1 msg.length z hne (by omega) (by omega)];clear hst0;have hA':msg.length%64<64:=Nat.mod_lt _ (by omega);have htl:=hR.tail;have hst:=hR.state;have hdm:=Nat.div_add_mod msg.length 64;generalize hA:msg.length%64=A at*;generalize hQ:msg.length/64=Q at*;generalize hC:min a1.length (64-A)=C;have hC':C<=a1.length:=by omega
  have hC0:0<C:=by omega
  have hC2:A+C<=64:=by omega
  have hlt:((aD a1).take C).length=C:=by rw[bz,bW];omega
  have hput:(st.2.1.put A ((aD a1).take C)).l=st.2.1.l.take A++(aD a1).take C++st.2.1.l.drop (A+C):=by rw[Arr.l_put (by omega),hlt]
  have hsp:a1=a1.take C++a1.drop C:=(fo C a1).symm;have hm2:msg++aD a1=(msg++aD (a1.take C))++aD (a1.drop C):=by rw[a9,<-aSq,fo]
  have hl2:(msg++aD (a1.take C)).length=msg.length+C:=by rw[κ,<-qF,hlt]
  have hB2:Byt (msg++aD (a1.take C)):=aWp hR.byt (aVv _);rw[hm2];by_cases hq:A+C=64
  ·rw[if_pos hq];have hpl:(st.2.1.put A ((aD a1).take C)).l=st.2.1.l.take A++(aD a1).take C:=by rw[hput,hq,ef (by rw[st.2.1.len];exact π _),bj]
   have hblk:(st.2.1.put A ((aD a1).take C)).l=((msg++aD (a1.take C)).drop (64*Q)).take 64:=by have h64:(msg.drop (64*Q)++aD (a1.take C)).take 64=msg.drop (64*Q)++aD (a1.take C):=bn (by rw[κ,υ,<-qF,hlt];omega);rw[hpl,za8 (by omega),htl,qF,h64]
   have hcomp:=bCl N hN st.1 (st.2.1.put A ((aD a1).take C)).l (Arr.len _) (by rw[hblk];exact aJw (aLy hB2 _) _);rw[hcomp,aB];have hR':Rep N ((aVf N st.1 (st.2.1.put A ((aD a1).take C)).l),((st.2.1.put A ((aD a1).take C)),((msg.length+C:Nat):Int))) (msg++aD (a1.take C)):=by
    refine⟨?_,?_,?_,hB2⟩
    ·rw[hl2]
    ·rw[hl2,show(msg.length+C)/64=Q+1 by omega,aC9,aA8 N Q h0 msg _ (by omega),<-hst,hblk]
    ·rw[hl2,show(msg.length+C)%64=0 by omega,show(msg.length+C)/64=Q+1 by omega,List.take_zero,ef (by omega)]
   exact aHj N hN z m (a1.drop C) _ _ hR' (.inr (by rw[hl2,υ];omega)) (by rw[hl2,υ];omega)
  ·rw[if_neg hq];have hR':Rep N (st.1,((st.2.1.put A ((aD a1).take C)),((msg.length+C:Nat):Int))) (msg++aD (a1.take C)):=by
    refine⟨?_,?_,?_,hB2⟩
    ·rw[hl2]
    ·rw[hl2,show(msg.length+C)/64=Q by omega,aA8 N Q h0 msg _ (by omega),<-hst]
    ·rw[hl2,show(msg.length+C)%64=A+C by omega,show(msg.length+C)/64=Q by omega,hput,za8 (by omega),<-htl,qF];have hln:(st.2.1.l.take A++aD (a1.take C)).length=A+C:=by rw[κ,bz,st.2.1.len,<-qF,hlt];omega
     rw[ey (Nat.le_of_eq hln.symm),bn (Nat.le_of_eq hln)]
   exact aHj N hN z m (a1.drop C) _ _ hR' (.inl (by rw[υ];omega)) (by rw[hl2,υ];omega)
theorem aIy(N:Nat)(hN:70<=N)(st:St)(msg:List Int)(t:Str)(hR:Rep N st msg)(h:t.length/64+3<=N)(hl:msg.length+t.length<1099511627776):∃st',bV N st t=some st'/\Rep N st' (msg++aD t):=
 aHj N hN _ N t st msg hR (.inr (by omega)) hl
def bFn(n:Int):List Int:=[θ .u8 (n/2^(56:Nat)),θ .u8 (n/2^(48:Nat)),θ .u8 (n/2^(40:Nat)),θ .u8 (n/2^(32:Nat)),θ .u8 (n/2^(24:Nat)),θ .u8 (n/2^(16:Nat)),θ .u8 (n/2^(8:Nat)),θ .u8 (n/2^(0:Nat))]
theorem wrap_u8(n:Int):0<=θ .u8 n/\θ .u8 n<256:=by
 have:θ .u8 n=n%256:=by simp[θ,fu,IntKind.signed]
 omega
theorem bEd(N m:Nat):bU N (m+1)=eH N (bU N m):=rfl
theorem bEg(N m j:Nat)(z:Int)(st:St)(w:Arr 32)(a:List Int)(hj:j<8)(ha:a.length<1099511627776):bU N (m+1) z (j:Int) st w a=bU N m z ((j+1:Nat):Int) st w (a++[θ .u8 (z/2^(56-8*j))]):=by have eb:(fu .u64:Int)=64:=rfl;rw[bEd];unfold eH;rw[aJ (decide_eq_true (by omega)),bF (by omega) (by omega),bF (by omega) (by omega),aC (by omega),aC (by omega),aH,aC (by simp only[bg,zb0];omega),bF (by omega) (by omega),aH,show(56-8*(j:Int)).toNat=56-8*j by omega,show((j:Int)+1)=((j+1:Nat):Int) by omega]
def aVt(z:Int):Nat->List Int->List Int
 |0,a=>a
 |k+1,a=>aVt z k (a++[θ .u8 (z/2^(56-8*(7-k)))])
theorem bBl(z:Int)(a:List Int):aVt z 8 a=a++bFn z:=by simp only[aVt,a9,List.cons_append,zb2];rfl
theorem aZ0(N:Nat)(z:Int)(st:St)(w:Arr 32):∀(k j m:Nat) (a:List Int),j+k=8->k<m->a.length+k<1099511627776->bU N m z (j:Int) st w a=(bd? (bV N st (aU (aVt z k a))) fun v=>dF N 0 v w (Arr.zero 32))
 |k,j,0,a,_,h,_=>by omega
 |0,j,m+1,a,hj,_,_=>by
  rw[bEd];unfold eH;rw[aK (decide_eq_false (by omega)),aH];rfl
 |k+1,j,m+1,a,hj,hm,ha=>by rw[bEg N m j z st w a (by omega) (by omega),aZ0 N z st w k (j+1) m _ (by omega) (by omega) (by simp only[κ,bg,zb0];omega),aVt,show 7-k=j by omega]
theorem bG5(N m:Nat):eK N (m+1)=iD N (eK N m):=rfl
theorem aT6(N:Nat)(zz:Int)(st:St)(w:Arr 32)(p:List Int)(hn:st.2.2=(p.length:Int))(hl:p.length<549755813888):∀(k m:Nat) (a:List Int),(p.length+a.length+k)%64=56->k<64->k<m->a.length+k<549755813888->
  ∃z,(p.length+a.length+z)%64=56/\z<=k/\eK N m zz st w a=bU N N zz 0 st w (a++br z 0)
 |k,0,a,_,_,h,_=>by omega
 |k,m+1,a,h,hk,hm,hal=>by
  have e1:za6 ((p.length:Int)+(a.length:Int)) 64=(((p.length+a.length)%64:Nat):Int):=by rw[<-Int.natCast_add];exact(gx _ 64).symm
  rw[bG5];unfold iD;rw[hn,xN (n:=(p.length:Int)) (by omega) (by omega),e1,bF (by omega) (by omega)];by_cases hz:(p.length+a.length)%64=56
  ·refine⟨0,hz,eo _,?_⟩;rw[vW (by omega),aO,aH,iu,bj]
  ·rw[vX (by omega),aM,aH,aC (by simp only[bg,zb0];omega),aH];obtain⟨k',rfl⟩:∃k',k=k'+1:=⟨k-1,by cases k with
    |zero=>exact absurd h hz
    |succ k=>rfl⟩
   obtain⟨z,h1,h2,h3⟩:=aT6 N zz st w p hn hl k' m (a++[0]) (by simp only[κ,bg,zb0];omega) (by omega) (by omega) (by simp only[κ,bg,zb0];omega);simp only[κ,bg,zb0]at h1;refine⟨z+1,by omega,by omega,?_⟩;rw[h3,a9,iv];rfl
theorem bBt(N:Nat)(hN:100<=N)(st:St)(msg:List Int)(hR:Rep N st msg)(hl:msg.length/64+4<=N)(hl':msg.length<900000000):∃r,eA N st=some r/\Byt r.l:=by
 generalize hzz:θ .u64 (8*st.2.2)=zz;obtain⟨z,h1,h2,h3⟩:=aT6 N zz st (Arr.zero 32) msg hR.n (by omega) ((64+56-(msg.length+1)%64)%64) N [128] (by show(msg.length+1+_)%64=56;omega) (by omega) (by omega) (by show 1+_<_;omega);have h1:(msg.length+1+z)%64=56:=h1;generalize hd:[(128:Int)]++br z 0=d at h3;have hdl:d.length=1+z:=by rw[<-hd];simp;omega
 have hz:z<64:=by omega
 have hdB:Byt d:=by
  intro x hx;rw[<-hd]at hx;rcases dj.1 hx with h|h
  ·simp at h;omega
  ·have:=List.eq_of_mem_replicate h;omega
 have l1:=aZ0 N zz st (Arr.zero 32) 8 0 N d rfl (by omega) (by omega);rw[bBl]at l1;have h3:=h3.trans l1;generalize hL:bFn zz=L at h3;have hLl:L.length=8:=by rw[<-hL];rfl
 obtain⟨st',g1,g2⟩:=aIy N (by omega) st msg (aU (d++L)) hR (by rw[nY,κ];omega) (by rw[nY,κ];omega);rw[g1,aB]at h3;obtain⟨r,o1,o2⟩:=bEi st' (Arr.zero 32) 32 0 N (Arr.zero 32) rfl (by omega) (aS2 32);refine⟨r,?_,o2⟩;unfold eA;rw[hzz];exact h3.trans o1
theorem bEc(N m:Nat):pA N (m+1)=oQ N (pA N m):=rfl
theorem bGq(N:Nat):Rep N (h0,(Arr.zero 64,0)) []:=⟨rfl,rfl,rfl,fun x hx=>(fm hx).elim⟩
theorem aOi{N:Nat}(hN:1000000<=N)(l:List Str)(hl:l.length<=10)(hp:∀x∈l,x.length<=1000000)(z:Arr 16):∀(k i m:Nat) (st:St) (msg:List Int),i+k=l.length->k<m->Rep N st msg->msg.length<=1+1000010*i->
  ∃r,pA N m l ((l.length:Nat):Int) (i:Int) z st=some r/\Byt r.l
 |k,i,0,st,msg,_,h,_,_=>by omega
 |0,i,m+1,st,msg,hi,_,hR,hm=>by
  obtain⟨r,h1,h2⟩:=bBt N (by omega) st msg hR (by omega) (by omega);rw[bEc];unfold oQ;rw[aK (decide_eq_false (by omega))];refine⟨Arr.part r 0 16,?_,by rw[Arr.l_part (by omega)];exact aJw (aLy h2 _) _⟩;show(bd? (eA N st) fun v14=>some (Arr.part v14 0 16))=_;rw[h1,aB]
 |k+1,i,m+1,st,msg,hi,hm,hR,hml=>by
  have hlt:i<l.length:=by omega
  have hx:=hp _ (ee hlt);have he:(mE l[i]).length<=1000010:=by unfold mE;have:=(lG (lM (show(l[i]).length<=1000000 by omega))).2;rw[κ];omega
  obtain⟨st',g1,g2⟩:=aIy N (by omega) st msg (mE l[i]) hR (by omega) (by omega);obtain⟨r,h1,h2⟩:=aOi hN l hl hp z k (i+1) m st' (msg++aD (mE l[i])) (by omega) (by omega) g2 (by rw[κ,bW];omega);refine⟨r,?_,h2⟩;rw[bEc];unfold oQ;rw[aJ (decide_eq_true (by omega)),gM (ν hlt),aRr (by omega) _ (by omega),aB,aH,eW];show(bd? (bV N st (mE l[i])) _)=_;rw[g1,aB,bF (by omega) (by omega),show((i:Int)+1)=((i+1:Nat):Int) by omega];exact h1
theorem aJi(hN:1000000<=N)(p:Int)(l:List Str)(hl:l.length<=10)(hp:∀x∈l,x.length<=1000000):∃r,dJ N p l=some r/\Byt r.l:=by
 have hB:Byt [θ .u8 p]:=fun x hx=>by rw[bo.1 hx];exact wrap_u8 p
 obtain⟨st,g1,g2⟩:=aIy N (by omega) _ [] (aU [θ .u8 p]) (bGq N) (by show 1/64+3<=N;omega) (by show 0+1<_;omega);rw[wV hB,zb2]at g2;obtain⟨r,h1,h2⟩:=aOi hN l hl hp (Arr.zero 16) l.length 0 N st _ (by omega) (by omega) g2 (by show 1<=_;omega);refine⟨r,?_,h2⟩;unfold dJ rI;rw[aB];show(bd? (bV N (h0,(Arr.zero 64,0)) (aU [θ .u8 p])) _)=_;rw[g1,aB];exact h1
set_option maxRecDepth 8000
set_option synthInstance.maxSize 100000
set_option synthInstance.maxHeartbeats 400000
def BA(a:Arr 16):Prop:=Byt a.l
def nd(N:Nat)(a b:Arr 16):Arr 16:=(cW N a b).getD (Arr.zero 16)
def emp(N:Nat):Arr 16:=(dN N).getD (Arr.zero 16)
def lf(N:Nat)(s:Str):Arr 16:=(bL N s).getD (Arr.zero 16)
theorem b16(a b:Arr 16):∀x∈[aU a.l,aU b.l],x.length<=1000000:=fun x hx=>by
 simp only[cq,fm,or_false]at hx;rcases hx with rfl|rfl
 ·rw[nY,a.len];omega
 ·rw[nY,b.len];omega
theorem aL1(hN:1000000<=N)(a b:Arr 16):dJ N 31 [aU a.l,aU b.l]=some (nd N a b)/\BA (nd N a b):=by
 obtain⟨d,h1,h2⟩:=aJi hN 31 [aU a.l,aU b.l] (by simp only[bg,zb0];omega) (b16 a b);have e1:cW N a b=some d:=by unfold cW;rw[h1,aB]
 have e3:nd N a b=d:=by unfold nd;rw[e1];rfl
 rw[e3];exact⟨h1,h2⟩
theorem zI(hN:1000000<=N)(a b:Arr 16):cW N a b=some (nd N a b):=by unfold cW;rw[(aL1 hN a b).1,aB]
theorem aAq(hN:1000000<=N):dJ N 32 []=some (emp N)/\BA (emp N):=by
 obtain⟨d,h1,h2⟩:=aJi hN 32 [] (by simp only[zb0];omega) (fun x hx=>(fm hx).elim);have e1:dN N=some d:=by unfold dN;rw[h1,aB]
 have e3:emp N=d:=by unfold emp;rw[e1];rfl
 rw[e3];exact⟨h1,h2⟩
theorem aNl(hN:1000000<=N):dN N=some (emp N):=by unfold dN;rw[(aAq hN).1,aB]
theorem aDr(hN:1000000<=N)(s:Str)(hs:s.length<=10000):dJ N 30 [s]=some (lf N s)/\BA (lf N s):=by
 obtain⟨d,h1,h2⟩:=aJi hN 30 [s] (by simp only[bg,zb0];omega) (fun x hx=>by rw[bo.1 hx];omega);have e1:bL N s=some d:=by unfold bL;rw[h1,aB]
 have e3:lf N s=d:=by unfold lf;rw[e1];rfl
 rw[e3];exact⟨h1,h2⟩
theorem aOa(hN:1000000<=N)(s:Str)(hs:s.length<=10000):bL N s=some (lf N s):=by unfold bL;rw[(aDr hN s hs).1,aB]
theorem bDc:∀n:Fin 256,nR[n.val]?=some (UInt8.ofNat (Lib.bitLen n.val)):=by decide+kernel
theorem aTc(y:Nat)(h:y<256)(f:UInt8->Option β):bS nR (θ .u8 (y:Int)) f=f (UInt8.ofNat (Lib.bitLen y)):=by
 have e:θ .u8 (y:Int)=(y:Int):=by
  have:θ .u8 (y:Int)=(y:Int)%256:=by simp[θ,fu,IntKind.signed]
  omega
 rw[e,gM (bDc ⟨y,h⟩)]
theorem aR9(y:Nat)(h:y<256):(((UInt8.ofNat (Lib.bitLen y)).toNat:Nat):Int)=(Lib.bitLen y:Int):=by have:Lib.bitLen y<=8:=Lib.bitLen_le8 ⟨y,h⟩;rw[UInt8.toNat_ofNat'];omega
theorem aTw(N x:Nat)(hx:x<65536):mT N (x:Int)=some (Lib.bitLen x:Int):=by
 have b8:∀y:Nat,y<256->Lib.bitLen y<=8:=fun y h=>Lib.bitLen_le8 ⟨y,h⟩;have p8:(x:Int)/2^8=((x/256:Nat):Int):=by rw[show(2:Int)^8=256 from rfl];omega
 unfold mT;rw[aK (decide_eq_false (by omega)),aB];dsimp only;rw[aK (decide_eq_false (by omega)),aB];dsimp only;by_cases h3:256<=x
 ·have s3:=Lib.bitLen_shift8 x h3 (by omega);have:=b8 (x/256) (by omega);rw[aJ (decide_eq_true (by omega)),bF (by omega) (by omega),aB];dsimp only;rw[p8,aTc _ (by omega),aR9 _ (by omega),xN (by omega) (by omega),bF (by omega) (by omega)];congr 1;omega
 ·have:=b8 x (by omega);rw[aK (decide_eq_false (by omega)),aB];dsimp only;rw[aTc _ (by omega),aR9 _ (by omega),xN (by omega) (by omega),bF (by omega) (by omega)];congr 1;omega
theorem aH5:∀(k x:Nat),x<2^k->k<=62->0<x->2^(Lib.bitLen x-1)<=x/\x<2*2^(Lib.bitLen x-1)/\1<=Lib.bitLen x/\Lib.bitLen x<=k
 |0,x,h,_,h0=>by simp at h;omega
 |k+1,x,h,hk,h0=>by
  have hx:x<2^64:=Nat.lt_of_lt_of_le h (fw (by omega) (by omega));rw[Lib.bitLen_half x (by omega) hx];by_cases h1:x/2=0
  ·have:Lib.bitLen 0=0:=by decide
   rw[h1,this];have:x=1:=by omega
   subst this;simp
  ·obtain⟨a,b,c,d⟩:=aH5 k (x/2) (by rw[zb3]at h;omega) (by omega) (by omega);have e:2^(1+Lib.bitLen (x/2)-1)=2*2^(Lib.bitLen (x/2)-1):=by rw[show 1+Lib.bitLen (x/2)-1=(Lib.bitLen (x/2)-1)+1 by omega,zb3];omega
   rw[e];omega
def sp(n:Nat):Nat:=2^(Lib.bitLen (n-1)-1)
theorem aAi(n:Nat)(h:2<=n)(h':n<=2199023255552):1<=sp n/\sp n<n/\n<=2*sp n:=by obtain⟨a,b,c,d⟩:=aH5 62 (n-1) (by omega) (by omega) (by omega);have:0<2^(Lib.bitLen (n-1)-1):=Nat.two_pow_pos _;unfold sp;omega
theorem zC(N n:Nat)(h:2<=n)(h':n<=60000):eO N (n:Int)=some ((sp n:Nat):Int):=by
 obtain⟨a,b,c,d⟩:=aH5 62 (n-1) (by omega) (by omega) (by omega);have eb:(fu .i64:Int)=64:=rfl;unfold eO xP;rw[bF (by omega) (by omega),show(n:Int)-1=((n-1:Nat):Int) by omega,bB5 (by omega) (by omega),aTw N (n-1) (by omega),aB,aB,bF (by omega) (by omega),aC (by omega),aC (by omega)];have e:(1:Int)*2^((Lib.bitLen (n-1):Int)-1).toNat=((sp n:Nat):Int):=by rw[show((Lib.bitLen (n-1):Int)-1).toNat=Lib.bitLen (n-1)-1 by omega,Int.one_mul];unfold sp;rw[Int.natCast_pow];rfl
 rw[e];have:=aAi n h (by omega);rw[bF (by omega) (by omega)]
theorem aS5{a b n:Nat}(h1:2^a<n)(h2:n<=2*2^a)(h3:2^b<n)(h4:n<=2*2^b):a=b:=by
 rcases Nat.lt_trichotomy a b with h|h|h
 ·have:2^(a+1)<=2^b:=fw (by omega) h;rw[zb3]at this;omega
 ·exact h
 ·have:2^(b+1)<=2^a:=fw (by omega) h;rw[zb3]at this;omega
def tr(N:Nat)(l:List (Arr 16)):Arr 16:=(G_merkle_Root N l).getD (Arr.zero 16)
theorem uY:∀(n N:Nat) (l:List (Arr 16)),l.length<=n->n<=60000->1000000+n<N->∃r,G_merkle_Root N l=some r/\((∀x∈l,BA x)->BA r)/\∀M,N=M+1->2<=l.length->r=nd M (tr M (l.take (sp l.length))) (tr M (l.drop (sp l.length)))
 |_,0,l,_,_,h=>by omega
 |0,M+1,l,hl,_,hN=>by
  have h0:l.length=0:=by omega
  refine⟨emp M,?_,fun _=>(aAq (by omega)).2,fun _ _ _=>by omega⟩;show cX M (fun _=>G_merkle_Root M) l=_;unfold cX;rw[kS (by omega),aM,aNl (by omega),aB]
 |n+1,M+1,l,hl,hn,hN=>by
  by_cases h0:l.length=0
  ·refine⟨emp M,?_,fun _=>(aAq (by omega)).2,fun _ _ _=>by omega⟩;show cX M (fun _=>G_merkle_Root M) l=_;unfold cX;rw[kS (by omega),aM,aNl (by omega),aB]
  ·by_cases h1:l.length=1
   ·obtain⟨x,rfl⟩:=za9.1 h1;exact⟨x,rfl,fun h=>h x (bo.2 rfl),fun _ _ h=>by omega⟩
   ·obtain⟨s1,s2,s3⟩:=aAi l.length (by omega) (by omega);obtain⟨a,a1,a2,_⟩:=uY n M (l.take (sp l.length)) (by rw[bz];omega) (by omega) (by omega);obtain⟨b,b1,b2,_⟩:=uY n M (l.drop (sp l.length)) (by rw[υ];omega) (by omega) (by omega);have n1:=zI (N:=M) (by omega) a b;have ed:(l.drop (sp l.length)).take (l.length-sp l.length)=l.drop (sp l.length):=bn (by rw[υ];exact π _);have ea:tr M (l.take (sp l.length))=a:=by unfold tr;rw[a1];rfl
    have eb:tr M (l.drop (sp l.length))=b:=by unfold tr;rw[b1];rfl
    refine⟨nd M a b,?_,fun _=>(aL1 (by omega) a b).2,fun M' e _=>?_⟩
    ·show cX M (fun _=>G_merkle_Root M) l=_;unfold cX;dsimp only;rw[jD (by omega),aO,jD (by omega),aO,zC M _ (by omega) (by omega),aB,za7,za7,aC (by omega),aC (by omega),aC (by omega),aC (by omega),aC rfl,da,gy,a1,aB,aC (by omega),aC (by omega),aC (by omega),aC (by omega),aC (by omega),aC rfl,ed,b1,aB,n1,aB]
    ·obtain rfl:M=M':=by omega
     rw[ea,eb]
theorem aO6{l:List (Arr 16)}(hl:l.length<=60000)(hN:1000000+l.length<N):G_merkle_Root N l=some (tr N l):=by obtain⟨r,h1,_⟩:=uY l.length N l (π _) hl hN;unfold tr;rw[h1];rfl
theorem aD5{l:List (Arr 16)}(hl:l.length<=60000)(hN:1000000+l.length<N)(hB:∀x∈l,BA x):BA (tr N l):=by
 obtain⟨r,h1,h2,_⟩:=uY l.length N l (π _) hl hN;have:tr N l=r:=by unfold tr;rw[h1];rfl
 rw[this];exact h2 hB
theorem aHz:tr (N+1) [x]=x:=rfl
theorem aHu{l:List (Arr 16)}(h:2<=l.length)(hl:l.length<=60000)(hN:1000000+l.length<=N):tr (N+1) l=nd N (tr N (l.take (sp l.length))) (tr N (l.drop (sp l.length))):=by
 obtain⟨r,h1,_,h3⟩:=uY l.length (N+1) l (π _) hl (by omega);have:tr (N+1) l=r:=by unfold tr;rw[h1];rfl
 rw[this];exact h3 N rfl h
abbrev Md:=Str×Arr 16
variable{L:List Md}
def NC(L:List Md):Prop:=∀x∈L,∀y∈L,x.2=y.2->x.1=y.1
theorem NC.mono {L M : List Md} (h : NC M) (s : ∀ x ∈ L, x ∈ M) : NC L := fun x hx y hy => h x (s x hx) y (s y hy)
def inp(p:Int)(l:List Str):Str:=aU (θ .u8 p::aD (l.flatMap mE))
theorem aUt{s' r r':Str}(h:s.length<=1000000)(h':s'.length<=1000000)(e:mE s++r=mE s'++r'):s=s'/\r=r':=by have e1:=aD1 h r;have e2:=aD1 h' r';rw[e,e2]at e1;have e3:s'=s:=(Prod.mk.inj e1).1;refine⟨e3.symm,?_⟩;rw[e3]at e;exact List.append_cancel_left e
theorem aKr:∀(l l':List Str),(∀x∈l,x.length<=1000000)->(∀x∈l',x.length<=1000000)->l.flatMap mE=l'.flatMap mE->l=l'
 |[],[],_,_,_=>rfl
 |[],s::l',_,h',e=>by
  have:=aK3 (h' s (c9 ..));have e2:=congrArg List.length e;rw[gu,κ]at e2;have e3:(([]:List Str).flatMap mE).length=0:=rfl;omega
 |s::l,[],h,_,e=>by
  have:=aK3 (h s (c9 ..));have e2:=congrArg List.length e;rw[gu,κ]at e2;have e3:(([]:List Str).flatMap mE).length=0:=rfl;omega
 |s::l,s'::l',h,h',e=>by rw[gu,gu]at e;obtain⟨e1,e2⟩:=aUt (h s (c9 ..)) (h' s' (c9 ..)) e;rw[e1,aKr l l' (fun x hx=>h x (dw _ hx)) (fun x hx=>h' x (dw _ hx)) e2]
theorem aJo{p:Int}{l':List Str}(h:∀x∈l,x.length<=1000000)(h':∀x∈l',x.length<=1000000)(e:inp p l=inp p l'):l=l':=by unfold inp at e;have e2:aU (aD (l.flatMap mE))=aU (aD (l'.flatMap mE)):=(List.cons.inj e).2;rw[eW,eW]at e2;exact aKr l l' h h' e2
theorem aNw{b:Arr 16}(ha:BA a)(hb:BA b)(e:aU a.l=aU b.l):a=b:=by have e2:=congrArg aD e;rw[wV ha,wV hb]at e2;exact Arr.ext e2
def i31(a b:Arr 16):Str:=inp 31 [aU a.l,aU b.l]
theorem aHr{b a' b':Arr 16}(ha:BA a)(hb:BA b)(ha':BA a')(hb':BA b')(e:i31 a b=i31 a' b'):a=a'/\b=b':=by
 have h:=aJo (b16 a b) (b16 a' b') e;injection h with h1 h2
 injection h2 with h2 _
 exact⟨aNw ha ha' h1,aNw hb hb' h2⟩
def tn:Nat->List (Arr 16)->List Md
 |0,_=>[]
 |N+1,l=>if l.length=0 then[(inp 32 [],emp N)]else if l.length=1 then[]else
  tn N (l.take (sp l.length))++tn N (l.drop (sp l.length))++[(i31 (tr N (l.take (sp l.length))) (tr N (l.drop (sp l.length))),nd N (tr N (l.take (sp l.length))) (tr N (l.drop (sp l.length))))]
theorem tt:∀(n N:Nat) (l l':List (Arr 16)),l.length=l'.length->l.length<=n->n<=60000->1000000+n<N->(∀x∈l,BA x)->(∀x∈l',BA x)->tr N l=tr N l'->NC (tn N l++tn N l')->l=l'
 |_,0,_,_,_,_,_,h,_,_,_,_=>by omega
 |0,M+1,l,l',e,hl,_,_,_,_,_,_=>by
  rw[dn.1 (show l.length=0 by omega),dn.1 (show l'.length=0 by omega)]
 |n+1,M+1,l,l',e,hl,hn,hN,hB,hB',hr,hc=>by
  by_cases h0:l.length=0
  ·rw[dn.1 h0,dn.1 (show l'.length=0 by omega)]
  ·by_cases h1:l.length=1
   ·obtain⟨x,rfl⟩:=za9.1 h1;obtain⟨y,rfl⟩:=za9.1 (show l'.length=1 by omega);rw[aHz,aHz]at hr;rw[hr]
   ·obtain⟨s1,s2,s3⟩:=aAi l.length (by omega) (by omega);have t1:=aHu (N:=M) (l:=l) (by omega) (by omega) (by omega);have t2:=aHu (N:=M) (l:=l') (by omega) (by omega) (by omega);have u1:tn (M+1) l=tn M (l.take (sp l.length))++tn M (l.drop (sp l.length))++[(i31 (tr M (l.take (sp l.length))) (tr M (l.drop (sp l.length))),nd M (tr M (l.take (sp l.length))) (tr M (l.drop (sp l.length))))]:=by show(if l.length=0 then _ else if l.length=1 then _ else _)=_;rw[if_neg h0,if_neg h1]
    have u2:tn (M+1) l'=tn M (l'.take (sp l.length))++tn M (l'.drop (sp l.length))++[(i31 (tr M (l'.take (sp l.length))) (tr M (l'.drop (sp l.length))),nd M (tr M (l'.take (sp l.length))) (tr M (l'.drop (sp l.length))))]:=by show(if l'.length=0 then _ else if l'.length=1 then _ else _)=_;rw[<-e,if_neg h0,if_neg h1]
    rw[<-e]at t2;have hA:∀k,∀x∈l.take k,BA x:=fun k x hx=>hB x (zb1 hx);have hD:∀k,∀x∈l.drop k,BA x:=fun k x hx=>hB x (ik hx);have hA':∀k,∀x∈l'.take k,BA x:=fun k x hx=>hB' x (zb1 hx);have hD':∀k,∀x∈l'.drop k,BA x:=fun k x hx=>hB' x (ik hx);rw[u1,u2]at hc;have q:=hc _ (bu _ (bp _ (bo.2 rfl))) _ (bp _ (bp _ (bo.2 rfl))) (by dsimp only;rw[<-t1,<-t2];exact hr);have hb1:1000000+(l.take (sp l.length)).length<M:=by rw[bz];omega
    have hb2:1000000+(l.drop (sp l.length)).length<M:=by rw[υ];omega
    have hb3:1000000+(l'.take (sp l.length)).length<M:=by rw[bz];omega
    have hb4:1000000+(l'.drop (sp l.length)).length<M:=by rw[υ];omega
    obtain⟨q1,q2⟩:=aHr (aD5 (by rw[bz];omega) hb1 (hA _)) (aD5 (by rw[υ];omega) hb2 (hD _)) (aD5 (by rw[bz];omega) hb3 (hA' _)) (aD5 (by rw[υ];omega) hb4 (hD' _)) q;have r1:=tt n M _ _ (by rw[bz,bz];omega) (by rw[bz];omega) (by omega) (by omega) (hA _) (hA' _) q1 (hc.mono fun x hx=>by
     simp only[dj]at hx|-;rcases hx with h|h
     ·exact .inl (.inl (.inl h))
     ·exact .inr (.inl (.inl h)))
    have r2:=tt n M _ _ (by rw[υ,υ];omega) (by rw[υ];omega) (by omega) (by omega) (hD _) (hD' _) q2 (hc.mono fun x hx=>by
     simp only[dj]at hx|-;rcases hx with h|h
     ·exact .inl (.inl (.inr h))
     ·exact .inr (.inl (.inr h)))
    rw[<-fo (sp l.length) l,r1,r2,fo]
theorem aKo(N:Nat)(b:Bool):dK N [] b=some (Arr.zero 16,([],true)):=rfl
theorem aYs(N:Nat)(p:List (Arr 16))(b:Bool)(k:Nat)(h:p.length=k+1)(hk:k<=1000000):dK N p b=some (p[k]'(by omega),(p.take k,b)):=by unfold dK;rw[jD (by omega),aO,show(((p.length:Nat):Int)-1)=((k:Nat):Int) by omega,bF (by omega) (by omega),gM (ν (by omega)),bF (by omega) (by omega),bF (by omega) (by omega),aC (by omega),aC (by omega),za7,aC (by omega),aC (by omega),aC rfl,da,gy]
def cw:Nat->Arr 16->Nat->Nat->List (Arr 16)->Arr 16×(List Md×Bool)
 |0,x,_,_,_=>(x,([],true))
 |N+1,x,i,m,p=>if m<2 then(x,([],true))else match p.getLast? with
  |none=>(x,([],false))
  | some q=>if i < sp m then
    (nd N (cw N x i (sp m) p.dropLast).1 q,((cw N x i (sp m) p.dropLast).2.1++[(i31 (cw N x i (sp m) p.dropLast).1 q,nd N (cw N x i (sp m) p.dropLast).1 q)],(cw N x i (sp m) p.dropLast).2.2))
   else
    (nd N q (cw N x (i-sp m) (m-sp m) p.dropLast).1,((cw N x (i-sp m) (m-sp m) p.dropLast).2.1++[(i31 q (cw N x (i-sp m) (m-sp m) p.dropLast).1,nd N q (cw N x (i-sp m) (m-sp m) p.dropLast).1)],(cw N x (i-sp m) (m-sp m) p.dropLast).2.2))
theorem aQ2(h:m<2):cw (N+1) x i m p=(x,([],true)):=by show(if m<2 then _ else _)=_;rw[if_pos h]
theorem aH3(h:¬m<2):cw (N+1) x i m []=(x,([],false)):=by show(if m<2 then _ else _)=_;rw[if_neg h];rfl
theorem bFi(h:p.length=k+1):p.getLast?=some (p[k]'(by omega))/\p.dropLast=p.take k:=by
 constructor
 ·rw[List.getLast?_eq_getElem?,ν (by omega)];congr 2;omega
 ·rw[List.dropLast_eq_take];congr 1;omega
theorem aUq(h:¬m<2)(hk:p.length=k+1)(hi:i<sp m):cw (N+1) x i m p=(nd N (cw N x i (sp m) (p.take k)).1 (p[k]'(by omega)),((cw N x i (sp m) (p.take k)).2.1++[(i31 (cw N x i (sp m) (p.take k)).1 (p[k]'(by omega)),nd N (cw N x i (sp m) (p.take k)).1 (p[k]'(by omega)))],(cw N x i (sp m) (p.take k)).2.2)):=by obtain⟨e1,e2⟩:=bFi hk;show(if m<2 then _ else _)=_;rw[if_neg h,e1];dsimp only;rw[if_pos hi,e2]
theorem aUi(h:¬m<2)(hk:p.length=k+1)(hi:¬i<sp m):cw (N+1) x i m p=(nd N (p[k]'(by omega)) (cw N x (i-sp m) (m-sp m) (p.take k)).1,((cw N x (i-sp m) (m-sp m) (p.take k)).2.1++[(i31 (p[k]'(by omega)) (cw N x (i-sp m) (m-sp m) (p.take k)).1,nd N (p[k]'(by omega)) (cw N x (i-sp m) (m-sp m) (p.take k)).1)],(cw N x (i-sp m) (m-sp m) (p.take k)).2.2)):=by obtain⟨e1,e2⟩:=bFi hk;show(if m<2 then _ else _)=_;rw[if_neg h,e1];dsimp only;rw[if_neg hi,e2]
theorem ci:∀(n N:Nat) (x:Arr 16) (i m:Nat) (p:List (Arr 16)) (b:Bool),1<=m->m<=n->n<=60000->1000000+n<N->i<=1000000->p.length<=1000000->
  ∃r p' b',G_merkle_CheckInclusion_1 N (i:Int) ((m:Nat):Int) x p b=some (r,(x,(p',b')))/\(b'=false->b=false/\(cw N x i m p).1=r/\(cw N x i m p).2.2=true)
 |_,0,_,_,_,_,_,_,_,_,h,_,_=>by omega
 |0,M+1,_,_,_,_,_,h1,h2,_,_,_,_=>by omega
 |n+1,M+1,x,i,m,p,b,h1,hm,hn,hN,hi1,hp=>by
  by_cases e1:m=1
  ·refine⟨x,p,b,?_,fun h=>⟨h,by rw[aQ2 (by omega)],by rw[aQ2 (by omega)]⟩⟩;show aI M (fun _=>G_merkle_CheckInclusion_1 M) i _ x p b=_;unfold aI;rw[kS (by omega),aM]
  ·obtain⟨s1,s2,s3⟩:=aAi m (by omega) (by omega);have em:((m:Nat):Int)-((sp m:Nat):Int)=((m-sp m:Nat):Int):=by omega
   rcases ez p.length with hz|hz
   ·obtain rfl:p=[]:=dn.1 hz;by_cases hc:i<sp m
    ·obtain⟨r,p',b',a1,a2⟩:=ci n M x i (sp m) [] true (by omega) (by omega) (by omega) (by omega) hi1 hp;refine⟨nd M r (Arr.zero 16),p',b',?_,fun h=>absurd (a2 h).1 (by decide)⟩;show aI M (fun _=>G_merkle_CheckInclusion_1 M) i _ x [] b=_;unfold aI;dsimp only;rw[jD (by omega),aO,zC M m (by omega) (by omega),aB,aKo,aB];dsimp only;rw[aJ (decide_eq_true (by omega)),a1,aB];dsimp only;rw[aC rfl,zI (by omega),aB,aC rfl]
    ·obtain⟨r,p',b',a1,a2⟩:=ci n M x (i-sp m) (m-sp m) [] true (by omega) (by omega) (by omega) (by omega) (by omega) hp;have ei:(i:Int)-((sp m:Nat):Int)=((i-sp m:Nat):Int):=by omega
     refine⟨nd M (Arr.zero 16) r,p',b',?_,fun h=>absurd (a2 h).1 (by decide)⟩;show aI M (fun _=>G_merkle_CheckInclusion_1 M) i _ x [] b=_;unfold aI;dsimp only;rw[jD (by omega),aO,zC M m (by omega) (by omega),aB,aKo,aB];dsimp only;rw[aK (decide_eq_false (by omega)),bF (by omega) (by omega),bF (by omega) (by omega),em,ei,a1,aB];dsimp only;rw[aC rfl,zI (by omega),aB,aC rfl]
   ·obtain⟨k,hk⟩:∃k,p.length=k+1:=⟨p.length-1,by omega⟩;have hl:=aYs M p b k hk (by omega);have ht:(p.take k).length<=1000000:=by rw[bz];omega
    by_cases hc:i<sp m
    ·obtain⟨r,p',b',a1,a2⟩:=ci n M x i (sp m) (p.take k) b (by omega) (by omega) (by omega) (by omega) hi1 ht;refine⟨nd M r (p[k]'(by omega)),p',b',?_,fun h=>?_⟩
     ·show aI M (fun _=>G_merkle_CheckInclusion_1 M) i _ x p b=_;unfold aI;dsimp only;rw[jD (by omega),aO,zC M m (by omega) (by omega),aB,hl,aB];dsimp only;rw[aJ (decide_eq_true (by omega)),a1,aB];dsimp only;rw[aC rfl,zI (by omega),aB,aC rfl]
     ·obtain⟨c1,c2,c3⟩:=a2 h;rw[aUq (by omega) hk hc];dsimp only;rw[c2];exact⟨c1,rfl,c3⟩
    ·obtain⟨r,p',b',a1,a2⟩:=ci n M x (i-sp m) (m-sp m) (p.take k) b (by omega) (by omega) (by omega) (by omega) (by omega) ht;have ei:(i:Int)-((sp m:Nat):Int)=((i-sp m:Nat):Int):=by omega
     refine⟨nd M (p[k]'(by omega)) r,p',b',?_,fun h=>?_⟩
     ·show aI M (fun _=>G_merkle_CheckInclusion_1 M) i _ x p b=_;unfold aI;dsimp only;rw[jD (by omega),aO,zC M m (by omega) (by omega),aB,hl,aB];dsimp only;rw[aK (decide_eq_false (by omega)),bF (by omega) (by omega),bF (by omega) (by omega),em,ei,a1,aB];dsimp only;rw[aC rfl,zI (by omega),aB,aC rfl]
     ·obtain⟨c1,c2,c3⟩:=a2 h;rw[aUi (by omega) hk hc];dsimp only;rw[c2];exact⟨c1,rfl,c3⟩
theorem kG(x:Arr 16)(i n:Int)(p:List (Arr 16))(r:Arr 16)(hn:n<=60000)(hp:p.length<=1000000)(hN:1100000<=N):∃b,aT N x i n p r=some b/\(b=true->∃j m:Nat,i=(j:Int)/\n=(m:Int)/\j<m/\(cw N x j m p).1=r/\(cw N x j m p).2.2=true):=by
 have no:∀P:Prop,false=true->P:=fun _ h=>by cases h
 unfold aT;by_cases h1:n<1
 ·rw[aJ (decide_eq_true h1)];exact⟨false,rfl,no _⟩
 ·rw[aK (decide_eq_false h1),aK (c:=decide (n>1099511627776)) (decide_eq_false (by omega))];by_cases h2:i<0
  ·rw[aJ (decide_eq_true h2)];exact⟨false,rfl,no _⟩
  ·rw[aK (decide_eq_false h2),aB];dsimp only;by_cases h3:i≥n
   ·rw[aJ (decide_eq_true h3)];exact⟨false,rfl,no _⟩
   ·rw[aK (decide_eq_false h3)];obtain⟨m,rfl⟩:∃m:Nat,n=(m:Int):=⟨n.toNat,by omega⟩;obtain⟨j,rfl⟩:∃j:Nat,i=(j:Int):=⟨i.toNat,by omega⟩;obtain⟨a,p',b',c1,c2⟩:=ci m N x j m p false (by omega) (π _) (by omega) (by omega) (by omega) hp;rw[c1,aB];dsimp only;rw[aC rfl];unfold fB;cases b' with
    |true=>
     refine⟨false,?_,no _⟩;cases a.l==r.l<;>rfl
    |false=>
     obtain⟨_,d1,d2⟩:=c2 rfl;cases hz:a.l==r.l with
     |false=>exact⟨false,rfl,no _⟩
     |true=>
      have e:a=r:=Arr.ext (eq_of_beq hz);exact⟨_,by rw[aM,gj,aM];rfl,fun _=>⟨j,m,rfl,rfl,by omega,by rw[d1,e],d2⟩⟩
theorem aZu:∀(n N:Nat) (x:Arr 16) (i m:Nat) (p:List (Arr 16)),1<=m->m<=n->n<=60000->1000000+n<N->BA x->(∀q∈p,BA q)->BA (cw N x i m p).1
 |_,0,_,_,_,_,_,_,_,h,_,_=>by omega
 |0,M+1,_,_,_,_,h1,h2,_,_,_,_=>by omega
 |n+1,M+1,x,i,m,p,h1,hm,hn,hN,hx,hp=>by
  by_cases e1:m<2
  ·rw[aQ2 e1];exact hx
  ·rcases ez p.length with hz|hz
   ·obtain rfl:p=[]:=dn.1 hz;rw[aH3 e1];exact hx
   ·obtain⟨k,hk⟩:∃k,p.length=k+1:=⟨p.length-1,by omega⟩;by_cases hc:i<sp m
    ·rw[aUq e1 hk hc];exact(aL1 (by omega) _ _).2
    ·rw[aUi e1 hk hc];exact(aL1 (by omega) _ _).2
theorem aNr{M:Nat}{l:List (Arr 16)}(h:2<=l.length):tn (M+1) l=tn M (l.take (sp l.length))++tn M (l.drop (sp l.length))++[(i31 (tr M (l.take (sp l.length))) (tr M (l.drop (sp l.length))),nd M (tr M (l.take (sp l.length))) (tr M (l.drop (sp l.length))))]:=by show(if l.length=0 then _ else if l.length=1 then _ else _)=_;rw[if_neg (by omega),if_neg (by omega)]
theorem ct:∀(n N:Nat) (l:List (Arr 16)) (x:Arr 16) (i:Nat) (p:List (Arr 16)),i<l.length->l.length<=n->n<=60000->1000000+n<N->(∀y∈l,BA y)->BA x->(∀q∈p,BA q)->(cw N x i l.length p).2.2=true->tr N l=(cw N x i l.length p).1->NC (tn N l++(cw N x i l.length p).2.1)->l[i]?=some x
 |_,0,_,_,_,_,_,_,_,h,_,_,_,_,_,_=>by omega
 |0,M+1,_,_,_,_,h1,h2,_,_,_,_,_,_,_,_=>by omega
 |n+1,M+1,l,x,i,p,hi,hm,hn,hN,hB,hx,hp,hok,hr,hc=>by
  by_cases h1:l.length=1
  ·obtain⟨y,rfl⟩:=za9.1 h1;rw[aQ2 (by rw[h1];omega),aHz]at hr;obtain rfl:i=0:=by omega
   rw[hr];rfl
  ·have hm2:¬l.length<2:=by omega
   obtain⟨s1,s2,s3⟩:=aAi l.length (by omega) (by omega);have t1:=aHu (N:=M) (l:=l) (by omega) (by omega) (by omega);have u1:=aNr (M:=M) (l:=l) (by omega);have hA:∀x∈l.take (sp l.length),BA x:=fun x hx=>hB x (zb1 hx);have hD:∀x∈l.drop (sp l.length),BA x:=fun x hx=>hB x (ik hx);have lA:(l.take (sp l.length)).length=sp l.length:=by rw[bz];omega
   have lD:(l.drop (sp l.length)).length=l.length-sp l.length:=by rw[υ]
   have bA:=aD5 (N:=M) (l:=l.take (sp l.length)) (by omega) (by omega) hA;have bD:=aD5 (N:=M) (l:=l.drop (sp l.length)) (by omega) (by omega) hD;rcases ez p.length with hz|hz
   ·obtain rfl:p=[]:=dn.1 hz;rw[aH3 hm2]at hok;cases hok
   ·obtain⟨k,hk⟩:∃k,p.length=k+1:=⟨p.length-1,by omega⟩;have hq:BA (p[k]'(by omega)):=hp _ (ee _);have hpt:∀q∈p.take k,BA q:=fun q h=>hp q (zb1 h);rw[u1]at hc;by_cases hcs:i<sp l.length
    ·rw[aUq hm2 hk hcs]at hok hr hc;dsimp only at hok hr hc;have q:=hc _ (bu _ (bp _ (bo.2 rfl))) _ (bp _ (bp _ (bo.2 rfl))) (by dsimp only;rw[<-t1];exact hr);have bw:=aZu n M x i (sp l.length) (p.take k) (by omega) (by omega) (by omega) (by omega) hx hpt;obtain⟨q1,q2⟩:=aHr bA bD bw hq q;have:=ct n M (l.take (sp l.length)) x i (p.take k) (by omega) (by omega) (by omega) (by omega) hA hx hpt (by rw[lA];exact hok) (by rw[lA];exact q1) (by
      rw[lA];exact hc.mono fun x hx=>by
       simp only[dj]at hx|-;rcases hx with h|h
       ·exact .inl (.inl (.inl h))
       ·exact .inr (.inl h))
     rw[List.getElem?_take_of_lt hcs]at this;exact this
    ·rw[aUi hm2 hk hcs]at hok hr hc;dsimp only at hok hr hc;have q:=hc _ (bu _ (bp _ (bo.2 rfl))) _ (bp _ (bp _ (bo.2 rfl))) (by dsimp only;rw[<-t1];exact hr);have bw:=aZu n M x (i-sp l.length) (l.length-sp l.length) (p.take k) (by omega) (by omega) (by omega) (by omega) hx hpt;obtain⟨q1,q2⟩:=aHr bA bD hq bw q;have:=ct n M (l.drop (sp l.length)) x (i-sp l.length) (p.take k) (by omega) (by omega) (by omega) (by omega) hD hx hpt (by rw[lD];exact hok) (by rw[lD];exact q2) (by
      rw[lD];exact hc.mono fun x hx=>by
       simp only[dj]at hx|-;rcases hx with h|h
       ·exact .inl (.inl (.inr h))
       ·exact .inr (.inl h))
     rw[List.getElem?_drop,show sp l.length+(i-sp l.length)=i by omega]at this;exact this
def sl(N:Nat)(g y n:Int)(d:Arr 16):Arr 16:=(eB N g y n d).getD (Arr.zero 16)
def aCi(g y n:Int)(d:Arr 16):Str:=inp 186 [uvI g,uvI y,uvI n,aU d.l]
theorem aX3(hg:I64 g)(hy:I64 y)(hn:I64 n)(d:Arr 16):∀x∈[uvI g,uvI y,uvI n,aU d.l],x.length<=1000000:=fun x hx=>by
 simp only[cq,fm,or_false]at hx;rcases hx with rfl|rfl|rfl|rfl
 ·have:=lG hg;omega
 ·have:=lG hy;omega
 ·have:=lG hn;omega
 ·rw[nY,d.len];omega
theorem aYa{m:Int}(hn:I64 n)(hm:I64 m)(e:uvI n=uvI m):n=m:=by have e1:=aMm hn [];rw[e,aMm hm []]at e1;exact(Prod.mk.inj e1).1.symm
theorem aSw{m:Int}{d e:Arr 16}(hg:I64 g)(hy:I64 y)(hn:I64 n)(hm:I64 m)(hd:BA d)(he:BA e)(h:aCi g y n d=aCi g y m e):n=m/\d=e:=by
 have h:=aJo (aX3 hg hy hn d) (aX3 hg hy hm e) h;injection h with _ h
 injection h with _ h
 injection h with h1 h
 injection h with h2 _
 exact⟨aYa hn hm h1,aNw hd he h2⟩
theorem aPj(hN:1000000<=N)(hg:I64 g)(hy:I64 y)(hn:I64 n)(d:Arr 16):eB N g y n d=some (sl N g y n d)/\dJ N 186 [uvI g,uvI y,uvI n,aU d.l]=some (sl N g y n d):=by
 obtain⟨s,h1,_⟩:=aJi hN 186 [uvI g,uvI y,uvI n,aU d.l] (by simp only[bg,zb0];omega) (aX3 hg hy hn d);have e1:eB N g y n d=some s:=by unfold eB;rw[aJl (by omega) hg,aB,aH,aJl (by omega) hy,aB,aH,aJl (by omega) hn,aB,aH,eW,eW,eW,h1,aB]
 have e2:sl N g y n d=s:=by unfold sl;rw[e1];rfl
 rw[e2];exact⟨e1,h1⟩
def lvs(N:Nat)(l:List Str):List (Arr 16):=l.map (lf N)
theorem cH:(lvs N l).length=l.length:=ι _
theorem bEm(N m:Nat):lK N (m+1)=lJ N (lK N m):=rfl
theorem aLu(h:i<l.length):lvs N (l.take (i+1))=lvs N (l.take i)++[lf N l[i]]:=by unfold lvs;rw[gq h,cd];rfl
theorem aGy{N:Nat}(hN:1000000<=N)(l:List Str)(hp:∀x∈l,x.length<=1000)(hl:l.length<=1000)(r:Arr 16)(hr:G_merkle_Root N (lvs N l)=some r)(z:Arr 16):∀(k i m:Nat),i+k=l.length->k<m->lK N m l ((l.length:Nat):Int) (i:Int) z (lvs N (l.take i)++br k (Arr.zero 16))=some (r,lvs N l)
 |k,i,0,_,h=>by omega
 |0,i,m+1,hi,_=>by
  rw[bEm];unfold lJ;rw[aK (decide_eq_false (by omega)),bn (by omega),iu,bj,aH,hr,aB,aH]
 |k+1,i,m+1,hi,hm=>by
  have hlt:i<l.length:=by omega
  have hb:=hp _ (ee hlt);have e0:(lvs N (l.take i)).length=i:=by rw[cH,bz];omega
  have e1:(lvs N (l.take i)++br (k+1) (Arr.zero 16)).length=l.length:=by rw[κ,e0,ib];omega
  have e2:List.set (lvs N (l.take i)++br (k+1) (Arr.zero 16)) i (lf N l[i])=lvs N (l.take (i+1))++br k (Arr.zero 16):=by rw[List.set_append_right _ _ (by omega),e0,Nat.sub_self,iv,List.set_cons_zero,aLu hlt,a9];rfl
  rw[bEm];unfold lJ;rw[aJ (decide_eq_true (by omega)),gM (ν hlt),aOa hN _ (by omega),aB,aC (by omega),aC (by rw[e1];omega),za7,
   aYe (ν (by rw[e1];exact hlt)),bF (by omega) (by omega),aZh (by rw[List.length_set]),e2,show(i:Int)+1=((i+1:Nat):Int) by omega]
  exact aGy hN l hp hl r hr z k (i+1) m (by omega) (by omega)
structure Gf (f:Fo):Prop where
 g0:0<=f.1
 g1:f.1<40
 y0:2000<=f.2.1
 y1:f.2.1<2040
 n:f.2.2.length<=1000
 c:ckl f.1 f.2.1 none f.2.2=0
theorem aS1(h:chk f=0):Gf f:=by
 unfold chk at h;split at h
 ·cases h
 ·split at h
  ·cases h
  ·exact⟨by omega,by omega,by omega,by omega,by omega,h⟩
theorem pT(h:-9223372036854775808<=n)(h':n<=9223372036854775807):I64 n:=⟨h,h'⟩
theorem bCj(h:n=0):(n !=0)=false:=by rw[h];rfl
theorem bFp(h:n≠0):(n !=0)=true:=by rw[bne_iff_ne];exact h
theorem aH6:∀x:Str,Op.bytesLess x x=false
 |[]=>rfl
 |a::x=>by rw[Op.bytesLess,aH6 x];simp
theorem aKh:∀x y z:Str,Op.bytesLess x y=true->Op.bytesLess y z=true->Op.bytesLess x z=true
 |x,[],_,h,_=>by cases x<;>exact absurd h (by simp[Op.bytesLess])
 |_,_::_,[],_,h=>by cases h
 |[],_::_,_::_,_,_=>rfl
 |a::x,b::y,c::z,h1,h2=>by
  simp only[Op.bytesLess,Bool.or_eq_true,decide_eq_true_eq,μ,beq_iff_eq]at h1 h2|-;rcases h1 with h1|⟨rfl,h1⟩<;>rcases h2 with h2|⟨rfl,h2⟩
  ·exact .inl (UInt8.lt_trans h1 h2)
  ·exact .inl h1
  ·exact .inl h2
  ·exact .inr ⟨rfl,aKh x y z h1 h2⟩
theorem aOg{x y:Str}(h:Op.bytesLess x y=true):Op.bytesLess y x=false:=by
 cases e:Op.bytesLess y x with
 |false=>rfl
 |true=>exact absurd (aKh _ _ _ h e) (by rw[aH6];decide)
theorem bl_tri : ∀ x y : Str, Op.bytesLess x y = false → x ≠ y → Op.bytesLess y x = true
  | [], [], _, h => absurd rfl h
  | [], _ :: _, h, _ => by cases h
  | _ :: _, [], _, _ => rfl
  | a :: x, b :: y, h1, h2 => by
    simp only [Op.bytesLess, Bool.or_eq_false_iff, decide_eq_false_iff_not, Bool.and_eq_false_iff, beq_eq_false_iff_ne] at h1
    simp only [Op.bytesLess, Bool.or_eq_true, decide_eq_true_eq, Bool.and_eq_true, beq_iff_eq]
    obtain ⟨h1, h3⟩ := h1
    by_cases e : a = b
    · subst e
      refine .inr ⟨rfl, bl_tri x y (h3.elim (fun h => absurd rfl h) id) fun h => h2 (by rw [h])⟩
    · refine .inl ?_
      rw [UInt8.lt_iff_toNat_lt] at h1 ⊢
      have : a.toNat ≠ b.toNat := fun h => e (UInt8.toNat_inj.1 h)
      omega
def Srt (l : List Str) : Prop := ∀ i j : Nat, i < j → ∀ (hi : i < l.length) (hj : j < l.length), Op.bytesLess l[i] l[j] = true
theorem srt_of {l : List Str} (h : ∀ j, ∀ hj : j + 1 < l.length, Op.bytesLess (l[j]'(by omega)) l[j + 1] = true) : Srt l := by
  intro i j hij
  obtain ⟨d, rfl⟩ : ∃ d, j = i + 1 + d := ⟨j - (i + 1), by omega⟩
  clear hij
  induction d with
  | zero => intro hi hj; exact h i hj
  | succ d ih => intro hi hj; exact aKh _ _ _ (ih hi (by omega)) (h (i + 1 + d) hj)
theorem ckl_srt {g y : Int} : ∀ (l : List Str) (p : Option Str), ckl g y p l = 0 → (∀ x ∈ l, hr x g y = true) ∧ ∀ j, ∀ hj : j + 1 < l.length, Op.bytesLess (l[j]'(by omega)) l[j + 1] = true
  | [], _, _ => ⟨fun x hx => (List.not_mem_nil hx).elim, fun j hj => absurd hj (Nat.not_lt_zero _)⟩
  | x :: r, p, h => by
    unfold ckl at h
    split at h
    · cases h
    · rename_i hb
      obtain ⟨i1, i2⟩ := ckl_srt r (some x) h
      refine ⟨fun q hq => ?_, fun j hj => ?_⟩
      · rcases List.mem_cons.1 hq with rfl | hq
        · cases hh : hr q g y with
          | true => rfl
          | false => exact absurd (by unfold bad; cases p <;> simp [hh]) hb
        · exact i1 q hq
      · cases j with
        | succ j => exact i2 j (by simpa using hj)
        | zero =>
          cases r with
          | nil => simp at hj
          | cons z r =>
            unfold ckl at h
            split at h
            · cases h
            · rename_i hb2
              unfold bad at hb2
              rw [Bool.not_eq_true, Bool.or_eq_false_iff, Bool.or_eq_false_iff, beq_eq_false_iff_ne] at hb2
              exact bl_tri _ _ hb2.2.1 hb2.2.2
theorem Gf.srt {f : Fo} (h : Gf f) : Srt f.2.2 := srt_of (ckl_srt f.2.2 none h.c).2
theorem aIe(hN:1000000<=N)(hp:∀x∈l,x.length<=1000):∀y∈lvs N l,BA y:=fun y hy=>by obtain⟨x,hx,rfl⟩:=db.1 hy;exact(aDr hN x (by have:=hp x hx;omega)).2
theorem aXq(hN:1100000<=N)(l:List Str)(hp:∀x∈l,x.length<=1000)(hl:l.length<=1000):jG N l=some (tr N (lvs N l),lvs N l):=by have h1:=aO6 (N:=N) (l:=lvs N l) (by rw[cH];omega) (by rw[cH];omega);unfold jG;rw[aC (by omega),aC (by omega),za7,aC (by omega),aC (by omega),aZh ib.symm];exact aGy (by omega) l hp hl _ h1 _ l.length 0 N (by omega) (by omega)
theorem aOw(hN:1100000<=N)(f:Fo)(hp:∀x∈f.2.2,x.length<=1000)(h:chk f=0):eX N f=some (sl N f.1 f.2.1 ((f.2.2.length:Nat):Int) (tr N (lvs N f.2.2)),0):=by have c1:bR N (f.1,(f.2.1,f.2.2))=some (chk f):=aDc (by omega) f hp;unfold eX;rw[c1,aB];have g:=aS1 h;have n:=g.n;have g0:=g.g0;have g1:=g.g1;have y0:=g.y0;have y1:=g.y1;have s1:=(aPj (N:=N) (by omega) (pT (n:=f.1) (by omega) (by omega)) (pT (n:=f.2.1) (by omega) (by omega)) (pT (n:=((f.2.2.length:Nat):Int)) (by omega) (by omega)) (tr N (lvs N f.2.2))).1;rw[bCj h,aO,aXq hN f.2.2 hp n,aB];dsimp only;rw[s1,aB]
abbrev Prf:=Int×(Int×(Arr 16×List (Arr 16)))
abbrev Abs:=Int×(Int×(Arr 16×(Str×(Str×(List (Arr 16)×List (Arr 16))))))
theorem aQ1{x:Option α}{f:α->Option β}(v:α)(h:x=some v):bd? x f=f v:=by rw[h];rfl
def InP(N:Nat)(x:Arr 16)(i n:Int)(p:List (Arr 16))(t:Arr 16):Prop:=∃j m:Nat,i=(j:Int)/\n=(m:Int)/\j<m/\(cw N x j m p).1=t/\(cw N x j m p).2.2=true
theorem aQa(hN:1100000<=N)(root:Arr 16)(g y:Int)(s:Str)(a:Prf)(hs:s.length<=1000)(hp:a.2.2.2.length<=1000000)(hg:I64 g)(hy:I64 y)(hn:I64 a.2.1):∃b,fN N root g y s a=some b/\(b=true->a.2.1<=1000/\root=sl N g y a.2.1 a.2.2.1/\InP N (lf N s) a.1 a.2.1 a.2.2.2 a.2.2.1):=by
 obtain⟨i,n,t,p⟩:=a;have no:∀P:Prop,false=true->P:=fun _ h=>by cases h
 have z1:=(aPj (N:=N) (by omega) hg hy hn t).1;have l1:=aOa (N:=N) (by omega) s (by omega);unfold fN;dsimp only at z1 hp|-;rw[zB s g y (by omega) hs,z1];by_cases h3:n>1000
 ·rw[aJ (decide_eq_true h3)];exact⟨false,rfl,no _⟩
 ·rw[aK (decide_eq_false h3)];cases hr s g y with
  |false=>exact⟨false,rfl,no _⟩
  |true=>
   simp only[aB,za4,aO];cases hz:root.l==(sl N g y n t).l with
   |false=>exact⟨false,rfl,no _⟩
   |true=>
    simp only[za4,aO];obtain⟨b,b1,b2⟩:=kG (N:=N) (lf N s) i n p t (by omega) hp hN;rw[l1,aB,b1,aB];exact⟨b,rfl,fun h=>⟨by omega,Arr.ext (eq_of_beq hz),b2 h⟩⟩
section
variable{N:Nat}{root:Arr 16}{g y:Int}{s:Str}{i n:Int}{t:Arr 16}{l r:Str}{lp rp:List (Arr 16)}{z e:Arr 16}{cl cr:Bool}
def dl(s:Str)(i:Int)(l:Str)(lp:List (Arr 16))(cl:Bool):Bool:=if i>0 then Op.bytesLess l s&&cl else(l==[])&&(((lp.length:Nat):Int)==0)
def dr(s:Str)(i n:Int)(r:Str)(rp:List (Arr 16))(cr:Bool):Bool:=if i<n then Op.bytesLess s r&&cr else(r==[])&&(((rp.length:Nat):Int)==0)
def dz(n:Int)(t e:Arr 16):Bool:=n==0&& !(t.l==e.l)
theorem bCi{a b:Bool}:(bd? (if? a (some b) (some false)) fun w=>some w)=some (a&&b):=by cases a<;>rfl
theorem aSx(hh:hr s g y=true)(hN:5000<=N)(hs:s.length<=1000)(h1:¬i<0)(h2:¬i>n)(h3:¬n>1000)(hz:eB N g y n t=some z)(he:G_merkle_Root N []=some e)(l1:bL N l=some (lf N l))(r1:bL N r=some (lf N r))
  (hcl:aT N (lf N l) (i-1) n lp t=some cl) (hcr:aT N (lf N r) i n rp t=some cr) (hrz:(root.l==z.l)=true):
  dG N root g y s (i,(n,(t,(l,(r,(lp,rp))))))=some (!dz n t e&&(dl s i l lp cl&&dr s i n r rp cr)):=by
 unfold dG;dsimp only;rw[zB s g y hN hs,hh,hz,aK (decide_eq_false h1),aK (decide_eq_false h2),aK (decide_eq_false h3)];simp only[aB,za4,aO,hrz];rw[aQ1 (s,dz n t e,i,n,t,l,r,lp,rp) (by
  unfold dz;by_cases h:n=0
  ·rw[kS h,aM,he,aB];rfl
  ·rw[jD h,aO];rfl)]
 dsimp only;cases dz n t e with
 |true=>rfl
 |false=>
  rw[aO,aQ1 (s,(l==[])&&(((lp.length:Nat):Int)==0),(r==[])&&(((rp.length:Nat):Int)==0),i,n,t,l,r,lp,rp) (by cases(l==[])<;>cases(r==[])<;>rfl)];dsimp only;rw[aQ1 (s,dl s i l lp cl,(r==[])&&(((rp.length:Nat):Int)==0),i,n,t,l,r,lp,rp) (by
   unfold dl;by_cases h:i>0
   ·rw[aJ (decide_eq_true h),if_pos h];cases Op.bytesLess l s with
    |false=>rfl
    |true=>rw[aM,l1,aB,bF (by omega) (by omega),hcl,aB];rfl
   ·rw[aK (decide_eq_false h),if_neg h])]
  dsimp only;rw[aQ1 (dl s i l lp cl,dr s i n r rp cr) (by
   unfold dr;by_cases h:i<n
   ·rw[aJ (decide_eq_true h),if_pos h];cases Op.bytesLess s r with
    |false=>rfl
    |true=>rw[aM,r1,aB,hcr,aB];rfl
   ·rw[aK (decide_eq_false h),if_neg h])]
  dsimp only;rw[bCi];rfl
end
theorem aRh(hN:1100000<=N)(root:Arr 16)(g y:Int)(s:Str)(a:Abs)(hs:s.length<=1000)(hl:a.2.2.2.1.length<=1000)(hr':a.2.2.2.2.1.length<=1000)(hp:a.2.2.2.2.2.1.length<=1000000)(hq:a.2.2.2.2.2.2.length<=1000000)(hg:I64 g)(hy:I64 y)(hn:I64 a.2.1):∃b,dG N root g y s a=some b/\(b=true->0<=a.1/\a.1<=a.2.1/\a.2.1<=1000/\root=sl N g y a.2.1 a.2.2.1/\
  (0<a.1->Op.bytesLess a.2.2.2.1 s=true/\InP N (lf N a.2.2.2.1) (a.1-1) a.2.1 a.2.2.2.2.2.1 a.2.2.1)/\(a.1<a.2.1->Op.bytesLess s a.2.2.2.2.1=true/\InP N (lf N a.2.2.2.2.1) a.1 a.2.1 a.2.2.2.2.2.2 a.2.2.1)):=by
 obtain⟨i,n,t,l,r,lp,rp⟩:=a;dsimp only at hl hr' hp hq hn|-;have z1:=(aPj (N:=N) (by omega) hg hy hn t).1;have e1:=aO6 (N:=N) (l:=[]) (eo _) (by show 1000000+0<N;omega);by_cases hok:hr s g y=true/\¬i<0/\¬i>n/\¬n>1000/\(root.l==(sl N g y n t).l)=true
 ·obtain⟨k1,k2,k3,k4,k5⟩:=hok;obtain⟨cl,c1,c2⟩:=kG (N:=N) (lf N l) (i-1) n lp t (by omega) hp hN;obtain⟨cr,d1,d2⟩:=kG (N:=N) (lf N r) i n rp t (by omega) hq hN;refine⟨_,aSx k1 (by omega) hs k2 k3 k4 z1 e1 (aOa (by omega) l (by omega)) (aOa (by omega) r (by omega)) c1 d1 k5,fun h=>?_⟩;rw[μ,μ]at h;obtain⟨_,h1,h2⟩:=h;refine⟨by omega,by omega,by omega,Arr.ext (eq_of_beq k5),fun q=>?_,fun q=>?_⟩
  ·unfold dl at h1;rw[if_pos q,μ]at h1;exact⟨h1.1,c2 h1.2⟩
  ·unfold dr at h2;rw[if_pos q,μ]at h2;exact⟨h2.1,d2 h2.2⟩
 ·refine⟨false,?_,fun h=>by cases h⟩;unfold dG;dsimp only;rw[zB s g y (by omega) hs,z1];by_cases h1:i<0
  ·rw[aJ (decide_eq_true h1)];rfl
  rw[aK (decide_eq_false h1)];by_cases h2:i>n
  ·rw[aJ (decide_eq_true h2)];rfl
  rw[aK (decide_eq_false h2)];by_cases h3:n>1000
  ·rw[aJ (decide_eq_true h3)];rfl
  rw[aK (decide_eq_false h3)];cases h4:hr s g y with
  |false=>rfl
  |true=>
   simp only[aB,za4,aO];cases h5:root.l==(sl N g y n t).l with
   |false=>rfl
   |true=>exact absurd ⟨h4,h1,h2,h3,h5⟩ hok
theorem bAd(N m:Nat):iQ N (m+1)=iO N (iQ N m):=rfl
theorem aPf{N:Nat}(hN:1000000<=N)(l:List Str)(hl:l.length<=10)(hp:∀x∈l,x.length<=1000000):∀(k i m:Nat) (msg:List Int),i+k=l.length->k<m->msg.length<=1+1000010*i->
  iQ N m l (i:Int) msg=some (msg++aD ((l.drop i).flatMap mE))
 |k,i,0,msg,_,h,_=>by omega
 |0,i,m+1,msg,hi,_,hm=>by
  rw[bAd];unfold iO;rw[aK (decide_eq_false (by omega)),aH,dg (by omega)];exact congrArg some (bj msg).symm
 |k+1,i,m+1,msg,hi,hm,hml=>by
  have hlt:i<l.length:=by omega
  have hx:=hp _ (ee hlt);have he:(mE l[i]).length<=1000010:=by unfold mE;have:=(lG (lM (show(l[i]).length<=1000000 by omega))).2;rw[κ];omega
  rw[bAd];unfold iO;rw[aJ (decide_eq_true (by omega)),gM (ν hlt),bA0 (by omega) _ (by omega),aB,aH,aH,aC (by rw[bW];omega),bF (by omega) (by omega),aH,show((i:Int)+1)=((i+1:Nat):Int) by omega,
   aPf hN l hl hp k (i+1) m _ (by omega) (by omega) (by rw[κ,bW];omega),kN hlt,gu,qB,a9]
theorem aVx(hN:1000000<=N)(p:Int)(l:List Str)(hl:l.length<=10)(hp:∀x∈l,x.length<=1000000):lC N p l=some (θ .u8 p::aD (l.flatMap mE)):=by unfold lC;exact aPf hN l hl hp l.length 0 N [θ .u8 p] (by omega) (by omega) (by show 1<=_;omega)
theorem gT(hN:1000000<=N)(p:Int)(l:List Str)(hl:l.length<=10)(hp:∀x∈l,x.length<=1000000)(d:Arr 16)(hd:dJ N p l=some d):bJ N p l=some (inp p l,d):=by unfold bJ;rw[aVx hN p l hl hp,aB,aH,hd,aB];rfl
theorem aE0(hN:1000000<=N)(a b:Arr 16):gX N a b=some (i31 a b,nd N a b):=by unfold gX;rw[gT hN 31 _ (by simp only[bg,zb0];omega) (b16 a b) _ (aL1 hN a b).1,aB];rfl
theorem rd7(hN:20<=N)(h:I64 n):eP N n=some (uvI n):=by
 have hr:okR ((0,(0,(0,(0,(0,n))))):Rd):=fun x hx=>by have hx:x∈[1,0,0,0,0,0,n]:=hx;simp only[cq,fm,or_false]at hx;rcases hx with rfl|rfl|rfl|rfl|rfl|rfl|rfl<;>first|exact h|exact⟨by decide,by decide⟩
 have e:bFt ((0,(0,(0,(0,(0,n))))):Rd)=[14,2,0,0,0,0,0]++uvI n:=by
  show aZa [1,0,0,0,0,0,n]=_;have e0:aZa [1,0,0,0,0,0,n]=uvI 7++(uvI 1++(uvI 0++(uvI 0++(uvI 0++(uvI 0++(uvI 0++(uvI n++[]))))))):=rfl;have e1:uvI 7=[14]:=by decide+kernel
  have e2:uvI 1=[2]:=by decide+kernel
  have e3:uvI 0=[0]:=by decide+kernel
  rw[e0,e1,e2,e3,bj];rfl
 unfold eP;rw[aTz hN hr,aB,e,aC (by rw[κ];show 7<=7+_;omega),aC (π _)];refine congrArg some ?_;show List.take _ (uvI n)=_;exact bn (by rw[κ];show _<=7+_-7;omega)
theorem aA3(hN:1000000<=N)(hg:I64 g)(hy:I64 y)(hn:I64 n)(d:Arr 16):eU N g y n d=some (aCi g y n d,sl N g y n d):=by unfold eU;rw[rd7 (by omega) hg,aB,rd7 (by omega) hy,aB,rd7 (by omega) hn,aB,gT hN 186 _ (by simp only[bg,zb0];omega) (aX3 hg hy hn d) _ (aPj hN hg hy hn d).2,aB];rfl
theorem bGj(m:Nat):kO (m+1)=nF (kO m):=rfl
theorem aP6(n:Nat)(h':n<=60000):∀(k m a:Nat),a+k=45->k<m->2^a<n->∃b,2^b<n/\n<=2*2^b/\kO m (n:Int) ((2^a:Nat):Int)=some ((2^b:Nat):Int)
 |k,0,a,_,h,_=>by omega
 |0,m+1,a,h,_,h2=>by
  obtain rfl:a=45:=by omega
  have:2^45=35184372088832:=rfl;omega
 |k+1,m+1,a,h,hm,h2=>by
  have e:2*((2^a:Nat):Int)=((2^(a+1):Nat):Int):=by rw[zb3];omega
  have e2:2^(a+1)=2^a*2:=zb3 ..;rw[bGj];unfold nF;rw[e,bF (by omega) (by omega)];by_cases h3:2^(a+1)<n
  ·rw[aJ (decide_eq_true (by omega)),bF (by omega) (by omega)];exact aP6 n h' k m (a+1) (by omega) (by omega) h3
  ·rw[aK (decide_eq_false (by omega))];exact⟨a,h2,by omega,rfl⟩
theorem aZo(N n:Nat)(hN:50<=N)(h:2<=n)(h':n<=60000):kM N (n:Int)=some ((sp n:Nat):Int):=by obtain⟨b,h1,h2,h3⟩:=aP6 n h' 45 N 0 (by omega) (by omega) (by show 1<n;omega);have:=aAi n h (by omega);have e:Lib.bitLen (n-1)-1=b:=aS5 (n:=n) (by show sp n<n;omega) (by show n<=2*sp n;omega) h1 h2;unfold kM;refine Eq.trans h3 ?_;unfold sp;rw[e]
theorem aOb(hN:1000000<=N){l:List (Arr 16)}(h:l.length=0):tr (N+1) l=emp N:=by
 unfold tr;have:G_merkle_Root (N+1) l=some (emp N):=by show cX N (fun _=>G_merkle_Root N) l=_;unfold cX;rw[kS (by omega),aM,aNl hN,aB]
 rw[this];rfl
theorem aA9:∀(N:Nat) (l:List (Arr 16)),1<=l.length->l.length<=60000->(tn N l).length<=l.length-1
 |0,l,_,_=>eo _
 |N+1,l,h,h'=>by
  by_cases h1:l.length=1
  ·have:tn (N+1) l=[]:=by show(if l.length=0 then _ else if l.length=1 then _ else _)=_;rw[if_neg (by omega),if_pos h1]
   rw[this];exact eo _
  ·obtain⟨s1,s2,s3⟩:=aAi l.length (by omega) (by omega);have lA:(l.take (sp l.length)).length=sp l.length:=by rw[bz];omega
   have lD:(l.drop (sp l.length)).length=l.length-sp l.length:=by rw[υ]
   have i1:=aA9 N (l.take (sp l.length)) (by omega) (by omega);have i2:=aA9 N (l.drop (sp l.length)) (by omega) (by omega);rw[aNr (by omega),κ,κ,cn];omega
theorem aM9:∀(n N:Nat) (l:List (Arr 16)) (out:List Md),l.length<=n->n<=60000->1000000+n<N->out.length+2*l.length<=1000000->G_law23_top N l out=some (tr N l,out++tn N l)
 |_,0,l,_,_,_,h,_=>by omega
 |0,M+1,l,out,hl,_,hN,ho=>by
  have h0:l.length=0:=by omega
  have et:tn (M+1) l=[(inp 32 [],emp M)]:=by show(if l.length=0 then _ else _)=_;rw[if_pos h0]
  rw[aOb (by omega) h0,et];show dW M (fun _=>G_law23_top M) l out=_;unfold dW;rw[kS (by omega),aM,gT (by omega) 32 [] (by decide) (fun x hx=>(fm hx).elim) _ (aAq (by omega)).1,aB];dsimp only;rw[aH,aC (by rw[cn];omega),aC rfl,aC rfl,aC rfl,aC rfl,aH]
 |n+1,M+1,l,out,hl,hn,hN,ho=>by
  by_cases h0:l.length=0
  ·have et:tn (M+1) l=[(inp 32 [],emp M)]:=by show(if l.length=0 then _ else _)=_;rw[if_pos h0]
   rw[aOb (by omega) h0,et];show dW M (fun _=>G_law23_top M) l out=_;unfold dW;rw[kS (by omega),aM,gT (by omega) 32 [] (by decide) (fun x hx=>(fm hx).elim) _ (aAq (by omega)).1,aB];dsimp only;rw[aH,aC (by rw[cn];omega),aC rfl,aC rfl,aC rfl,aC rfl,aH]
  ·by_cases h1:l.length=1
   ·obtain⟨x,rfl⟩:=za9.1 h1;have et:tn (M+1) [x]=[]:=rfl;rw[aHz,et,bj];show dW M (fun _=>G_law23_top M) [x] out=_;unfold dW;rw[jD (by omega),aO,kS (by omega),aM,show(0:Int)=((0:Nat):Int)from rfl,gM (List.getElem?_cons_zero),aH]
   ·obtain⟨s1,s2,s3⟩:=aAi l.length (by omega) (by omega);have lA:(l.take (sp l.length)).length=sp l.length:=by rw[bz];omega
    have lD:(l.drop (sp l.length)).length=l.length-sp l.length:=by rw[υ]
    have i1:=aM9 n M (l.take (sp l.length)) out (by omega) (by omega) (by omega) (by omega);have t1:=aA9 M (l.take (sp l.length)) (by omega) (by omega);have t2:=aA9 M (l.drop (sp l.length)) (by omega) (by omega);have i2:=aM9 n M (l.drop (sp l.length)) (out++tn M (l.take (sp l.length))) (by omega) (by omega) (by omega) (by rw[κ];omega);have ed:(l.drop (sp l.length)).take (l.length-sp l.length)=l.drop (sp l.length):=bn (by rw[lD];exact π _);rw[aHu (by omega) (by omega) (by omega),aNr (by omega)];show dW M (fun _=>G_law23_top M) l out=_;unfold dW;dsimp only;rw[jD (by omega),aO,jD (by omega),aO,aZo M _ (by omega) (by omega) (by omega),aB,za7,aC (by omega),aC (by omega),aC (by omega),aH,da,gy,i1,aB];dsimp only;rw[aC (by omega),aC (by omega),aC (by omega),aH,ed,i2,aB];dsimp only;rw[aE0 (by omega),aB];dsimp only;rw[aH,aC (by rw[κ,κ,cn];omega),aC rfl,aC rfl,aC rfl,aC rfl,aH,a9,a9,a9]
def itm(N:Nat)(l:List Str):List Md:=l.map fun s=>(inp 30 [s],lf N s)
theorem aCp:(itm N l).length=l.length:=ι _
theorem aWc(h:i<l.length):itm N (l.take (i+1))=itm N (l.take i)++[(inp 30 [l[i]],lf N l[i])]:=by unfold itm;rw[gq h,cd];rfl
def fol(N:Nat)(f:Fo):List Md:=itm N f.2.2++tn N (lvs N f.2.2)++[(aCi f.1 f.2.1 ((f.2.2.length:Nat):Int) (tr N (lvs N f.2.2)),sl N f.1 f.2.1 ((f.2.2.length:Nat):Int) (tr N (lvs N f.2.2)))]
theorem bF3(N m:Nat):gZ N (m+1)=gW N (gZ N m):=rfl
theorem aPm{N:Nat}(hN:1100000<=N)(l:List Str)(g y:Int)(hp:∀x∈l,x.length<=1000)(hl:l.length<=1000)(hg:I64 g)(hy:I64 y):∀(k i m:Nat),i+k=l.length->k<m->gZ N m l ((l.length:Nat):Int) (i:Int) g y l (lvs N (l.take i)) (itm N (l.take i))=some (fol N (g,(y,l)))
 |k,i,0,_,h=>by omega
 |0,i,m+1,hi,_=>by
  have t0:l.take i=l:=bn (by omega);have hn:I64 ((l.length:Nat):Int):=pT (by omega) (by omega);have ht:(tn N (lvs N l)).length<=l.length+1:=by
   by_cases h0:l.length=0
   ·obtain⟨M,rfl⟩:∃M,N=M+1:=⟨N-1,by omega⟩;have:tn (M+1) (lvs (M+1) l)=[(inp 32 [],emp M)]:=by show(if(lvs (M+1) l).length=0 then _ else _)=_;rw[if_pos (by rw[cH];exact h0)]
    rw[this,cn];omega
   ·have:=aA9 N (lvs N l) (by rw[cH];omega) (by rw[cH];omega);rw[cH]at this;omega
  rw[t0,bF3];unfold gW;rw[aK (decide_eq_false (by omega)),aH,aH,aM9 1000 N (lvs N l) (itm N l) (by rw[cH];exact hl) (by omega) (by omega) (by rw[cH,aCp];omega),aB];dsimp only;rw[aA3 (by omega) hg hy hn,aB];dsimp only;rw[aH,aC (by rw[κ,cn,aCp];omega),aH];rfl
 |k+1,i,m+1,hi,hm=>by
  have hlt:i<l.length:=by omega
  have hb:=hp _ (ee hlt);have e0:(lvs N (l.take i)).length=i:=by rw[cH,bz];omega
  have e1:(itm N (l.take i)).length=i:=by rw[aCp,bz];omega
  rw[bF3];unfold gW;rw[aJ (decide_eq_true (by omega)),gM (ν hlt),gT (by omega) 30 [l[i]] (by rw[cn];omega) (fun x hx=>by rw[bo.1 hx];omega) _ (aDr (by omega) l[i] (by omega)).1,aB];dsimp only;rw[aH,aC (by rw[e0,cn];omega),aC rfl,aC rfl,aH,aC (by rw[e1,cn];omega),aC rfl,aC rfl,bF (by omega) (by omega),aH,aH,show(i:Int)+1=((i+1:Nat):Int) by omega,<-aLu hlt,<-aWc hlt];exact aPm hN l g y hp hl hg hy k (i+1) m (by omega) (by omega)
theorem aGo(hN:1100000<=N)(f:Fo)(hp:∀x∈f.2.2,x.length<=1000)(hl:f.2.2.length<=1000)(hg:I64 f.1)(hy:I64 f.2.1):eN N f=some (fol N f):=by obtain⟨g,y,l⟩:=f;exact aPm hN l g y hp hl hg hy l.length 0 N (by omega) (by dsimp only at hl;omega)
theorem bAk(r:List Md->List Md->Int->Int->Option Bool)(m:Nat):fV r (m+1)=fW r (fV r m):=rfl
theorem bFd(N m:Nat):dV N (m+1)=jV N (dV N m):=rfl
def hit(s:Str)(d:Arr 16)(t:Md):Bool:=d.l==t.2.l&& !(s==t.1)
theorem bEk(r:List Md->List Md->Int->Int->Option Bool)(a b:List Md)(c:Int)(e:Nat)(he:e<=1000000)(L:List Md)(hL:L.length<=1000000)(s:Str)(d:Arr 16):∀(k j m:Nat),j+k=L.length->k<m->fV r m a b c (e:Int) L ((L.length:Nat):Int) (j:Int) s d=if(L.drop j).any (hit s d)=true then some true else r a b c ((e+1:Nat):Int)
 |k,j,0,_,h=>by omega
 |0,j,m+1,hj,_=>by
  rw[bAk];unfold fW;rw[aK (decide_eq_false (by omega)),bF (by omega) (by omega),dg (by omega)];rfl
 |k+1,j,m+1,hj,hm=>by
  have hlt:j<L.length:=by omega
  rw[bAk];unfold fW;rw[aJ (decide_eq_true (by omega)),gM (ν hlt),kN hlt,List.any_cons];have ih:=bEk r a b c e he L hL s d k (j+1) m (by omega) (by omega);unfold hit;unfold hit at ih;cases h1:d.l==L[j].2.l with
  |false=>
   rw[aO,aB];dsimp only;rw[aO,bF (by omega) (by omega),show(j:Int)+1=((j+1:Nat):Int) by omega,ih,Bool.false_and,ia]
  |true=>
   rw[aM,aB];dsimp only;cases h2:s==L[j].1 with
   |false=>
    rw[gj,aM];rfl
   |true=>
    rw[za4,aO,bF (by omega) (by omega),show(j:Int)+1=((j+1:Nat):Int) by omega,ih,Bool.true_and,ia]
theorem bAp(N:Nat)(L:List Md)(hL:L.length<=1000000)(hN:L.length<N)(p q:Nat)(hq:q<p)(hp:p<L.length)(h:hit (L[p]'hp).1 (L[p]'hp).2 (L[q]'(by omega))=true):∀(k i m:Nat),i+k=L.length->k<m->i<=p->dV N m L L ((L.length:Nat):Int) (i:Int)=some true
 |k,i,0,_,h,_=>by omega
 |0,i,m+1,hi,_,h=>by omega
 |k+1,i,m+1,hi,hm,hip=>by
  have hlt:i<L.length:=by omega
  have lt:(L.take i).length=i:=by rw[bz];omega
  rw[bFd];unfold jV;rw[aJ (decide_eq_true (by omega)),gM (ν hlt),aC (by omega),aC (by omega),za7,aC (by omega),da,gy];have e:=bEk (dV N m) L L ((L.length:Nat):Int) i (by omega) (L.take i) (by rw[lt];omega) L[i].1 L[i].2 i 0 N (by rw[lt];omega) (by omega);refine Eq.trans e ?_;rw[da];split
  ·rfl
  ·rename_i hn;by_cases hpi:i=p
   ·subst hpi;refine absurd (List.any_eq_true.2 ⟨L[q]'(by omega),?_,h⟩) hn;rw[List.mem_take_iff_getElem];exact⟨q,by omega,rfl⟩
   ·exact bAp N L hL hN p q hq hp h k (i+1) m (by omega) (by omega) (by omega)
theorem aBa(hL:L.length<=1000000)(hN:L.length<N)(h:¬NC L):dR N L=some true:=by
 have:∃x∈L,∃y∈L,x.2=y.2/\x.1≠y.1:=by apply za5;intro hc;exact h fun x hx y hy e=>za5 fun e'=>hc ⟨x,hx,y,hy,e,e'⟩
 obtain⟨x,hx,y,hy,e1,e2⟩:=this;obtain⟨a,ha,rfl⟩:=jq hx;obtain⟨b,hb,rfl⟩:=jq hy;have hab:a≠b:=fun e=>by subst e;exact e2 rfl
 have hh:∀(u v:Md),u.2=v.2->u.1≠v.1->hit u.1 u.2 v=true:=fun u v e e'=>by unfold hit;rw[e,beq_self_eq_true,Bool.true_and,beq_eq_false_iff_ne.2 e'];rfl
 unfold dR;rcases Nat.lt_or_gt_of_ne hab with hl|hl
 ·exact bAp N L hL hN b a hl hb (hh _ _ e1.symm (Ne.symm e2)) L.length 0 N (by omega) (by omega) (by omega)
 ·exact bAp N L hL hN a b hl ha (hh _ _ e1 e2) L.length 0 N (by omega) (by omega) (by omega)
theorem bD1(m:Nat):bO (m+1)=bM (bO m):=rfl
theorem aO1(l:List Str)(s:Str)(hl:l.length<=1000000):∀(k i m:Nat),i+k=l.length->k<m->∃r:Int,bO m l s ((l.length:Nat):Int) (i:Int)=some r/\(r≥0↔s∈l.drop i)
 |k,i,0,_,h=>by omega
 |0,i,m+1,hi,_=>by
  rw[bD1];unfold bM;rw[aK (decide_eq_false (by omega)),dg (by omega)];exact⟨-1,rfl,fun h=>by omega,fun h=>(fm h).elim⟩
 |k+1,i,m+1,hi,hm=>by
  have hlt:i<l.length:=by omega
  rw[bD1];unfold bM;rw[aJ (decide_eq_true (by omega)),gM (ν hlt),kN hlt];cases h:s==l[i]with
  |true=>
   rw[aM];exact⟨(i:Int),rfl,fun _=>by rw[eq_of_beq h];exact c9 ..,fun _=>by omega⟩
  |false=>
   obtain⟨r,h1,h2⟩:=aO1 l s hl k (i+1) m (by omega) (by omega);rw[aO,bF (by omega) (by omega),show(i:Int)+1=((i+1:Nat):Int) by omega];refine⟨r,h1,fun q=>dw _ (h2.1 q),fun q=>h2.2 ?_⟩;rcases cq.1 q with q|q
   ·exact absurd q (beq_eq_false_iff_ne.1 h)
   ·exact q
theorem aLt(l:List Str)(s:Str)(hl:l.length<=1000000)(hN:l.length<N):bI N l s=some (decide (s∈l)):=by obtain⟨r,h1,h2⟩:=aO1 l s hl l.length 0 N (by omega) hN;unfold bI dC;refine Eq.trans (congrArg (fun x=>bd? x fun v3=>some (decide (v3≥0))) h1) ?_;rw[aB];exact congrArg some (decide_eq_decide.2 h2)
theorem bFy(m:Nat):bN (m+1)=bP (bN m):=rfl
theorem aN6(l l':List Str)(e:l.length=l'.length)(hl:l.length<=1000000):∀(k i m:Nat),i+k=l.length->k<m->∃b,bN m l l' ((l.length:Nat):Int) (i:Int)=some b/\(b=true↔l.drop i=l'.drop i)
 |k,i,0,_,h=>by omega
 |0,i,m+1,hi,_=>by
  rw[bFy];unfold bP;rw[aK (decide_eq_false (by omega)),dg (by omega),dg (by omega)];exact⟨true,rfl,fun _=>rfl,fun _=>rfl⟩
 |k+1,i,m+1,hi,hm=>by
  have hlt:i<l.length:=by omega
  have hlt':i<l'.length:=by omega
  rw[bFy];unfold bP;rw[aJ (decide_eq_true (by omega)),gM (ν hlt),gM (ν hlt'),kN hlt,kN hlt'];cases h:l[i]==l'[i]with
  |false=>
   rw[gj,aM];refine⟨false,rfl,(fun h=>by cases h),fun q=>?_⟩;rw[(List.cons.inj q).1,beq_self_eq_true]at h;cases h
  |true=>
   obtain⟨b,h1,h2⟩:=aN6 l l' e hl k (i+1) m (by omega) (by omega);rw[za4,aO,bF (by omega) (by omega),show(i:Int)+1=((i+1:Nat):Int) by omega];refine⟨b,h1,fun q=>by rw[eq_of_beq h,h2.1 q],fun q=>h2.2 (List.cons.inj q).2⟩
theorem aV0(l l':List Str)(hl:l.length<=1000000)(hN:l.length<N):∃b,cD N l l'=some b/\(b=true↔l=l'):=by
 unfold cD;by_cases e:l.length=l'.length
 ·obtain⟨b,h1,h2⟩:=aN6 l l' e hl l.length 0 N (by omega) hN;rw[vW (by omega),aO];exact⟨b,h1,h2⟩
 ·rw[vX (by omega),aM];exact⟨false,rfl,(fun h=>by cases h),fun h=>absurd (congrArg List.length h) e⟩
section
variable{N:Nat}{f:Fo}{L:List Md}
theorem aLp:(aCi f.1 f.2.1 ((f.2.2.length:Nat):Int) (tr N (lvs N f.2.2)),sl N f.1 f.2.1 ((f.2.2.length:Nat):Int) (tr N (lvs N f.2.2)))∈fol N f:=bp _ (bo.2 rfl)
theorem aIr(h:s∈f.2.2):(inp 30 [s],lf N s)∈fol N f:=bu _ (bu _ (db.2 ⟨s,h,rfl⟩))
theorem aM6{x:Md}(h:x∈tn N (lvs N f.2.2)):x∈fol N f:=bu _ (bp _ h)
theorem b30(h:s.length<=1000):∀x∈[s],x.length<=1000000:=fun x hx=>by rw[bo.1 hx];omega
theorem bFc{s':Str}(hs:s.length<=1000)(hs':s'.length<=1000)(hc:NC L)(h:(inp 30 [s],lf N s)∈L)(h':(inp 30 [s'],lf N s')∈L)(e:lf N s=lf N s'):s=s':=
 (List.cons.inj (aJo (b30 hs) (b30 hs') (hc _ h _ h' e))).1
theorem aZf(hN:1100000<=N)(hp:∀x∈f.2.2,x.length<=1000)(hl:f.2.2.length<=1000):BA (tr N (lvs N f.2.2)):=aD5 (by rw[cH];omega) (by rw[cH];omega) (aIe (by omega) hp)
theorem aIq(hN:1100000<=N)(hp:∀x∈f.2.2,x.length<=1000)(hf:Gf f)(hn:I64 n)(ht:BA t)(hc:NC L)(hL:∀x∈fol N f,x∈L)(hm:(aCi f.1 f.2.1 n t,sl N f.1 f.2.1 n t)∈L)
  (e:sl N f.1 f.2.1 ((f.2.2.length:Nat):Int) (tr N (lvs N f.2.2))=sl N f.1 f.2.1 n t):n=((f.2.2.length:Nat):Int)/\t=tr N (lvs N f.2.2):=by have g0:=hf.g0;have g1:=hf.g1;have y0:=hf.y0;have y1:=hf.y1;have hl:=hf.n;have q:=hc _ (hL _ aLp) _ hm e;obtain⟨h1,h2⟩:=aSw (pT (by omega) (by omega)) (pT (by omega) (by omega)) (pT (by omega) (by omega)) hn (aZf hN hp hl) ht q;exact⟨h1.symm,h2.symm⟩
theorem aNn(hN:1100000<=N)(hp:∀x∈f.2.2,x.length<=1000)(hf:Gf f)(hs:s.length<=1000)(hc:NC L)(hL:∀x∈fol N f,x∈L)(hx:(inp 30 [s],lf N s)∈L){j:Nat}(hj:j<f.2.2.length)(hpB:∀q∈p,BA q)
  (hok:(cw N (lf N s) j f.2.2.length p).2.2=true) (ht:(cw N (lf N s) j f.2.2.length p).1=tr N (lvs N f.2.2)) (hW:∀x∈(cw N (lf N s) j f.2.2.length p).2.1,x∈L):f.2.2[j]?=some s:=by
 have hl:=hf.n;have h:=ct f.2.2.length N (lvs N f.2.2) (lf N s) j p (by rw[cH];exact hj) (by rw[cH];exact π _) (by omega) (by omega) (aIe (by omega) hp) (aDr (by omega) s (by omega)).2 hpB (by rw[cH];exact hok) (by rw[cH];exact ht.symm) (by
  rw[cH];exact hc.mono fun x hx=>(dj.1 hx).elim (fun h=>hL x (aM6 h)) (hW x))
 have hg:f.2.2[j]?=some f.2.2[j]:=ν hj;have hmem:f.2.2[j]∈f.2.2:=ee hj;unfold lvs at h;rw[τ,hg,c7]at h;rw[hg,bFc (hp _ hmem) hs hc (hL _ (aIr hmem)) hx (Option.some.inj h)]
end
theorem aWj(hN:1100000<=N)(hp:∀x∈f.2.2,x.length<=1000)(hf:Gf f)(hs:s.length<=1000){i:Int}(hn:I64 n)(ht:BA t)(hpB:∀q∈p,BA q)(hin:s∉f.2.2)
  (e:sl N f.1 f.2.1 ((f.2.2.length:Nat):Int) (tr N (lvs N f.2.2))=sl N f.1 f.2.1 n t) (hP:InP N (lf N s) i n p t) (hL:∀x∈fol N f,x∈L) (hx:(inp 30 [s],lf N s)∈L) (hm:(aCi f.1 f.2.1 n t,sl N f.1 f.2.1 n t)∈L)
  (hW:∀x∈(cw N (lf N s) i.toNat n.toNat p).2.1,x∈L):¬NC L:=fun hc=>by
 obtain⟨h1,h2⟩:=aIq hN hp hf hn ht hc hL hm e;obtain⟨j,m,rfl,e2,hj,hw,hok⟩:=hP;obtain rfl:m=f.2.2.length:=by omega
 rw[h1,za7,za7]at hW;have:=aNn hN hp hf hs hc hL hx hj hpB hok (hw.trans h2) hW;exact hin (List.mem_of_getElem? this)
theorem aW0(hN:1100000<=N)(hp:∀x∈f.2.2,x.length<=1000)(hf:Gf f){i:Int}{l r:Str}(hl:l.length<=1000)(hr:r.length<=1000){lp rp:List (Arr 16)}(hn:I64 n)(ht:BA t)(hlB:∀q∈lp,BA q)(hrB:∀q∈rp,BA q)(hin:s∈f.2.2)
  (h0:0<=i) (h1:i<=n) (e:sl N f.1 f.2.1 ((f.2.2.length:Nat):Int) (tr N (lvs N f.2.2))=sl N f.1 f.2.1 n t)
  (hA:0<i->Op.bytesLess l s=true/\InP N (lf N l) (i-1) n lp t) (hB:i<n->Op.bytesLess s r=true/\InP N (lf N r) i n rp t) (hL:∀x∈fol N f,x∈L) (hx:(inp 30 [l],lf N l)∈L) (hy:(inp 30 [r],lf N r)∈L) (hm:(aCi f.1 f.2.1 n t,sl N f.1 f.2.1 n t)∈L)
  (hV:0<i->∀x∈(cw N (lf N l) (i-1).toNat n.toNat lp).2.1,x∈L) (hW:i<n->∀x∈(cw N (lf N r) i.toNat n.toNat rp).2.1,x∈L):¬NC L:=fun hc=>by
 obtain⟨e1,e2⟩:=aIq hN hp hf hn ht hc hL hm e;have srt:=hf.srt;obtain⟨k,hk,rfl⟩:=jq hin;have a1:0<i->i<=(k:Int):=fun q=>by
  obtain⟨b1,j,m,ej,em,hj,hw,hok⟩:=hA q;obtain rfl:m=f.2.2.length:=by omega
  have hV:=hV q;rw[ej,e1,za7,za7]at hV;have hg:=aNn hN hp hf hl hc hL hx hj hlB hok (hw.trans e2) hV;rw[ν hj]at hg;have hg:=Option.some.inj hg;rw[<-hg]at b1;apply za5;intro hlt;rcases Nat.lt_or_eq_of_le (show k<=j by omega)with h|h
  ·have:=srt k j h hk hj;rw[aOg this]at b1;cases b1
  ·subst h;rw[aH6]at b1;cases b1
 have a2:i<n->(k:Int)<i:=fun q=>by
  obtain⟨b1,j,m,ej,em,hj,hw,hok⟩:=hB q;obtain rfl:m=f.2.2.length:=by omega
  have hW:=hW q;rw[ej,e1,za7,za7]at hW;have hg:=aNn hN hp hf hr hc hL hy hj hrB hok (hw.trans e2) hW;rw[ν hj]at hg;have hg:=Option.some.inj hg;rw[<-hg]at b1;apply za5;intro hlt;rcases Nat.lt_or_eq_of_le (show j<=k by omega)with h|h
  ·have:=srt j k h hj hk;rw[aOg this]at b1;cases b1
  ·subst h;rw[aH6]at b1;cases b1
 by_cases q:i<n
 ·have:=a2 q;by_cases q2:0<i
  ·have:=a1 q2;omega
  ·omega
 ·have:=a1 (by omega);omega
theorem aXo(hN:1100000<=N){g:Fo}(hp:∀x∈f.2.2,x.length<=1000)(hq:∀x∈g.2.2,x.length<=1000)(hf:Gf f)(hg:Gf g)(e1:f.1=g.1)(e2:f.2.1=g.2.1)(hne:f.2.2≠g.2.2)
  (e:sl N f.1 f.2.1 ((f.2.2.length:Nat):Int) (tr N (lvs N f.2.2))=sl N g.1 g.2.1 ((g.2.2.length:Nat):Int) (tr N (lvs N g.2.2))) (hL:∀x∈fol N f,x∈L) (hM:∀x∈fol N g,x∈L):¬NC L:=fun hc=>by
 have hl:=hg.n;have hl':=hf.n;rw[<-e1,<-e2]at e;have hs:(aCi f.1 f.2.1 ((g.2.2.length:Nat):Int) (tr N (lvs N g.2.2)),sl N f.1 f.2.1 ((g.2.2.length:Nat):Int) (tr N (lvs N g.2.2)))∈L:=by rw[e1,e2];exact hM _ aLp
 obtain⟨h1,h2⟩:=aIq hN hp hf (pT (by omega) (by omega)) (aZf hN hq hl) hc hL hs e;have h3:=tt 1000 N (lvs N f.2.2) (lvs N g.2.2) (by rw[cH,cH];omega) (by rw[cH];omega) (by omega) (by omega) (aIe (by omega) hp) (aIe (by omega) hq) h2.symm (hc.mono fun x hx=>(dj.1 hx).elim (fun h=>hL x (aM6 h)) (fun h=>hM x (aM6 h)));refine hne (List.ext_getElem (by omega) fun k k1 k2=>?_);have q:(lvs N f.2.2)[k]?=(lvs N g.2.2)[k]?:=by rw[h3]
 unfold lvs at q;rw[τ,τ,ν k1,ν k2,c7,c7]at q;exact bFc (hp _ (ee k1)) (hq _ (ee k2)) hc (hL _ (aIr (ee k1))) (hM _ (aIr (ee k2))) (Option.some.inj q)
theorem oH(x:α)[Decidable (x=x)]{k:Option β}:gd? (x=x) k=k:=aC rfl
theorem uP:∀(N:Nat) (x:Arr 16) (i m:Nat) (p:List (Arr 16)),(cw N x i m p).2.1.length<=p.length
 |0,_,_,_,_=>eo _
 |M+1,x,i,m,p=>by
  by_cases e1:m<2
  ·rw[aQ2 e1];exact eo _
  ·rcases ez p.length with hz|hz
   ·obtain rfl:p=[]:=dn.1 hz;rw[aH3 e1];exact eo _
   ·obtain⟨k,hk⟩:∃k,p.length=k+1:=⟨p.length-1,by omega⟩;have hl:(p.take k).length=k:=by rw[bz];omega
    by_cases hc:i<sp m
    ·rw[aUq e1 hk hc,κ,cn];have:=uP M x i (sp m) (p.take k);omega
    ·rw[aUi e1 hk hc,κ,cn];have:=uP M x (i-sp m) (m-sp m) (p.take k);omega
theorem aNj{M:Nat}(x:Arr 16)(i n:Int)(p:List (Arr 16))(out:List Md)(h:i<0\/i≥n):G_law23_climb (M+1) x i n p out=some (x,out):=by
 show iM M (fun _=>G_law23_climb M) x i n p out=_;unfold iM;dsimp only;by_cases h1:n<2
 ·rw[aJ (decide_eq_true h1),aH,aB];dsimp only;rw[aM,aH]
 ·rw[aK (decide_eq_false h1)];by_cases h2:p.length=0
  ·rw[kS (by omega),aM,aH,aB];dsimp only;rw[aM,aH]
  ·rw[jD (by omega),aO];by_cases h3:i<0
   ·rw[aJ (decide_eq_true h3),aH,aB];dsimp only;rw[aM,aH]
   ·rw[aK (decide_eq_false h3),aH,aB];dsimp only;rw[aJ (decide_eq_true (by omega)),aH]
theorem aBc:∀(n N:Nat) (x:Arr 16) (i m:Nat) (p:List (Arr 16)) (out:List Md),i<m->m<=n->n<=60000->1000000+n<N->p.length+out.length<=1000000->G_law23_climb N x (i:Int) ((m:Nat):Int) p out=some ((cw N x i m p).1,out++(cw N x i m p).2.1)
 |_,0,_,_,_,_,_,_,_,_,h,_=>by omega
 |0,M+1,_,_,_,_,_,h1,h2,_,_,_=>by omega
 |n+1,M+1,x,i,m,p,out,hi,hm,hn,hN,hp=>by
  show iM M (fun _=>G_law23_climb M) x _ _ p out=_;unfold iM;dsimp only;by_cases e1:m<2
  ·rw[aQ2 e1,aJ (decide_eq_true (by omega)),aH,aB];dsimp only;rw[aM,aH,bj]
  ·rw[aK (decide_eq_false (by omega))];rcases ez p.length with hz|hz
   ·obtain rfl:p=[]:=dn.1 hz;rw[aH3 e1,kS (show(((([]:List (Arr 16)).length:Nat)):Int)=0 from rfl),aM,aH,aB];dsimp only;rw[aM,aH,bj]
   ·obtain⟨k,hk⟩:∃k,p.length=k+1:=⟨p.length-1,by omega⟩;have ek:((p.length:Nat):Int)-1=((k:Nat):Int):=by omega
    have lt:(p.take k).length=k:=by rw[bz];omega
    obtain⟨s1,s2,s3⟩:=aAi m (by omega) (by omega);have em:((m:Nat):Int)-((sp m:Nat):Int)=((m-sp m:Nat):Int):=by omega
    rw[jD (by omega),aO,aK (decide_eq_false (by omega)),aH,aB];dsimp only;rw[aK (decide_eq_false (by omega)),aZo M m (by omega) (by omega) (by omega),aB,ek,bF (by omega) (by omega),za7];by_cases hc:i<sp m
    ·have ih:=aBc n M x i (sp m) (p.take k) out hc (by omega) (by omega) (by omega) (by omega);have cl:=uP M x i (sp m) (p.take k);rw[aUq e1 hk hc,aJ (decide_eq_true (by omega)),aC (by omega),aC (by omega),aC (by omega),aH,da,gy,ih,aB];dsimp only;rw[gM (ν (by omega)),aE0 (by omega),aB];dsimp only;rw[aH,aB];dsimp only;rw[aH,aC (by rw[κ,cn];omega),oH,oH,oH,oH,aH,a9]
    ·have ei:(i:Int)-((sp m:Nat):Int)=((i-sp m:Nat):Int):=by omega
     have ih:=aBc n M x (i-sp m) (m-sp m) (p.take k) out (by omega) (by omega) (by omega) (by omega) (by omega);have cl:=uP M x (i-sp m) (m-sp m) (p.take k);rw[aUi e1 hk hc,aK (decide_eq_false (by omega)),bF (by omega) (by omega),bF (by omega) (by omega),aC (by omega),aC (by omega),aC (by omega),aH,da,gy,ei,em,ih,aB];dsimp only;rw[gM (ν (by omega)),aE0 (by omega),aB];dsimp only;rw[aH,aB];dsimp only;rw[aH,aC (by rw[κ,cn];omega),oH,oH,oH,oH,aH,a9]
theorem aMu(hN:1100000<=N)(x:Arr 16)(i n:Int)(p:List (Arr 16))(out:List Md)(hn:n<=1000)(hp:p.length+out.length<=1000000):∃d,G_law23_climb N x i n p out=some (d,out++(if 0<=i/\i<n then(cw N x i.toNat n.toNat p).2.1 else[])):=by
 by_cases h:0<=i/\i<n
 ·rw[if_pos h];obtain⟨j,rfl⟩:∃j:Nat,i=(j:Int):=⟨i.toNat,by omega⟩;obtain⟨m,rfl⟩:∃m:Nat,n=(m:Int):=⟨n.toNat,by omega⟩;exact⟨_,aBc m N x j m p out (by omega) (π _) (by omega) (by omega) hp⟩
 ·rw[if_neg h,bj];obtain⟨M,rfl⟩:∃M,N=M+1:=⟨N-1,by omega⟩;exact⟨x,aNj x i n p out (by omega)⟩
theorem bEp(m:Nat):iJ (m+1)=lI (iJ m):=rfl
theorem aPb(l:List Str)(hl:l.length<=1010)(g y:Int):∀(k i m:Nat),i+k=l.length->k<m->∃b,iJ m (i:Int) g y l=some b/\(b=true->∀x∈l.drop i,x.length<=400)
 |k,i,0,_,h=>by omega
 |0,i,m+1,hi,_=>by
  rw[bEp];unfold lI;rw[aK (decide_eq_false (by omega)),dg (by omega)];exact⟨true,rfl,fun _ x hx=>(fm hx).elim⟩
 |k+1,i,m+1,hi,hm=>by
  have hlt:i<l.length:=by omega
  rw[bEp];unfold lI;rw[aJ (decide_eq_true (by omega)),gM (ν hlt),kN hlt];by_cases h:l[i].length>400
  ·rw[aJ (decide_eq_true (by omega))];exact⟨false,rfl,fun h=>by cases h⟩
  ·rw[aK (decide_eq_false (by omega)),bF (by omega) (by omega),show(i:Int)+1=((i+1:Nat):Int) by omega];obtain⟨b,h1,h2⟩:=aPb l hl g y k (i+1) m (by omega) (by omega);exact⟨b,h1,fun hb x hx=>(cq.1 hx).elim (fun e=>by rw[e];omega) (h2 hb x)⟩
theorem aVs(hN:1100000<=N)(f:Fo):∃b,jH N f 20=some b/\(b=true->f.2.2.length<=1010/\∀x∈f.2.2,x.length<=400):=by
 unfold jH;have go:∀b:Bool,(b=false->f.2.2.length<=1010)->∃b',(if? b (some false) (iJ N 0 f.1 f.2.1 f.2.2))=some b'/\(b'=true->f.2.2.length<=1010/\∀x∈f.2.2,x.length<=400):=fun b hb=>by
  cases b with
  |true=>exact⟨false,rfl,fun h=>by cases h⟩
  |false=>
   have hl:=hb rfl;obtain⟨b',h1,h2⟩:=aPb f.2.2 hl f.1 f.2.1 f.2.2.length 0 N (by omega) (by omega);exact⟨b',h1,fun h=>⟨hl,h2 h⟩⟩
 by_cases h:((f.2.2.length:Nat):Int)>20
 ·rw[aJ (decide_eq_true h)];by_cases h2:((f.2.2.length:Nat):Int)<=1000
  ·rw[aJ (decide_eq_true h2),aB];exact go true (fun h=>by cases h)
  ·rw[aK (decide_eq_false h2),aB];exact go _ (fun h=>by have:=of_decide_eq_false h;omega)
 ·rw[aK (decide_eq_false h),aB];exact go _ (fun h=>by have:=of_decide_eq_false h;omega)
theorem aWs[Decidable True]{k:Option β}:gd? True k=k:=aC trivial
theorem bBp(N m:Nat):cL N (m+1)=aV N (cL N m):=rfl
theorem aOt(hl:f.2.2.length<=1000):(fol N f).length<=3000:=by
 unfold fol;rw[κ,κ,cn,aCp];have ht:(tn N (lvs N f.2.2)).length<=f.2.2.length+1:=by
  by_cases h0:f.2.2.length=0
  ·cases N with
   |zero=>exact eo _
   |succ M=>
    have:tn (M+1) (lvs (M+1) f.2.2)=[(inp 32 [],emp M)]:=by show(if(lvs (M+1) f.2.2).length=0 then _ else _)=_;rw[if_pos (by rw[cH];exact h0)]
    rw[this,cn];omega
  ·have:=aA9 N (lvs N f.2.2) (by rw[cH];omega) (by rw[cH];omega);rw[cH]at this;omega
 omega
theorem aV3(hN:1100000<=N)(rec)(f g ff gg:Fo)(s:Str)(D:Arr 16)(i n:Int)(t:Arr 16)(p:List (Arr 16))(I S:Int)(T:Arr 16)(L R:Str)(LP RP:List (Arr 16))
  (hf:chk f=0) (hg:chk g=0) (hp:∀x∈f.2.2,x.length<=1000) (hq:∀x∈g.2.2,x.length<=1000) (hn:I64 n) (hI:I64 I) (hS:I64 S) (ht:BA t) (hT:BA T) (hpB:∀q∈p,BA q) (hlB:∀q∈LP,BA q) (hrB:∀q∈RP,BA q):
  aV N rec s true (ff,gg) 2 f.1 f.2.1 f.2.2 g.1 g.2.1 g.2.2 D i n t p I S T L R LP RP=some true:=by
 have gf:=aS1 hf;have gg':=aS1 hg;have g0:=gf.g0;have g1:=gf.g1;have y0:=gf.y0;have y1:=gf.y1;have nl:=gf.n;have nl':=gg'.n;have hg1:I64 f.1:=pT (by omega) (by omega);have hy1:I64 f.2.1:=pT (by omega) (by omega);have lf1:=aOt (N:=N) nl;have lf2:=aOt (N:=N) nl';unfold aV;rw[aK (decide_eq_false (by decide))];by_cases h1:((s.length:Nat):Int)>400
 ·rw[aJ (decide_eq_true h1),aB];rfl
 rw[aK (decide_eq_false h1)];by_cases h2:((p.length:Nat):Int)>20
 ·rw[aJ (decide_eq_true h2),aB];rfl
 rw[aK (decide_eq_false h2)];by_cases h3:((LP.length:Nat):Int)>20
 ·rw[aJ (decide_eq_true h3),aB];rfl
 rw[aK (decide_eq_false h3)];by_cases h4:((RP.length:Nat):Int)>20
 ·rw[aJ (decide_eq_true h4),aB];rfl
 rw[aK (decide_eq_false h4)];by_cases h5:((L.length:Nat):Int)>400
 ·rw[aJ (decide_eq_true h5),aB];rfl
 rw[aK (decide_eq_false h5),aB];dsimp only;by_cases h6:((R.length:Nat):Int)>400
 ·rw[aJ (decide_eq_true h6)]
 rw[aK (decide_eq_false h6)];simp only[aWs];have r1:eX N (f.1,(f.2.1,f.2.2))=_:=aOw hN f hp hf;have r2:eX N (g.1,(g.2.1,g.2.2))=_:=aOw hN g hq hg;have fo1:eN N (f.1,(f.2.1,f.2.2))=_:=aGo hN f hp nl hg1 hy1;rw[r1,aB,r2,aB];dsimp only;rw[vW rfl,aO,aB];dsimp only;rw[aO,fo1,aB,aLt f.2.2 s (by omega) (by omega),aB];generalize hrF:sl N f.1 f.2.1 ((f.2.2.length:Nat):Int) (tr N (lvs N f.2.2))=rF;generalize hrG:sl N g.1 g.2.1 ((g.2.2.length:Nat):Int) (tr N (lvs N g.2.2))=rG;generalize hfo:fol N f=out;obtain⟨b,b1,b2⟩:=aQa hN rF f.1 f.2.1 s (i,(n,(t,p))) (by omega) (by show p.length<=_;omega) hg1 hy1 hn;rw[aQ1 (s,decide (s∈f.2.2),b&& !decide (s∈f.2.2),D,i,n,t,p,I,S,T,L,R,LP,RP,f.1,f.2.1,f.2.2,g.1,g.2.1,g.2.2,rF,rG,out) (by
  rw[b1,aB];cases b with
  |false=>rw[aO,aH];rfl
  |true=>rw[aM,aH];rfl)]
 dsimp only;cases hc:(b&& !decide (s∈f.2.2))with
 |true=>
  rw[μ]at hc;obtain⟨hb,hin⟩:=hc;have hin:s∉f.2.2:=fun h=>by rw[decide_eq_true h]at hin;cases hin
  obtain⟨a1,a2,a3⟩:=b2 hb;dsimp only at a1 a2 a3;obtain⟨j,m,e1,e2,e3,_,_⟩:=id a3;obtain⟨d,c1⟩:=aMu hN (lf N s) i n p (out++[(inp 30 [s],lf N s),(aCi f.1 f.2.1 n t,sl N f.1 f.2.1 n t)]) a1 (by rw[κ,<-hfo];simp only[bg,zb0];omega);rw[aM,gT (by omega) 30 [s] (by rw[cn];omega) (b30 (by omega)) _ (aDr (by omega) s (by omega)).1,aB,aA3 (by omega) hg1 hy1 hn t,aB];dsimp only;rw[aH,aC (by rw[<-hfo];simp only[bg,zb0];omega),aH,c1,aB];dsimp only;rw[if_pos (by omega),aH,aBa (by
    have:=uP N (lf N s) i.toNat n.toNat p;rw[κ,κ,<-hfo];simp only[bg,zb0];omega) (by
    have:=uP N (lf N s) i.toNat n.toNat p;rw[κ,κ,<-hfo];simp only[bg,zb0];omega)
   (aWj hN hp gf (by omega) hn ht hpB hin (hrF.trans a2) a3 (fun x hx=>bu _ (bu _ (hfo▸hx))) (bu _ (bp _ (c9 ..))) (bu _ (bp _ (dw _ (c9 ..)))) (fun x hx=>bp _ hx)),aB]
 |false=>
  rw[aO];obtain⟨e,d1,d2⟩:=aRh hN rF f.1 f.2.1 s (I,(S,(T,(L,(R,(LP,RP)))))) (by omega) (by show L.length<=_;omega) (by show R.length<=_;omega) (by show LP.length<=_;omega) (by show RP.length<=_;omega) hg1 hy1 hS;rw[aQ1 (e&&decide (s∈f.2.2),D,i,n,t,p,I,S,T,L,R,LP,RP,f.1,f.2.1,f.2.2,g.1,g.2.1,g.2.2,rF,rG,out) (by
   rw[d1,aB];cases e with
   |false=>rw[aO,aH];rfl
   |true=>rw[aM,aH];rfl)]
  dsimp only;cases hd:(e&&decide (s∈f.2.2))with
  |true=>
   rw[μ,decide_eq_true_eq]at hd;obtain⟨he,hin⟩:=hd;obtain⟨a0,a1,a2,a3,a4,a5⟩:=d2 he;dsimp only at a0 a1 a2 a3 a4 a5;generalize hM:out++[(inp 30 [L],lf N L),(inp 30 [R],lf N R),(inp 32 [],emp N),(aCi f.1 f.2.1 S T,sl N f.1 f.2.1 S T)]=M;have hMl:M.length<=3004:=by rw[<-hM,κ,<-hfo];simp only[bg,zb0];omega
   obtain⟨u,c1⟩:=aMu hN (lf N L) (I-1) S LP M a2 (by omega);have hMf:∀x∈out,x∈M:=fun x hx=>by rw[<-hM];exact bu _ hx
   have hM1:(inp 30 [L],lf N L)∈M:=by rw[<-hM];exact bp _ (c9 ..)
   have hM2:(inp 30 [R],lf N R)∈M:=by rw[<-hM];exact bp _ (dw _ (c9 ..))
   have hM3:(aCi f.1 f.2.1 S T,sl N f.1 f.2.1 S T)∈M:=by rw[<-hM];exact bp _ (dw _ (dw _ (dw _ (c9 ..))))
   have wl:(if 0<=I-1/\I-1<S then(cw N (lf N L) (I-1).toNat S.toNat LP).2.1 else[]).length<=20:=by
    split
    ·have:=uP N (lf N L) (I-1).toNat S.toNat LP;omega
    ·exact eo _
   have wr:(if 0<=I/\I<S then(cw N (lf N R) I.toNat S.toNat RP).2.1 else[]).length<=20:=by
    split
    ·have:=uP N (lf N R) I.toNat S.toNat RP;omega
    ·exact eo _
   obtain⟨v,c2⟩:=aMu hN (lf N R) I S RP (M++(if 0<=I-1/\I-1<S then(cw N (lf N L) (I-1).toNat S.toNat LP).2.1 else[])) a2 (by rw[κ];omega);rw[aM,gT (by omega) 30 [L] (by rw[cn];omega) (b30 (by omega)) _ (aDr (by omega) L (by omega)).1,aB,gT (by omega) 30 [R] (by rw[cn];omega) (b30 (by omega)) _ (aDr (by omega) R (by omega)).1,aB];dsimp only;rw[bF (by omega) (by omega),gT (by omega) 32 [] (by decide) (fun x hx=>(fm hx).elim) _ (aAq (by omega)).1,aB];dsimp only;rw[aA3 (by omega) hg1 hy1 hS T,aB];dsimp only;rw[aH,aC (by rw[<-hfo];simp only[bg,zb0];omega),aH,hM,c1,aB];dsimp only;rw[aH,c2,aB];dsimp only;rw[aH,aBa (by rw[κ,κ];omega) (by rw[κ,κ];omega)
    (aW0 hN hp gf (by omega) (by omega) hS hT hlB hrB hin a0 a1 (hrF.trans a3) a4 a5 (fun x hx=>bu _ (bu _ (hMf x (hfo▸hx)))) (bu _ (bu _ hM1)) (bu _ (bu _ hM2)) (bu _ (bu _ hM3))
     (fun h x hx=>bu _ (bp _ (by rw[if_pos (by omega)];exact hx))) (fun h x hx=>bp _ (by rw[if_pos (by omega)];exact hx))),aB]
  |false=>
   rw[aO];by_cases e1:f.1=g.1
   ·rw[vW e1,aO];by_cases e2:f.2.1=g.2.1
    ·obtain⟨q,q1,q2⟩:=aV0 (N:=N) f.2.2 g.2.2 (by omega) (by omega);rw[vW e2,aO,q1,aB,aH,aB];dsimp only;cases q with
     |true=>
      have hz:rF=rG:=by rw[<-hrF,<-hrG,e1,e2,q2.1 rfl]
      rw[aM,hz,beq_self_eq_true,aM,aB]
     |false=>
      have hne:f.2.2≠g.2.2:=fun h=>by cases q2.2 h
      rw[aO];cases hz:rF.l==rG.l with
      |false=>rw[gj,aM,aB]
      |true=>
       have hzz:rF=rG:=Arr.ext (eq_of_beq hz);have fo2:eN N (g.1,(g.2.1,g.2.2))=_:=aGo hN g hq nl' (by rw[<-e1];exact hg1) (by rw[<-e2];exact hy1);rw[za4,aO,fo2,aB,aH,aH,aC (by rw[<-hfo];omega),aH,aBa (by rw[κ,<-hfo];omega) (by rw[κ,<-hfo];omega)
        (aXo hN hp hq gf gg' e1 e2 hne (by rw[hrF,hrG,hzz]) (fun x hx=>bu _ (hfo▸hx)) (fun x hx=>bp _ hx)),aB,aB]
    ·rw[vX e2,aM,aH,aB];dsimp only;rw[aM];cases rF.l==rG.l with
     |true=>rw[aM,aB]
     |false=>rw[aO,vW e1,aO,aB,vX e2]
   ·rw[vX e1,aM,aH,aB];dsimp only;rw[aM];cases rF.l==rG.l with
    |true=>rw[aM,aB]
    |false=>rw[aO,vX e1,aM,aB]
section
variable{N:Nat}(rec:Str->Bool->(TK×TK)->Int->Int->Int->TF->Int->Int->TF->(Arr 16)->Int->Int->(Arr 16)->TB->Int->Int->(Arr 16)->Str->Str->TB->TB->Option Bool)(f g:Fo)(s:Str)(a b:Int)(l:List Str)(c d:Int)(k:List Str)(D:Arr 16)(i n:Int)(t:Arr 16)(p:List (Arr 16))(I S:Int)(T:Arr 16)(L R:Str)(LP RP:List (Arr 16))
theorem bGx(hN:1100000<=N):aV N rec s true (f,g) 0 a b l c d k D i n t p I S T L R LP RP=some true\/
  (chk f=0/\(∀x∈f.2.2,x.length<=400)/\aV N rec s true (f,g) 0 a b l c d k D i n t p I S T L R LP RP=rec s true (f,g) (0+1) a b l c d k D i n t p I S T L R LP RP):=by
 unfold aV;rw[aJ (decide_eq_true (by decide)),aJ (decide_eq_true (by decide)),aB];dsimp only;rw[za4,aO];obtain⟨w,w1,w2⟩:=aVs hN f;have w1:jH N (f.1,(f.2.1,f.2.2)) 20=some w:=w1;rw[w1,aB];cases w with
 |false=>left;rw[gj,aM,aB];dsimp only;rw[aM]
 |true=>
  rw[za4,aO];by_cases h:((f.2.2.length:Nat):Int)>20
  ·left;rw[aJ (decide_eq_true h),aB];dsimp only;rw[aM]
  ·have hl:=(w2 rfl).2;have c1:bR N (f.1,(f.2.1,f.2.2))=some (chk f):=aDc (by omega) f (fun x hx=>by have:=hl x hx;omega);rw[aK (decide_eq_false h),c1,aB,aB];dsimp only;by_cases hz:chk f=0
   ·right;rw[bCj hz,aO,bF (by decide) (by decide)];exact⟨hz,hl,rfl⟩
   ·left;rw[bFp hz,aM]
theorem bGe(hN:1100000<=N):aV N rec s true (f,g) (0+1) a b l c d k D i n t p I S T L R LP RP=some true\/
  (chk g=0/\(∀x∈g.2.2,x.length<=400)/\aV N rec s true (f,g) (0+1) a b l c d k D i n t p I S T L R LP RP=rec s true (f,g) 2 a b l c d k D i n t p I S T L R LP RP):=by
 unfold aV;rw[aJ (decide_eq_true (by decide)),aK (decide_eq_false (by decide)),aJ (decide_eq_true (by decide)),aB];dsimp only;rw[za4,aO];obtain⟨w,w1,w2⟩:=aVs hN g;have w1:jH N (g.1,(g.2.1,g.2.2)) 20=some w:=w1;rw[w1,aB];cases w with
 |false=>left;rw[gj,aM,aB];dsimp only;rw[aM]
 |true=>
  rw[za4,aO];by_cases h:((g.2.2.length:Nat):Int)>20
  ·left;rw[aJ (decide_eq_true h),aB];dsimp only;rw[aM]
  ·have hl:=(w2 rfl).2;have c1:bR N (g.1,(g.2.1,g.2.2))=some (chk g):=aDc (by omega) g (fun x hx=>by have:=hl x hx;omega);rw[aK (decide_eq_false h),c1,aB,aB];dsimp only;by_cases hz:chk g=0
   ·right;rw[bCj hz,aO,bF (by decide) (by decide)];exact⟨hz,hl,rfl⟩
   ·left;rw[bFp hz,aM]
end
theorem aNb(hN:1100000<=N)(hsan:jO N=some true)(f g:Fo)(s:Str)(D:Arr 16)(pf:Prf)(ab:Abs)(hn:I64 pf.2.1)(hI:I64 ab.1)(hS:I64 ab.2.1)(ht:BA pf.2.2.1)(hT:BA ab.2.2.1)(hpB:∀q∈pf.2.2.2,BA q)(hlB:∀q∈ab.2.2.2.2.2.1,BA q)(hrB:∀q∈ab.2.2.2.2.2.2,BA q):
  fZ N (f,g) s (D,(pf,ab))=some true:=by
 obtain⟨i,n,t,p⟩:=pf;obtain⟨I,S,T,L,R,LP,RP⟩:=ab;dsimp only at hn hI hS ht hT hpB hlB hrB;obtain⟨m,hm⟩:∃m,N=m+3:=⟨N-3,by omega⟩;have key:cL N (m+3) s true (f,g) 0 f.1 f.2.1 f.2.2 g.1 g.2.1 g.2.2 D i n t p I S T L R LP RP=some true:=by
  rw[bBp];rcases bGx (cL N (m+2)) f g s f.1 f.2.1 f.2.2 g.1 g.2.1 g.2.2 D i n t p I S T L R LP RP hN with h|⟨h1,h2,h3⟩
  ·exact h
  ·rw[h3,bBp];rcases bGe (cL N (m+1)) f g s f.1 f.2.1 f.2.2 g.1 g.2.1 g.2.2 D i n t p I S T L R LP RP hN with h|⟨k1,k2,k3⟩
   ·exact h
   ·rw[k3,bBp];exact aV3 hN _ f g f g s D i n t p I S T L R LP RP h1 k1 (fun x hx=>by have:=h2 x hx;omega) (fun x hx=>by have:=k2 x hx;omega) hn hI hS ht hT hpB hlB hrB
 rw[<-hm]at key;unfold fZ;rw[hsan,aB];exact key
abbrev dA:List Ty:=[.w (.p tF tF),.s,.w (.p tB (.p tM tJ))]
theorem aNd(h:IntKind.min .i64<=n/\n<=ji .i64):I64 n:=by
 have e1:IntKind.min .i64=-9223372036854775808:=by decide
 have e2:ji .i64=9223372036854775807:=by decide
 rw[e1,e2]at h;exact h
theorem aKf(h:(Ty.ar 16 .u8).ok a):BA a:=fun y hy=>by
 have e1:IntKind.min .u8=0:=by decide
 have e2:ji .u8=255:=by decide
 have:=h y hy;rw[e1,e2]at this;omega
theorem aQs(N:Nat)(x0:(dA[0]).T)(x1:(dA[1]).T)(x2:(dA[2]).T)(h:fZ N x0 x1 x2=some true):ACall Tryd.prog 10 (aGj dA (x0,(x1,(x2,())))) [] (.D (.B true)) [] []:=by
 letI:YL:=⟨0⟩
 have q:ACall Tryd.prog 10 [(aA1 dA[0] x0).er,(aA1 .s x1).er,(aA1 dA[2] x2).er] [] (.D (.B true)) [] []:=yG N (x0,(x1,(x2,()))) true h [] rfl;rw[yO,yO,yO]at q;exact q
theorem binds_acall:∀x:tup dA,aL8 dA x->ACall Tryd.prog 10 (aGj dA x) [] (.D (.B true)) [] []
 |(x0,(x1,(x2,()))),hx=>aQs 17179869200 x0 x1 x2 (by
  obtain⟨_,_,⟨_,⟨_,n1,t1,_,p1⟩,⟨i2,n2,t2,_,_,⟨_,l2⟩,_,r2⟩⟩,_⟩:=hx;exact aNb (by omega) aV1 x0.1 x0.2 x1 x2.1 x2.2.1 x2.2.2 (aNd n1) (aNd i2) (aNd n2) (aKf t1) (aKf t2) (fun q hq=>aKf (p1 q hq)) (fun q hq=>aKf (l2 q hq)) (fun q hq=>aKf (r2 q hq)))
end Go.Proofs.Tryd
